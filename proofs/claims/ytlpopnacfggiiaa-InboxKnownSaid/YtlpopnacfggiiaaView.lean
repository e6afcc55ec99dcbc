/- Layer 14: what an inbox keeps, by how far it is ahead. -/
import Derived.Test.YtlpopnacfggiiaaBase
set_option linter.unusedVariables false
set_option linter.unusedSimpArgs false
namespace Go.Proofs.Ytlpopnacfggiiaa.Base
open Go.RowKit Go.Proofs.YtlpopnacfggiiaaW.PrintWords Go.Proofs.YtlpopnacfggiiaaW.PrintLast Go.Proofs.YtlpopnacfggiiaaW.PrintMore

theorem u16w (x : Int) : IntKind.u16.wrap x = x % 65536 := by
  have h : IntKind.u16.wrap x = x % 2 ^ 16 := by simp [IntKind.wrap, IntKind.signed, IntKind.bits]
  rw [h]; rfl
section
variable {α : Type}
/-- What is kept at a number: nx is the next one. -/
def view (enc : α → Value) (nx : Int) (a : List (Option α)) (k : Int) : Option Value :=
  if (k - nx) % 65536 < 4 then (a.getD ((k - nx) % 65536).toNat none).map enc else none
def cnt (a : List (Option α)) : Nat := (a.filter Option.isSome).length
theorem view_next {enc : α → Value} {nx : Int} {a : Option α} {r : List (Option α)} (h0 : 0 ≤ nx) (h1 : nx ≤ 65535) (hl : r.length = 3) (k : Int) (k0 : 0 ≤ k) (k1 : k ≤ 65535) :
    put (view enc nx (a :: r)) nx none k = view enc ((nx + 1) % 65536) (r ++ [none]) k := by
  unfold put view
  by_cases e : k = nx
  · subst e
    rw [if_pos rfl]
    have : (k - (k + 1) % 65536) % 65536 = 65535 := by omega
    rw [this]; simp
  · rw [if_neg e]
    obtain ⟨j, hj⟩ : ∃ j, (k - (nx + 1) % 65536) % 65536 = j := ⟨_, rfl⟩
    have hj' : (k - nx) % 65536 = j + 1 := by omega
    have hj0 : 0 ≤ j := by omega
    rw [hj, hj']
    obtain ⟨m, rfl⟩ : ∃ m : Nat, j = m := ⟨j.toNat, by omega⟩
    by_cases h3 : m < 3
    · rw [if_pos (by omega), if_pos (by omega)]
      have e1 : ((m : Int) + 1).toNat = m + 1 := by omega
      rw [e1]
      simp [List.getD, List.getElem?_append, hl, h3]
    · rw [if_neg (by omega)]
      by_cases h4 : m < 4
      · obtain rfl : m = 3 := by omega
        rw [if_pos (by omega)]
        have : ((3 : Nat) : Int).toNat = 3 := by omega
        simp [List.getD, List.getElem?_append, hl]
      · rw [if_neg (by omega)]
theorem view_put {enc : α → Value} {nx seq : Int} {a : List (Option α)} {d : Nat} (h0 : 0 ≤ nx) (h1 : nx ≤ 65535) (s0 : 0 ≤ seq) (s1 : seq ≤ 65535) (hl : a.length = 4) (hd : (seq - nx) % 65536 = d) (hd4 : d < 4) (v : α) (k : Int) (k0 : 0 ≤ k) (k1 : k ≤ 65535) :
    put (view enc nx a) seq (some (enc v)) k = view enc nx (a.set d (some v)) k := by
  unfold put view
  by_cases e : k = seq
  · subst e
    rw [if_pos rfl, hd, if_pos (by omega)]
    simp [List.getD, hl, hd4]
  · rw [if_neg e]
    by_cases h4 : (k - nx) % 65536 < 4
    · rw [if_pos h4, if_pos h4]
      have hne : d ≠ ((k - nx) % 65536).toNat := by omega
      simp [List.getD, List.getElem?_set_ne hne]
    · rw [if_neg h4, if_neg h4]
theorem view_seq {enc : α → Value} {nx seq : Int} {a : List (Option α)} {d : Nat} (hd : (seq - nx) % 65536 = d) (hd4 : d < 4) : view enc nx a seq = (a.getD d none).map enc := by
  unfold view
  rw [hd, if_pos (by omega)]
  simp
theorem view_zero {enc : α → Value} {nx : Int} {a : List (Option α)} : view enc nx a nx = (a.getD 0 none).map enc := view_seq (d := 0) (by simp) (by decide)
theorem cnt_set {a : List (Option α)} {d : Nat} (hd : d < a.length) (h : a.getD d none = none) (v : α) : cnt (a.set d (some v)) = cnt a + 1 := by
  induction a generalizing d with
  | nil => simp at hd
  | cons x r ih =>
    cases d with
    | zero =>
      obtain rfl : x = none := by simpa using h
      simp [cnt]
    | succ d =>
      have := ih (d := d) (by simpa using hd) (by simpa using h)
      unfold cnt at this ⊢
      cases x <;> simp [List.filter_cons] at this ⊢ <;> omega
theorem cnt_next {u : α} {r : List (Option α)} : cnt (some u :: r) = cnt (r ++ [none]) + 1 := by simp [cnt, List.filter_append]
theorem cnt_le {a : List (Option α)} (h : a.length = 4) : cnt a ≤ 4 := by rw [← h]; exact List.length_filter_le _ _
theorem view_none {enc : α → Value} (nx k : Int) : view enc nx [none, none, none, none] k = none := by
  unfold view
  split
  · rename_i h
    obtain ⟨m, hm⟩ : ∃ m : Nat, (k - nx) % 65536 = m := ⟨((k - nx) % 65536).toNat, by omega⟩
    rw [hm]
    have : m = 0 ∨ m = 1 ∨ m = 2 ∨ m = 3 := by omega
    rcases this with rfl | rfl | rfl | rfl <;> rfl
  · rfl

/-- A message has come, d ahead of the next one. -/
def came (a : List (Option α)) (d : Nat) (v : α) : List (Option α) := if (a.getD d none).isSome then a else a.set d (some v)
/-- How many are in order now. -/
def lead (a : List (Option α)) : Nat := (a.takeWhile Option.isSome).length
def told (a : List (Option α)) : List α := (a.takeWhile Option.isSome).filterMap id
/-- What is kept when those that are in order were told. -/
def rest (a : List (Option α)) : List (Option α) := a.drop (lead a) ++ List.replicate (lead a) none
theorem came_length (a : List (Option α)) (d : Nat) (v : α) : (came a d v).length = a.length := by unfold came; split <;> simp
theorem lead_le (a : List (Option α)) : lead a ≤ a.length := by
  unfold lead
  exact (List.takeWhile_sublist _).length_le
theorem lead_some {u : α} {r : List (Option α)} : lead (some u :: r) = lead r + 1 := by simp [lead, List.takeWhile_cons]
theorem told_some {u : α} {r : List (Option α)} : told (some u :: r) = u :: told r := by simp [told, List.takeWhile_cons]
theorem lead_none {r : List (Option α)} : lead (none :: r) = 0 := by simp [lead, List.takeWhile_cons]
theorem told_none {r : List (Option α)} : told (none :: r) = [] := by simp [told, List.takeWhile_cons]
end

theorem retBool {a b : Bool} (h : a = b) : Ending.returned (.bool a) = .returned (.bool b) := by rw [h]
theorem has_yes (nx seq : Int) (d : Nat) (w : World) (hd : (seq - nx) % 65536 = d) (hd4 : d < 4) : Calls Try.prog 24 #[.agg #[.int .u16 nx, .int .i64 4], .int .u16 seq] w fun e w' => e = .returned (.bool true) ∧ Below w.heap.size w w' :=
  (Go.Proofs.Ytlpopnacfggiiaa.PInboxKnown.inbox_number_Has.calls nx 4 seq true w (by
    unfold Go.Proofs.Ytlpopnacfggiiaa.PInboxKnown.inbox_number_Has.f
    rw [u16w, hd]
    have : wrap64 (d : Int) = d := by unfold wrap64; omega
    rw [this]
    simp; omega))
theorem has_no (nx seq : Int) (w : World) (hd : ¬ (seq - nx) % 65536 < 4) : Calls Try.prog 24 #[.agg #[.int .u16 nx, .int .i64 4], .int .u16 seq] w fun e w' => e = .returned (.bool false) ∧ Below w.heap.size w w' :=
  (Go.Proofs.Ytlpopnacfggiiaa.PInboxKnown.inbox_number_Has.calls nx 4 seq false w (by
    unfold Go.Proofs.Ytlpopnacfggiiaa.PInboxKnown.inbox_number_Has.f
    rw [u16w]
    have : wrap64 ((seq - nx) % 65536) = (seq - nx) % 65536 := by unfold wrap64; omega
    rw [this]
    simp; omega))
theorem plus_c (nx : Int) (w : World) (h0 : 0 ≤ nx) (h1 : nx ≤ 65535) : Calls Try.prog 25 #[.int .u16 nx, .int .i64 1] w fun e w' => e = .returned (.int .u16 ((nx + 1) % 65536)) ∧ Drawn0 w w' :=
  (Go.Proofs.Ytlpopnacfggiiaa.PInboxKnown.inbox_number.calls nx 1 ((nx + 1) % 65536) w (by
    unfold Go.Proofs.Ytlpopnacfggiiaa.PInboxKnown.inbox_number.f
    rw [u16w, u16w]; rfl))
theorem MapIs.congr {w : World} {b n m : Nat} {f f' : Int → Option Value} (h : MapIs w b n f) (hn : n = m) (hf : ∀ k, 0 ≤ k → k ≤ 65535 → f k = f' k) : MapIs w b m f' := by
  obtain ⟨D, ho, hs, hk⟩ := h
  subst hn
  exact ⟨D, ho, hs, fun k k0 k1 => by rw [← hf k k0 k1]; exact hk k k0 k1⟩
/-- An inbox: its next number, its map, what is kept. -/
structure IA {α : Type} (enc : α → Value) (T : TypeId) (w : World) (g b : Nat) (nx : Int) (a : List (Option α)) : Prop where
  hg : w.heap[g]? = some (.cells #[.int .u16 nx, .map (some b)] T (0, 0))
  hm : MapIs w b (cnt a) (view enc nx a)
  h0 : 0 ≤ nx
  h1 : nx ≤ 65535
  hl : a.length = 4
theorem IA.below {α : Type} {enc : α → Value} {T : TypeId} {w w' : World} {g b : Nat} {nx : Int} {a : List (Option α)} (h : IA enc T w g b nx a) (hb : Below w.heap.size w w') : IA enc T w' g b nx a :=
  ⟨(hb.block g (Array.getElem?_eq_some_iff.1 h.hg).1).trans h.hg, h.hm.below hb, h.h0, h.h1, h.hl⟩
theorem IA.ne {α : Type} {enc : α → Value} {T : TypeId} {w : World} {g b : Nat} {nx : Int} {a : List (Option α)} (h : IA enc T w g b nx a) : g ≠ b := by
  rintro rfl; exact h.hm.noCells h.hg
/-- Blocks g and b alone have turned. -/
structure Two (g b : Nat) (w w' : World) : Prop where
  os : w'.os = w.os
  tape : w'.tape = w.tape
  output : w'.output = w.output
  size : w.heap.size ≤ w'.heap.size
  block : ∀ k, k < w.heap.size → k ≠ g → k ≠ b → w'.heap[k]? = w.heap[k]?
theorem Two.refl (g b : Nat) (w : World) : Two g b w w := ⟨rfl, rfl, rfl, Nat.le_refl _, fun _ _ _ _ => rfl⟩
theorem Two.trans {g b : Nat} {u v w : World} (h : Two g b u v) (k : Two g b v w) : Two g b u w :=
  ⟨k.os.trans h.os, k.tape.trans h.tape, k.output.trans h.output, Nat.le_trans h.size k.size, fun i hi h1 h2 => (k.block i (by have := h.size; omega) h1 h2).trans (h.block i hi h1 h2)⟩
theorem Two.of_below {g b : Nat} {v w : World} (h : Below v.heap.size v w) : Two g b v w := ⟨h.os, h.tape, h.output, h.size, fun i hi _ _ => h.block i hi⟩
theorem Two.of_only {g b : Nat} {v w : World} (h : Only b v w) : Two g b v w := ⟨h.os, h.tape, h.output, h.size, fun i hi _ h2 => h.block i hi h2⟩
theorem Two.below {B g b : Nat} {w0 w w' : World} (h : Two g b w w') (hb : Below B w0 w) (hB : B ≤ w.heap.size) (hg : B ≤ g) (hbb : B ≤ b) : Below B w0 w' :=
  hb.trans ⟨h.os, h.tape, h.output, h.size, fun k hk => h.block k (by omega) (by omega) (by omega)⟩
section
variable {α : Type}
theorem told_snoc (r : List (Option α)) : told (r ++ [none]) = told r := by
  induction r with
  | nil => rfl
  | cons x r ih =>
    cases x with
    | none => rw [List.cons_append, told_none, told_none]
    | some u => rw [List.cons_append, told_some, told_some, ih]
theorem lead_snoc (r : List (Option α)) : lead (r ++ [none]) = lead r := by
  induction r with
  | nil => rfl
  | cons x r ih =>
    cases x with
    | none => rw [List.cons_append, lead_none, lead_none]
    | some u => rw [List.cons_append, lead_some, lead_some, ih]
theorem rest_next {u : α} {r : List (Option α)} : rest (r ++ [none]) = rest (some u :: r) := by
  unfold rest
  rw [lead_snoc, lead_some]
  have h := lead_le r
  rw [List.drop_append_of_le_length h, List.drop_succ_cons, List.append_assoc]
  rfl
theorem rest_none {r : List (Option α)} : rest (none :: r) = none :: r := by unfold rest; rw [lead_none]; simp
theorem lead_told (a : List (Option α)) : (told a).length = lead a := by
  induction a with
  | nil => rfl
  | cons x r ih =>
    cases x with
    | none => rw [told_none, lead_none]; rfl
    | some u => rw [told_some, lead_some, List.length_cons, ih]
end
theorem IA.low {α : Type} {enc : α → Value} {T : TypeId} {w w' : World} {g b B : Nat} {nx : Int} {a : List (Option α)} (h : IA enc T w g b nx a) (hb : Below B w w') (hg : g < B) (hbb : b < B) : IA enc T w' g b nx a :=
  ⟨(hb.block g hg).trans h.hg, h.hm.kept (hb.block b hbb), h.h0, h.h1, h.hl⟩
theorem Two.low {g b B : Nat} {u v w : World} (h : Two g b u v) (k : Below B v w) (hB : u.heap.size = B) : Two g b u w :=
  ⟨k.os.trans h.os, k.tape.trans h.tape, k.output.trans h.output, Nat.le_trans h.size k.size, fun i hi h1 h2 => (k.block i (by omega)).trans (h.block i hi h1 h2)⟩
theorem R_two {α : Type} {d : Kd α} {e : Nat} {w w' : World} {B g b : Nat} {v : Value} {xs : List α} (h : d.R e w B (fun _ => True) v xs) (o : Two g b w w') (hg : g < B) (hb : b < B) : d.R e w' B (fun _ => True) v xs := by
  refine Kd.R_mono (Kd.R_move (Kd.R_bound h) ?_) (fun _ _ => trivial)
  rintro k ⟨_, hk, hlt, _⟩
  exact o.block k hlt (by omega) (by omega)
def lenOf : Value → Nat
  | .slice _ n _ => n
  | _ => 0
theorem lenR {α : Type} {d : Kd α} {e : Nat} {w : World} {B : Nat} {ok : Nat → Prop} {v : Value} {xs : List α} (h : d.R e w B ok v xs) : lenOf v = xs.length := by
  obtain ⟨A, c, rfl, _⟩ := Kd.R_reads h
  rfl
theorem turned_two {w w' : World} {g b : Nat} (h : w.mapTurned w' b) : Two g b w w' := Two.of_only (turned_only h)
theorem set_two (w : World) (g b i : Nat) (u : Value) : Two g b w (w.setCell ⟨g, i, none⟩ u) :=
  ⟨rfl, rfl, rfl, by simp [World.setCell], fun k _ hk _ => Below.heap_setCell w ⟨g, i, none⟩ u k hk⟩
theorem Two.lt {g b : Nat} {w w' : World} (h : Two g b w w') : w.heap.size ≤ w'.heap.size := h.size
end Go.Proofs.Ytlpopnacfggiiaa.Base
