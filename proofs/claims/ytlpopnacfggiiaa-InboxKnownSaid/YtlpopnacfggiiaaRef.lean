/- Layer 14: the document's inbox (of bytes), by its contracts: New, Ack, Waits, on. -/
import Derived.Test.YtlpopnacfggiiaaByt
import Derived.Test.YtlpopnacfggiiaaPInboxKnownx1
set_option linter.unusedVariables false
set_option linter.unusedSimpArgs false
namespace Go.Proofs.Ytlpopnacfggiiaa.Ref
open Go.RowKit Go.Proofs.Ytlpopnacfggiiaa.Base Go.Proofs.Ytlpopnacfggiiaa.Byt Go.Proofs.YtlpopnacfggiiaaW.PrintWords Go.Proofs.YtlpopnacfggiiaaW.PrintLast Go.Proofs.YtlpopnacfggiiaaW.PrintMore

def nils : Sl := ⟨none, 0, 0⟩
def fl (rs : List (Option Sl)) (i : Nat) : Value := .bool (rs.getD i none).isSome
def sv (rs : List (Option Sl)) (i : Nat) : Value := enc ((rs.getD i none).getD nils)
/-- The cells of the document's inbox. -/
def qc (nx : Int) (rs : List (Option Sl)) : Array Value := #[.int .i64 nx, fl rs 0, fl rs 1, fl rs 2, fl rs 3, sv rs 0, sv rs 1, sv rs 2, sv rs 3]
structure QA (w : World) (q : Nat) (nx : Int) (rs : List (Option Sl)) : Prop where
  hq : w.heap[q]? = some (.cells (qc nx rs) 59 (0, 0))
  h0 : 0 ≤ nx
  h1 : nx ≤ 65535
  hl : rs.length = 4
theorem QA.lt {w : World} {q : Nat} {nx : Int} {rs : List (Option Sl)} (h : QA w q nx rs) : q < w.heap.size := (Array.getElem?_eq_some_iff.1 h.hq).1
theorem QA.kept {w w' : World} {q : Nat} {nx : Int} {rs : List (Option Sl)} (h : QA w q nx rs) (hb : w'.heap[q]? = w.heap[q]?) : QA w' q nx rs := ⟨hb.trans h.hq, h.h0, h.h1, h.hl⟩
theorem new_yes (nx : Int) (w : World) (h0 : 0 ≤ nx) (h1 : nx ≤ 65535) : Calls Try.prog 8 #[.int .i64 nx] w fun e w' => e = .returned (.tuple #[.pointer (some ⟨w.heap.size, 0, none⟩), .int .i64 0]) ∧ QA w' w.heap.size nx [none, none, none, none] ∧ Below w.heap.size w w' := by
  have hu := Try.underlying59
  go_enter Try.func8, Try.ntmps8
  go_wp2
  go_ret2
  refine ⟨rfl, ⟨?_, h0, h1, rfl⟩, (Below.refl _ w).alloc (Nat.le_refl _) _⟩
  exact heap_alloc_new w _
theorem new_no (nx : Int) (w : World) (h : ¬ (0 ≤ nx ∧ nx ≤ 65535)) : Calls Try.prog 8 #[.int .i64 nx] w fun e w' => e = .returned (.tuple #[.pointer none, .int .i64 2]) ∧ w = w' := by
  by_cases h1 : nx < 0
  · clear h
    go_enter Try.func8, Try.ntmps8
    go_wp2
    go_ret2
    exact ⟨rfl, rfl⟩
  have h4 : 65535 < nx := by omega
  clear h
  go_enter Try.func8, Try.ntmps8
  go_wp2
  go_ret2
  exact ⟨rfl, rfl⟩
theorem QA.cell {w : World} {q : Nat} {nx : Int} {rs : List (Option Sl)} (h : QA w q nx rs) (i : Nat) : w.cell? ⟨q, i, none⟩ = (qc nx rs)[i]? := by
  rw [blk_cell h.hq]
theorem ack_c (q : Nat) (nx : Int) (rs : List (Option Sl)) (w : World) (h : QA w q nx rs) : Calls Try.prog 9 #[.pointer (some ⟨q, 0, none⟩)] w fun e w' => e = .returned (.int .i64 nx) ∧ w = w' := by
  have c0 : w.cell? ⟨q, 0, none⟩ = some (.int .i64 nx) := h.cell 0
  clear h
  go_enter Try.func9, Try.ntmps9
  go_wp2
  go_ret
  exact ⟨rfl, rfl⟩
theorem waits_c (q : Nat) (nx : Int) (rs : List (Option Sl)) (w : World) (h : QA w q nx rs) : Calls Try.prog 15 #[.pointer (some ⟨q, 0, none⟩)] w fun e w' => e = .returned (.int .i64 (cnt rs : Int)) ∧ w = w' := by
  obtain ⟨a, b, c, d, rfl⟩ : ∃ a b c d, rs = [a, b, c, d] := by
    have := h.hl
    match rs, this with
    | [a, b, c, d], _ => exact ⟨a, b, c, d, rfl⟩
  have c0 : w.cell? ⟨q, 1, none⟩ = some (.bool a.isSome) := h.cell 1
  have c1 : w.cell? ⟨q, 2, none⟩ = some (.bool b.isSome) := h.cell 2
  have c2 : w.cell? ⟨q, 3, none⟩ = some (.bool c.isSome) := h.cell 3
  have c3 : w.cell? ⟨q, 4, none⟩ = some (.bool d.isSome) := h.cell 4
  clear h
  have hcnt : cnt [a, b, c, d] = a.isSome.toNat + b.isSome.toNat + c.isSome.toNat + d.isSome.toNat := by
    cases a <;> cases b <;> cases c <;> cases d <;> rfl
  rw [hcnt]
  clear hcnt
  generalize a.isSome = a at *
  generalize b.isSome = b at *
  generalize c.isSome = c at *
  generalize d.isSome = d at *
  go_enter Try.func15, Try.ntmps15
  go_wp2_with fail
  go_loop [3, 4] (fun v3 v4 => ∃ i n : Nat, i ≤ 4 ∧ v4 = .int .i64 (i : Int) ∧ v3 = .int .i64 (n : Int) ∧ n = (if 0 < i then a.toNat else 0) + (if 1 < i then b.toNat else 0) + (if 2 < i then c.toNat else 0) + (if 3 < i then d.toNat else 0)) (fun _ v => 4 - (intOf v).toNat)
  case atStart => exact ⟨0, 0, by omega, rfl, rfl, rfl⟩
  case round =>
    obtain ⟨i, n, hi, rfl, rfl, hn⟩ := hrel
    have HN := Bx.mk hn
    clear hn
    have hn4 : n ≤ 4 := by
      have h := HN.out
      cases a <;> cases b <;> cases c <;> cases d <;> simp at h <;> (repeat' split at h) <;> omega
    have h5 : i = 0 ∨ i = 1 ∨ i = 2 ∨ i = 3 ∨ i = 4 := by omega
    rcases h5 with rfl | rfl | rfl | rfl | rfl
    · cases a
      · go_wp2_with fail
        go_round
        case rel => exact ⟨1, n, by omega, rfl, rfl, by have := HN.out; simpa using this⟩
        case measure => decide
      · go_wp2_with fail
        go_round
        case rel => exact ⟨1, n + 1, by omega, rfl, by simp, by have := HN.out; simp at this ⊢; omega⟩
        case measure => decide
    · cases b
      · go_wp2_with fail
        go_round
        case rel => exact ⟨2, n, by omega, rfl, rfl, by have := HN.out; simpa using this⟩
        case measure => decide
      · go_wp2_with fail
        go_round
        case rel => exact ⟨2, n + 1, by omega, rfl, by simp, by have := HN.out; simp at this ⊢; omega⟩
        case measure => decide
    · cases c
      · go_wp2_with fail
        go_round
        case rel => exact ⟨3, n, by omega, rfl, rfl, by have := HN.out; simpa using this⟩
        case measure => decide
      · go_wp2_with fail
        go_round
        case rel => exact ⟨3, n + 1, by omega, rfl, by simp, by have := HN.out; simp at this ⊢; omega⟩
        case measure => decide
    · cases d
      · go_wp2_with fail
        go_round
        case rel => exact ⟨4, n, by omega, rfl, rfl, by have := HN.out; simpa using this⟩
        case measure => decide
      · go_wp2_with fail
        go_round
        case rel => exact ⟨4, n + 1, by omega, rfl, by simp, by have := HN.out; simp at this ⊢; omega⟩
        case measure => decide
    · go_wp2_with fail
      go_ret
      exact ⟨by have h := HN.out; simp at h; rw [h]; simp, rfl⟩
theorem only_trans {g : Nat} {u v w : World} (h : Only g u v) (k : Only g v w) : Only g u w :=
  ⟨k.os.trans h.os, k.tape.trans h.tape, k.output.trans h.output, Nat.le_trans h.size k.size, fun i hi h1 => (k.block i (by have := h.size; omega) h1).trans (h.block i hi h1)⟩
theorem plus_c (nx : Int) (w : World) (h0 : 0 ≤ nx) (h1 : nx ≤ 65535) : Calls Try.prog 35 #[.int .i64 nx, .int .i64 1] w fun e w' => e = .returned (.int .i64 ((nx + 1) % 65536)) ∧ Drawn0 w w' :=
  (Go.Proofs.Ytlpopnacfggiiaa.PInboxKnown.catenaryref02_Plus.calls nx 1 ((nx + 1) % 65536) w (by
    have e1 : Go.Proofs.Ytlpopnacfggiiaa.PInboxKnown.catenaryref00_Bring.f 1 65536 = some 1 := by decide
    unfold Go.Proofs.Ytlpopnacfggiiaa.PInboxKnown.catenaryref02_Plus.f
    rw [e1]
    have e2 : wrap64 (nx + 1) = nx + 1 := by unfold wrap64; omega
    rw [Option.bind_some, e2, Int.tmod_eq_emod_of_nonneg (by omega)]))
theorem set_cells {w : World} {q : Nat} {t : TypeId} {cs ds : Array Value} (h : w.heap[q]? = some (.cells cs t (0, 0))) (i : Nat) (u : Value) (e : cs.setIfInBounds i u = ds) : (w.setCell ⟨q, i, none⟩ u).heap[q]? = some (.cells ds t (0, 0)) := e ▸ blk_set h i u
def stage (a b c d : Option Sl) : Nat → List (Option Sl)
  | 0 => [a, b, c, d]
  | 1 => [b, b, c, d]
  | 2 => [b, c, c, d]
  | _ => [b, c, d, d]
set_option maxRecDepth 100000 in
theorem on_c (q : Nat) (nx : Int) (a b c d : Option Sl) (w : World) (h : QA w q nx [a, b, c, d]) : Calls Try.prog 28 #[.pointer (some ⟨q, 0, none⟩)] w fun e w' => e = .returned (.tuple #[]) ∧ QA w' q ((nx + 1) % 65536) [b, c, d, none] ∧ Only q w w' := by
  have c0 : w.cell? ⟨q, 0, none⟩ = some (.int .i64 nx) := h.cell 0
  have h0 := h.h0
  have h1 := h.h1
  have HQ := Bx.mk h.hq
  clear h
  go_enter Try.func28, Try.ntmps28
  go_wp2_with fail
  refine (plus_c nx _ h0 h1).mono ?_
  rintro e w1 ⟨rfl, hdr⟩
  obtain ⟨nd, rfl⟩ := hdr.out
  have f0 : (w.drewN nd).frozen? ⟨q, 0, none⟩ = false := frozen_of_row (w.drewN nd) q 0 _ _ HQ.out
  clear hdr
  go_wp2_with fail
  have H1 : Bx (((w.drewN nd).setCell ⟨q, 0, none⟩ (.int .i64 ((nx + 1) % 65536))).heap[q]? = some (.cells (qc ((nx + 1) % 65536) [a, b, c, d]) 59 (0, 0))) := ⟨set_cells (w := w.drewN nd) HQ.out 0 _ rfl⟩
  have O1 : Bx (Only q w ((w.drewN nd).setCell ⟨q, 0, none⟩ (.int .i64 ((nx + 1) % 65536)))) := ⟨⟨rfl, rfl, rfl, by simp [World.setCell], fun k _ hk => Below.heap_setCell (w.drewN nd) ⟨q, 0, none⟩ _ k hk⟩⟩
  clear c0 f0 HQ
  have HN1 := Bx.mk (show 0 ≤ (nx + 1) % 65536 ∧ (nx + 1) % 65536 ≤ 65535 by omega)
  generalize (w.drewN nd).setCell ⟨q, 0, none⟩ (.int .i64 ((nx + 1) % 65536)) = w1 at *
  generalize hmx : (nx + 1) % 65536 = mx at *
  have HMX := Bx.mk hmx
  clear hmx
  clear h0 h1
  go_loopw [2] (fun v wr => ∃ i : Nat, i ≤ 3 ∧ v = .int .i64 (i : Int) ∧ Bx (wr.heap[q]? = some (.cells (qc mx (stage a b c d i)) 59 (0, 0))) ∧ Bx (Only q w wr)) (fun v _ => 3 - (intOf v).toNat)
  case atStart => exact ⟨0, by omega, rfl, H1, O1⟩
  case round =>
    clear H1 O1
    obtain ⟨i, hi, rfl, HQ, HO⟩ := hrel
    have h3 : i = 0 ∨ i = 1 ∨ i = 2 ∨ i = 3 := by omega
    rcases h3 with rfl | rfl | rfl | rfl
    · have HS := HQ.out
      simp only [stage] at HS
      have c2 : wr.cell? ⟨q, 2, none⟩ = some (.bool b.isSome) := by rw [blk_cell HS]; rfl
      have c1 : wr.cell? ⟨q, 1, none⟩ = some (.bool a.isSome) := by rw [blk_cell HS]; rfl
      have f1 : wr.frozen? ⟨q, 1, none⟩ = false := frozen_of_row wr q 1 _ _ HS
      clear HS
      go_wp2_with fail
      go_region
      have HS2 := set_cells (w := wr) (i := 1) (u := .bool b.isSome) (ds := #[.int .i64 mx, .bool b.isSome, .bool b.isSome, .bool c.isSome, .bool d.isSome, enc (a.getD nils), enc (b.getD nils), enc (c.getD nils), enc (d.getD nils)]) HQ.out rfl
      have O2 : Only q w (wr.setCell ⟨q, 1, none⟩ (.bool b.isSome)) := only_trans HO.out ⟨rfl, rfl, rfl, by simp [World.setCell], fun k _ hk => Below.heap_setCell wr ⟨q, 1, none⟩ _ k hk⟩
      generalize wr.setCell ⟨q, 1, none⟩ (.bool b.isSome) = w2 at *
      clear c1 c2 f1
      have c2 : w2.cell? ⟨q, 6, none⟩ = some (.slice (b.getD nils).A (b.getD nils).n (b.getD nils).c) := by rw [blk_cell HS2]; rfl
      have c1 : w2.cell? ⟨q, 5, none⟩ = some (.slice (a.getD nils).A (a.getD nils).n (a.getD nils).c) := by rw [blk_cell HS2]; rfl
      have f1 : w2.frozen? ⟨q, 5, none⟩ = false := frozen_of_row w2 q 5 _ _ HS2
      have HS2 := Bx.mk HS2
      have O2 := Bx.mk O2
      clear HQ HO
      go_wp2_with fail
      go_region
      have HS3 := Bx.mk (set_cells (w := w2) (i := 5) (u := .slice (b.getD nils).A (b.getD nils).n (b.getD nils).c) (ds := qc mx (stage a b c d 1)) HS2.out rfl)
      have O3 : Bx (Only q w (w2.setCell ⟨q, 5, none⟩ (.slice (b.getD nils).A (b.getD nils).n (b.getD nils).c))) := ⟨only_trans O2.out ⟨rfl, rfl, rfl, by simp [World.setCell], fun k _ hk => Below.heap_setCell w2 ⟨q, 5, none⟩ _ k hk⟩⟩
      go_wp2_with fail
      go_roundw
      case rel => exact ⟨1, by omega, rfl, ⟨HS3.out⟩, ⟨⟨O3.out.os, O3.out.tape, O3.out.output, O3.out.size, O3.out.block⟩⟩⟩
      case measure => decide
    · have HS := HQ.out
      simp only [stage] at HS
      have c2 : wr.cell? ⟨q, 3, none⟩ = some (.bool c.isSome) := by rw [blk_cell HS]; rfl
      have c1 : wr.cell? ⟨q, 2, none⟩ = some (.bool b.isSome) := by rw [blk_cell HS]; rfl
      have f1 : wr.frozen? ⟨q, 2, none⟩ = false := frozen_of_row wr q 2 _ _ HS
      clear HS
      go_wp2_with fail
      go_region
      have HS2 := set_cells (w := wr) (i := 2) (u := .bool c.isSome) (ds := #[.int .i64 mx, .bool b.isSome, .bool c.isSome, .bool c.isSome, .bool d.isSome, enc (b.getD nils), enc (b.getD nils), enc (c.getD nils), enc (d.getD nils)]) HQ.out rfl
      have O2 : Only q w (wr.setCell ⟨q, 2, none⟩ (.bool c.isSome)) := only_trans HO.out ⟨rfl, rfl, rfl, by simp [World.setCell], fun k _ hk => Below.heap_setCell wr ⟨q, 2, none⟩ _ k hk⟩
      generalize wr.setCell ⟨q, 2, none⟩ (.bool c.isSome) = w2 at *
      clear c1 c2 f1
      have c2 : w2.cell? ⟨q, 7, none⟩ = some (.slice (c.getD nils).A (c.getD nils).n (c.getD nils).c) := by rw [blk_cell HS2]; rfl
      have c1 : w2.cell? ⟨q, 6, none⟩ = some (.slice (b.getD nils).A (b.getD nils).n (b.getD nils).c) := by rw [blk_cell HS2]; rfl
      have f1 : w2.frozen? ⟨q, 6, none⟩ = false := frozen_of_row w2 q 6 _ _ HS2
      have HS2 := Bx.mk HS2
      have O2 := Bx.mk O2
      clear HQ HO
      go_wp2_with fail
      go_region
      have HS3 := Bx.mk (set_cells (w := w2) (i := 6) (u := .slice (c.getD nils).A (c.getD nils).n (c.getD nils).c) (ds := qc mx (stage a b c d 2)) HS2.out rfl)
      have O3 : Bx (Only q w (w2.setCell ⟨q, 6, none⟩ (.slice (c.getD nils).A (c.getD nils).n (c.getD nils).c))) := ⟨only_trans O2.out ⟨rfl, rfl, rfl, by simp [World.setCell], fun k _ hk => Below.heap_setCell w2 ⟨q, 6, none⟩ _ k hk⟩⟩
      go_wp2_with fail
      go_roundw
      case rel => exact ⟨2, by omega, rfl, ⟨HS3.out⟩, ⟨⟨O3.out.os, O3.out.tape, O3.out.output, O3.out.size, O3.out.block⟩⟩⟩
      case measure => decide
    · have HS := HQ.out
      simp only [stage] at HS
      have c2 : wr.cell? ⟨q, 4, none⟩ = some (.bool d.isSome) := by rw [blk_cell HS]; rfl
      have c1 : wr.cell? ⟨q, 3, none⟩ = some (.bool c.isSome) := by rw [blk_cell HS]; rfl
      have f1 : wr.frozen? ⟨q, 3, none⟩ = false := frozen_of_row wr q 3 _ _ HS
      clear HS
      go_wp2_with fail
      go_region
      have HS2 := set_cells (w := wr) (i := 3) (u := .bool d.isSome) (ds := #[.int .i64 mx, .bool b.isSome, .bool c.isSome, .bool d.isSome, .bool d.isSome, enc (b.getD nils), enc (c.getD nils), enc (c.getD nils), enc (d.getD nils)]) HQ.out rfl
      have O2 : Only q w (wr.setCell ⟨q, 3, none⟩ (.bool d.isSome)) := only_trans HO.out ⟨rfl, rfl, rfl, by simp [World.setCell], fun k _ hk => Below.heap_setCell wr ⟨q, 3, none⟩ _ k hk⟩
      generalize wr.setCell ⟨q, 3, none⟩ (.bool d.isSome) = w2 at *
      clear c1 c2 f1
      have c2 : w2.cell? ⟨q, 8, none⟩ = some (.slice (d.getD nils).A (d.getD nils).n (d.getD nils).c) := by rw [blk_cell HS2]; rfl
      have c1 : w2.cell? ⟨q, 7, none⟩ = some (.slice (c.getD nils).A (c.getD nils).n (c.getD nils).c) := by rw [blk_cell HS2]; rfl
      have f1 : w2.frozen? ⟨q, 7, none⟩ = false := frozen_of_row w2 q 7 _ _ HS2
      have HS2 := Bx.mk HS2
      have O2 := Bx.mk O2
      clear HQ HO
      go_wp2_with fail
      go_region
      have HS3 := Bx.mk (set_cells (w := w2) (i := 7) (u := .slice (d.getD nils).A (d.getD nils).n (d.getD nils).c) (ds := qc mx (stage a b c d 3)) HS2.out rfl)
      have O3 : Bx (Only q w (w2.setCell ⟨q, 7, none⟩ (.slice (d.getD nils).A (d.getD nils).n (d.getD nils).c))) := ⟨only_trans O2.out ⟨rfl, rfl, rfl, by simp [World.setCell], fun k _ hk => Below.heap_setCell w2 ⟨q, 7, none⟩ _ k hk⟩⟩
      go_wp2_with fail
      go_roundw
      case rel => exact ⟨3, by omega, rfl, ⟨HS3.out⟩, ⟨⟨O3.out.os, O3.out.tape, O3.out.output, O3.out.size, O3.out.block⟩⟩⟩
      case measure => decide
    · have HS := HQ.out
      simp only [stage] at HS
      have c1 : wr.cell? ⟨q, 4, none⟩ = some (.bool d.isSome) := by rw [blk_cell HS]; rfl
      have f1 : wr.frozen? ⟨q, 4, none⟩ = false := frozen_of_row wr q 4 _ _ HS
      have HS2 := set_cells (i := 4) (u := .bool false) (ds := #[.int .i64 mx, .bool b.isSome, .bool c.isSome, .bool d.isSome, .bool false, enc (b.getD nils), enc (c.getD nils), enc (d.getD nils), enc (d.getD nils)]) HS rfl
      have c2 : (wr.setCell ⟨q, 4, none⟩ (.bool false)).cell? ⟨q, 8, none⟩ = some (.slice (d.getD nils).A (d.getD nils).n (d.getD nils).c) := by rw [blk_cell HS2]; rfl
      have f2 : (wr.setCell ⟨q, 4, none⟩ (.bool false)).frozen? ⟨q, 8, none⟩ = false := frozen_of_row _ q 8 _ _ HS2
      have HS3 := Bx.mk (set_cells (i := 8) (u := .slice none 0 0) (ds := qc mx [b, c, d, none]) HS2 rfl)
      have O3 : Bx (Only q w ((wr.setCell ⟨q, 4, none⟩ (.bool false)).setCell ⟨q, 8, none⟩ (.slice none 0 0))) := ⟨only_trans (only_trans (v := wr) (w := wr.setCell ⟨q, 4, none⟩ (.bool false)) HO.out ⟨rfl, rfl, rfl, by simp [World.setCell], fun k _ hk => Below.heap_setCell wr ⟨q, 4, none⟩ _ k hk⟩) ⟨rfl, rfl, rfl, by simp [World.setCell], fun k _ hk => Below.heap_setCell _ ⟨q, 8, none⟩ _ k hk⟩⟩
      clear HS HS2 HQ HO
      go_wp2_with fail
      go_end0
      rw [HMX.out]
      exact ⟨rfl, ⟨HS3.out, HN1.out.1, HN1.out.2, rfl⟩, O3.out⟩
end Go.Proofs.Ytlpopnacfggiiaa.Ref
