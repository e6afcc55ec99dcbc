/- Layer 15: the contracts of package beat's methods. -/
import Derived.Test.YtjjnmbmaahppoaaBase
set_option linter.unusedVariables false
set_option linter.unusedSimpArgs false
namespace Go.Proofs.Ytjjnmbmaahppoaa.Base
open Go.RowKit Go.Proofs.YtjjnmbmaahppoaaW.PrintWords Go.Proofs.YtjjnmbmaahppoaaW.PrintLast Go.Proofs.YtjjnmbmaahppoaaW.PrintMore

theorem Only.refl (g : Nat) (w : World) : Only g w w := ⟨rfl, rfl, rfl, Nat.le_refl _, fun _ _ _ => rfl⟩
theorem Only.trans {g : Nat} {a b c : World} (h : Only g a b) (k : Only g b c) : Only g a c :=
  ⟨k.os.trans h.os, k.tape.trans h.tape, k.output.trans h.output, Nat.le_trans h.size k.size, fun i hi hne => (k.block i (by have := h.size; omega) hne).trans (h.block i hi hne)⟩
theorem Only.below {B g : Nat} {w0 w w' : World} (h : Only g w w') (hb : Below B w0 w) (hB : B ≤ w.heap.size) (hg : B ≤ g) : Below B w0 w' :=
  hb.trans ⟨h.os, h.tape, h.output, h.size, fun k hk => h.block k (by omega) (by omega)⟩
theorem Only.set (w : World) (g i : Nat) (u : Value) : Only g w (w.setCell ⟨g, i, none⟩ u) :=
  ⟨rfl, rfl, rfl, by simp [World.setCell], fun k _ hk => Below.heap_setCell w ⟨g, i, none⟩ u k hk⟩
theorem keep {w w1 : World} {g : Nat} {o : Obj} (h : w.heap[g]? = some o) (hb : Below w.heap.size w w1) : w1.heap[g]? = some o := (hb.block g (Array.getElem?_eq_some_iff.1 h).1).trans h

/-- A beat: its waits, whether it runs, when it is due, how often it was. -/
def BA (w : World) (g : Nat) (f c : Int) (r : Bool) (a : Int) (t : Nat) : Prop := w.heap[g]? = some (.cells #[.int .i64 f, .int .i64 c, .bool r, .int .i64 a, .int .i64 (t : Int)] 35 (0, 0))

theorem none_no (g : Nat) (f : Int) (w : World) (h : w.cell? ⟨g, 0, none⟩ = some (.int .i64 f)) (hf : 1 ≤ f) : Calls Try.prog 16 #[.pointer (some ⟨g, 0, none⟩)] w fun e w' => e = .returned (.bool false) ∧ w = w' := by
  have hz : (f == 0) = false := by simp; omega
  go_enter Try.func16, Try.ntmps16
  go_wp2
  go_ret
  exact ⟨rfl, rfl⟩
theorem none_zero (g : Nat) (w : World) (h : w.cell? ⟨g, 0, none⟩ = some (.int .i64 0)) : Calls Try.prog 16 #[.pointer (some ⟨g, 0, none⟩)] w fun e w' => e = .returned (.bool true) ∧ w = w' := by
  go_enter Try.func16, Try.ntmps16
  go_wp2
  go_ret
  exact ⟨rfl, rfl⟩
theorem none_nil (w : World) : Calls Try.prog 16 #[.pointer none] w fun e w' => e = .returned (.bool true) ∧ w = w' := by
  go_enter Try.func16, Try.ntmps16
  go_wp2
  go_ret
  exact ⟨rfl, rfl⟩

theorem stop_c (g : Nat) (f c a : Int) (r : Bool) (t : Nat) (w : World) (h : BA w g f c r a t) (hf : 1 ≤ f) : Calls Try.prog 14 #[.pointer (some ⟨g, 0, none⟩)] w fun e w' => e = .returned (.tuple #[]) ∧ BA w' g f c false 0 0 ∧ Only g w w' := by
  have H := Bx.mk h
  obtain ⟨c0, c1, c2, c3, c4⟩ := cells5 h
  have z2 := frozen_of_row w _ 2 _ _ h
  have z3 := frozen_of_row w _ 3 _ _ h
  have z4 := frozen_of_row w _ 4 _ _ h
  clear h
  go_enter Try.func14, Try.ntmps14
  go_wp2_with (go_at_call 16; (with_reducible refine (none_no _ f _ ?hc hf).mono ?_); (case hc => exact c0); rintro e w' ⟨rfl, rfl⟩)
  go_end0
  refine ⟨rfl, ?_, ?_⟩
  · have h1 := blk_set H.out 2 (.bool false)
    have h2 := blk_set h1 3 (.int .i64 0)
    simpa [BA] using blk_set h2 4 (.int .i64 0)
  · exact ((Only.set w g 2 _).trans (Only.set _ g 3 _)).trans (Only.set _ g 4 _)
theorem stop_nil (p : Option Addr) (w : World) (h : Calls Try.prog 16 #[.pointer p] w fun e w' => e = .returned (.bool true) ∧ w = w') : Calls Try.prog 14 #[.pointer p] w fun e w' => e = .returned (.tuple #[]) ∧ w = w' := by
  go_enter Try.func14, Try.ntmps14
  go_wp2_with (go_at_call 16; (with_reducible refine h.mono ?_); rintro e w' ⟨rfl, rfl⟩)
  refine bodyPost_ret (results_none rfl _ _ _) rfl ?_
  exact ⟨rfl, rfl⟩

theorem le60 {now : Int} (h : decide (9007199254740991 < now) = false) : now ≤ 2 ^ 60 := by
  have : now ≤ 9007199254740991 := by simpa using h
  omega
theorem notNeg {now : Int} (h : decide (now < 0) = false) : 0 ≤ now := by simpa using h
theorem notLess {now a : Int} (h : decide (now < a) = false) (ha : 0 ≤ a) : 0 ≤ now := by
  have : a ≤ now := by simpa using h
  omega
def okN (now : Int) : Bool := !(decide (now < 0)) && !(decide (9007199254740991 < now))
theorem start_c (g : Nat) (f c a now : Int) (r : Bool) (t : Nat) (w : World) (h : BA w g f c r a t) (h0 : 1 ≤ f) (h1 : f ≤ c) (h2 : c ≤ 10000) :
    Calls Try.prog 9 #[.pointer (some ⟨g, 0, none⟩), .int .i64 now] w fun e w' => e = .returned (.int .i64 (if okN now then 0 else 9)) ∧ (if okN now then BA w' g f c true (now + f) 0 else BA w' g f c r a t) ∧ Only g w w' := by
  have H := Bx.mk h
  have c0 := (cells5 h).1
  clear h
  unfold okN
  cases hA : decide (now < 0)
  · cases hB : decide (9007199254740991 < now)
    · have HA := Bx.mk hA
      have HB := Bx.mk hB
      go_enter Try.func9, Try.ntmps9
      go_wp2_with (first | (go_at_call 16; (with_reducible refine (none_no _ f _ ?hc h0).mono ?_); (case hc => exact c0); rintro e w' ⟨rfl, rfl⟩) | (go_at_call 14; (with_reducible refine (stop_c g f c a r t _ H.out h0).mono ?_); rintro e w1 ⟨rfl, hb1, ho1⟩; have H1 := Bx.mk hb1; have O1 := Bx.mk ho1; have c2 := (cells5 hb1).2.2.1; have z2 := frozen_of_row w1 _ 2 _ _ hb1; clear hb1 ho1))
      refine (on_c g 0 f c 0 now true _ (by simpa using blk_set H1.out 2 (.bool true)) h0 h1 h2 (notNeg hA) (le60 hB) (by omega)).mono ?_
      rintro e w2 ⟨rfl, hb2, ho2⟩
      have H2 := Bx.mk hb2
      have O2 := Bx.mk (O1.out.trans ((Only.set w1 g 2 (.bool true)).trans ho2))
      clear hb2 ho2 hA hB
      go_wp2_with fail
      go_ret
      exact ⟨rfl, H2.out, O2.out⟩
    · go_enter Try.func9, Try.ntmps9
      go_wp2_with (first | (go_at_call 16; (with_reducible refine (none_no _ f _ ?hc h0).mono ?_); (case hc => exact c0); rintro e w' ⟨rfl, rfl⟩))
      go_ret
      exact ⟨rfl, H.out, Only.refl _ _⟩
  · go_enter Try.func9, Try.ntmps9
    go_wp2_with (first | (go_at_call 16; (with_reducible refine (none_no _ f _ ?hc h0).mono ?_); (case hc => exact c0); rintro e w' ⟨rfl, rfl⟩))
    go_ret
    exact ⟨rfl, H.out, Only.refl _ _⟩
theorem start_nil (p : Option Addr) (now : Int) (w : World) (h : Calls Try.prog 16 #[.pointer p] w fun e w' => e = .returned (.bool true) ∧ w = w') : Calls Try.prog 9 #[.pointer p, .int .i64 now] w fun e w' => e = .returned (.int .i64 1) ∧ w = w' := by
  go_enter Try.func9, Try.ntmps9
  go_wp2_with (go_at_call 16; (with_reducible refine h.mono ?_); rintro e w' ⟨rfl, rfl⟩)
  go_ret
  exact ⟨rfl, rfl⟩

/-- Whether it is due. -/
def dueB (r : Bool) (a now : Int) : Bool := r && !(decide (now < a)) && !(decide (9007199254740991 < now))
set_option maxRecDepth 100000 in
set_option maxHeartbeats 1000000 in
theorem due_c (g : Nat) (f c a now : Int) (r : Bool) (t : Nat) (w : World) (h : BA w g f c r a t) (h0 : 1 ≤ f) (h1 : f ≤ c) (h2 : c ≤ 10000) (ha : 0 ≤ a) (ht : t < 10000) :
    Calls Try.prog 10 #[.pointer (some ⟨g, 0, none⟩), .int .i64 now] w fun e w' => e = .returned (.bool (dueB r a now)) ∧ (if dueB r a now then BA w' g f c r (now + wv f c (t + 1)) (t + 1) else BA w' g f c r a t) ∧ Only g w w' := by
  have H := Bx.mk h
  obtain ⟨c0, c1, c2, c3, c4⟩ := cells5 h
  have z4 := frozen_of_row w _ 4 _ _ h
  clear h
  have HT := Bx.mk ht
  have hti : (t : Int) < 10000 := by omega
  clear ht
  unfold dueB
  cases r
  · go_enter Try.func10, Try.ntmps10
    go_wp2_with (first | (go_at_call 16; (with_reducible refine (none_no _ f _ ?hc h0).mono ?_); (case hc => exact c0); rintro e w' ⟨rfl, rfl⟩))
    go_ret
    exact ⟨rfl, H.out, Only.refl _ _⟩
  · cases hA : decide (now < a)
    · cases hB : decide (9007199254740991 < now)
      · go_enter Try.func10, Try.ntmps10
        go_wp2_with (first | (go_at_call 16; (with_reducible refine (none_no _ f _ ?hc h0).mono ?_); (case hc => exact c0); rintro e w' ⟨rfl, rfl⟩))
        refine (on_c g (t + 1) f c a now true _ (by simpa using blk_set H.out 4 (.int .i64 ((t : Int) + 1))) h0 h1 h2 (notLess hA ha) (le60 hB) (by have := HT.out; omega)).mono ?_
        rintro e w2 ⟨rfl, hb2, ho2⟩
        have H2 := Bx.mk hb2
        have O2 := Bx.mk ((Only.set w g 4 (.int .i64 ((t : Int) + 1))).trans ho2)
        clear hb2 ho2 hA hB
        go_wp2_with fail
        go_ret
        exact ⟨rfl, H2.out, O2.out⟩
      · go_enter Try.func10, Try.ntmps10
        go_wp2_with (first | (go_at_call 16; (with_reducible refine (none_no _ f _ ?hc h0).mono ?_); (case hc => exact c0); rintro e w' ⟨rfl, rfl⟩))
        go_ret
        exact ⟨rfl, H.out, Only.refl _ _⟩
    · go_enter Try.func10, Try.ntmps10
      go_wp2_with (first | (go_at_call 16; (with_reducible refine (none_no _ f _ ?hc h0).mono ?_); (case hc => exact c0); rintro e w' ⟨rfl, rfl⟩))
      go_ret
      exact ⟨rfl, H.out, Only.refl _ _⟩
theorem due_nil (p : Option Addr) (now : Int) (w : World) (h : Calls Try.prog 16 #[.pointer p] w fun e w' => e = .returned (.bool true) ∧ w = w') : Calls Try.prog 10 #[.pointer p, .int .i64 now] w fun e w' => e = .returned (.bool false) ∧ w = w' := by
  go_enter Try.func10, Try.ntmps10
  go_wp2_with (go_at_call 16; (with_reducible refine h.mono ?_); rintro e w' ⟨rfl, rfl⟩)
  go_ret
  exact ⟨rfl, rfl⟩
theorem at_c (g : Nat) (f c a : Int) (r : Bool) (t : Nat) (w : World) (h : BA w g f c r a t) (h0 : 1 ≤ f) : Calls Try.prog 11 #[.pointer (some ⟨g, 0, none⟩)] w fun e w' => e = .returned (.int .i64 a) ∧ w = w' := by
  obtain ⟨c0, c1, c2, c3, c4⟩ := cells5 h
  clear h
  go_enter Try.func11, Try.ntmps11
  go_wp2_with (go_at_call 16; (with_reducible refine (none_no _ f _ ?hc h0).mono ?_); (case hc => exact c0); rintro e w' ⟨rfl, rfl⟩)
  go_ret
  exact ⟨rfl, rfl⟩
theorem at_nil (p : Option Addr) (w : World) (h : Calls Try.prog 16 #[.pointer p] w fun e w' => e = .returned (.bool true) ∧ w = w') : Calls Try.prog 11 #[.pointer p] w fun e w' => e = .returned (.int .i64 0) ∧ w = w' := by
  go_enter Try.func11, Try.ntmps11
  go_wp2_with (go_at_call 16; (with_reducible refine h.mono ?_); rintro e w' ⟨rfl, rfl⟩)
  go_ret
  exact ⟨rfl, rfl⟩
theorem tries_c (g : Nat) (f c a : Int) (r : Bool) (t : Nat) (w : World) (h : BA w g f c r a t) (h0 : 1 ≤ f) : Calls Try.prog 12 #[.pointer (some ⟨g, 0, none⟩)] w fun e w' => e = .returned (.int .i64 (t : Int)) ∧ w = w' := by
  obtain ⟨c0, c1, c2, c3, c4⟩ := cells5 h
  clear h
  go_enter Try.func12, Try.ntmps12
  go_wp2_with (go_at_call 16; (with_reducible refine (none_no _ f _ ?hc h0).mono ?_); (case hc => exact c0); rintro e w' ⟨rfl, rfl⟩)
  go_ret
  exact ⟨rfl, rfl⟩
theorem tries_nil (p : Option Addr) (w : World) (h : Calls Try.prog 16 #[.pointer p] w fun e w' => e = .returned (.bool true) ∧ w = w') : Calls Try.prog 12 #[.pointer p] w fun e w' => e = .returned (.int .i64 0) ∧ w = w' := by
  go_enter Try.func12, Try.ntmps12
  go_wp2_with (go_at_call 16; (with_reducible refine h.mono ?_); rintro e w' ⟨rfl, rfl⟩)
  go_ret
  exact ⟨rfl, rfl⟩
theorem runs_c (g : Nat) (f c a : Int) (r : Bool) (t : Nat) (w : World) (h : BA w g f c r a t) (h0 : 1 ≤ f) : Calls Try.prog 13 #[.pointer (some ⟨g, 0, none⟩)] w fun e w' => e = .returned (.bool r) ∧ w = w' := by
  obtain ⟨c0, c1, c2, c3, c4⟩ := cells5 h
  clear h
  go_enter Try.func13, Try.ntmps13
  go_wp2_with (go_at_call 16; (with_reducible refine (none_no _ f _ ?hc h0).mono ?_); (case hc => exact c0); rintro e w' ⟨rfl, rfl⟩)
  go_ret
  exact ⟨rfl, rfl⟩
theorem runs_nil (p : Option Addr) (w : World) (h : Calls Try.prog 16 #[.pointer p] w fun e w' => e = .returned (.bool true) ∧ w = w') : Calls Try.prog 13 #[.pointer p] w fun e w' => e = .returned (.bool false) ∧ w = w' := by
  go_enter Try.func13, Try.ntmps13
  go_wp2_with (go_at_call 16; (with_reducible refine h.mono ?_); rintro e w' ⟨rfl, rfl⟩)
  go_ret
  exact ⟨rfl, rfl⟩

/-! ### New -/
def newOk (f c : Int) : Bool := !(decide (f < 1)) && !(decide (1000 < f)) && !(decide (c < f)) && !(decide (10000 < c))
theorem new_yes (f c : Int) (w : World) (h0 : 1 ≤ f) (h1 : f ≤ 1000) (h2 : f ≤ c) (h3 : c ≤ 10000) : Calls Try.prog 8 #[.int .i64 f, .int .i64 c] w fun e w' => e = .returned (.tuple #[.pointer (some ⟨w.heap.size, 0, none⟩), .int .i64 0]) ∧ BA w' w.heap.size f c false 0 0 ∧ Below w.heap.size w w' := by
  have hu := Try.underlying35
  go_enter Try.func8, Try.ntmps8
  go_wp2
  go_ret2
  exact ⟨rfl, World.alloc_heap_new _ _, (Below.refl _ w).alloc (Nat.le_refl _) _⟩
theorem new_no (f c : Int) (w : World) (h : ¬ (1 ≤ f ∧ f ≤ 1000 ∧ f ≤ c ∧ c ≤ 10000)) : Calls Try.prog 8 #[.int .i64 f, .int .i64 c] w fun e w' => e = .returned (.tuple #[.pointer none, .int .i64 2]) ∧ w = w' := by
  by_cases h1 : f < 1
  · clear h
    go_enter Try.func8, Try.ntmps8
    go_wp2
    go_ret2
    exact ⟨rfl, rfl⟩
  by_cases h2 : 1000 < f
  · clear h
    go_enter Try.func8, Try.ntmps8
    go_wp2
    go_ret2
    exact ⟨rfl, rfl⟩
  by_cases h3 : c < f
  · clear h
    go_enter Try.func8, Try.ntmps8
    go_wp2
    go_ret2
    exact ⟨rfl, rfl⟩
  have h4 : 10000 < c := by omega
  clear h
  go_enter Try.func8, Try.ntmps8
  go_wp2
  go_ret2
  exact ⟨rfl, rfl⟩
end Go.Proofs.Ytjjnmbmaahppoaa.Base
