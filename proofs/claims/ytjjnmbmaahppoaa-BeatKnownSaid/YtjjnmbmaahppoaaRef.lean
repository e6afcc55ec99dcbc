/- Layer 15: the contracts of the reference's beats, and of Bring. -/
import Derived.Test.YtjjnmbmaahppoaaMeth
set_option linter.unusedVariables false
set_option linter.unusedSimpArgs false
namespace Go.Proofs.Ytjjnmbmaahppoaa.Base
open Go.RowKit Go.Proofs.YtjjnmbmaahppoaaW.PrintWords Go.Proofs.YtjjnmbmaahppoaaW.PrintLast Go.Proofs.YtjjnmbmaahppoaaW.PrintMore
attribute [local go_sem] max2_int min2_int max_two min_two

theorem cells6 {w : World} {g : Nat} {a b c d e f : Value} {t : TypeId} (h : w.heap[g]? = some (.cells #[a, b, c, d, e, f] t (0, 0))) : w.cell? ⟨g, 0, none⟩ = some a ∧ w.cell? ⟨g, 1, none⟩ = some b ∧ w.cell? ⟨g, 2, none⟩ = some c ∧ w.cell? ⟨g, 3, none⟩ = some d ∧ w.cell? ⟨g, 4, none⟩ = some e ∧ w.cell? ⟨g, 5, none⟩ = some f :=
  ⟨cell_of_row w g 0 _ t (0, 0) h, cell_of_row w g 1 _ t (0, 0) h, cell_of_row w g 2 _ t (0, 0) h, cell_of_row w g 3 _ t (0, 0) h, cell_of_row w g 4 _ t (0, 0) h, cell_of_row w g 5 _ t (0, 0) h⟩
/-- A beat of the reference. -/
def MA (w : World) (g : Nat) (f c : Int) (r : Bool) (a W : Int) (t : Nat) : Prop := w.heap[g]? = some (.cells #[.int .i64 f, .int .i64 c, .bool r, .int .i64 a, .int .i64 W, .int .i64 (t : Int)] 48 (0, 0))

theorem minIf (a b : Int) : (if b < a then b else a) = min a b := by
  rw [Int.min_def]; split <;> split <;> omega
theorem retInt {k : IntKind} {a b : Int} (h : a = b) : Ending.returned (.int k a) = .returned (.int k b) := by rw [h]
theorem rstop_c (g : Nat) (f c a W : Int) (r : Bool) (t : Nat) (w : World) (h : MA w g f c r a W t) : Calls Try.prog 20 #[.pointer (some ⟨g, 0, none⟩)] w fun e w' => e = .returned (.tuple #[]) ∧ MA w' g f c false 0 W 0 ∧ Only g w w' := by
  have H := Bx.mk h
  obtain ⟨c0, c1, c2, c3, c4, c5⟩ := cells6 h
  have z2 := frozen_of_row w _ 2 _ _ h
  have z3 := frozen_of_row w _ 3 _ _ h
  have z5 := frozen_of_row w _ 5 _ _ h
  clear h
  go_enter Try.func20, Try.ntmps20
  go_wp2_with fail
  go_end0
  refine ⟨rfl, ?_, ?_⟩
  · have h1 := blk_set H.out 2 (.bool false)
    have h2 := blk_set h1 3 (.int .i64 0)
    simpa [MA] using blk_set h2 5 (.int .i64 0)
  · exact ((Only.set w g 2 _).trans (Only.set _ g 3 _)).trans (Only.set _ g 5 _)
theorem rruns_c (g : Nat) (f c a W : Int) (r : Bool) (t : Nat) (w : World) (h : MA w g f c r a W t) : Calls Try.prog 22 #[.pointer (some ⟨g, 0, none⟩)] w fun e w' => e = .returned (.bool r) ∧ w = w' := by
  obtain ⟨c0, c1, c2, c3, c4, c5⟩ := cells6 h
  clear h
  go_enter Try.func22, Try.ntmps22
  go_wp2_with fail
  go_ret
  exact ⟨rfl, rfl⟩
theorem rat_c (g : Nat) (f c a W : Int) (r : Bool) (t : Nat) (w : World) (h : MA w g f c r a W t) : Calls Try.prog 23 #[.pointer (some ⟨g, 0, none⟩)] w fun e w' => e = .returned (.int .i64 a) ∧ w = w' := by
  obtain ⟨c0, c1, c2, c3, c4, c5⟩ := cells6 h
  clear h
  go_enter Try.func23, Try.ntmps23
  go_wp2_with fail
  go_ret
  exact ⟨rfl, rfl⟩
theorem rtries_c (g : Nat) (f c a W : Int) (r : Bool) (t : Nat) (w : World) (h : MA w g f c r a W t) : Calls Try.prog 24 #[.pointer (some ⟨g, 0, none⟩)] w fun e w' => e = .returned (.int .i64 (t : Int)) ∧ w = w' := by
  obtain ⟨c0, c1, c2, c3, c4, c5⟩ := cells6 h
  clear h
  go_enter Try.func24, Try.ntmps24
  go_wp2_with fail
  go_ret
  exact ⟨rfl, rfl⟩
theorem Only.draw {g : Nat} {w w' : World} (h : Only g w w') (n : Nat) : Only g w (w'.drewN n) := ⟨h.os, h.tape, h.output, h.size, h.block⟩
set_option maxRecDepth 100000 in
set_option maxHeartbeats 1000000 in
theorem rstart_c (g : Nat) (f c a W now : Int) (r : Bool) (t : Nat) (w : World) (h : MA w g f c r a W t) (h0 : 1 ≤ f) (h1 : f ≤ c) (h2 : c ≤ 10000) :
    Calls Try.prog 19 #[.pointer (some ⟨g, 0, none⟩), .int .i64 now] w fun e w' => e = .returned (.int .i64 (if okN now then 0 else 9)) ∧ (if okN now then MA w' g f c true (now + f) (wv f c 1) 0 else MA w' g f c r a W t) ∧ Only g w w' := by
  have H := Bx.mk h
  obtain ⟨c0, c1, c2, c3, c4, c5⟩ := cells6 h
  have z2 := frozen_of_row w _ 2 _ _ h
  have z3 := frozen_of_row w _ 3 _ _ h
  have z4 := frozen_of_row w _ 4 _ _ h
  have z5 := frozen_of_row w _ 5 _ _ h
  clear h
  unfold okN
  cases hA : decide (now < 0)
  · cases hB : decide (9007199254740991 < now)
    · have n0 := notNeg hA
      have n1 := le60 hB
      by_cases hm : c < 2 * f
      · have e : wv f c 1 = c := by simp only [wv]; omega
        rw [e]
        go_enter Try.func19, Try.ntmps19
        go_wp2_with fail
        go_region
        go_wp2_with fail
        go_ret
        refine ⟨rfl, ?_, ?_⟩
        · have h1 := blk_set H.out 2 (.bool true)
          have h2 := blk_set h1 3 (.int .i64 (now + f))
          have h3 := blk_set h2 4 (.int .i64 c)
          simpa [MA, World.drew] using blk_set h3 5 (.int .i64 0)
        · exact ((((Only.set w g 2 _).trans (Only.set _ g 3 _)).trans (Only.set _ g 4 _)).trans (Only.set _ g 5 _)).draw 1
      · have e : wv f c 1 = 2 * f := by simp only [wv]; omega
        rw [e]
        go_enter Try.func19, Try.ntmps19
        go_wp2_with fail
        go_region
        go_wp2_with fail
        go_ret
        refine ⟨rfl, ?_, ?_⟩
        · have h1 := blk_set H.out 2 (.bool true)
          have h2 := blk_set h1 3 (.int .i64 (now + f))
          have h3 := blk_set h2 4 (.int .i64 (2 * f))
          simpa [MA, World.drew] using blk_set h3 5 (.int .i64 0)
        · exact ((((Only.set w g 2 _).trans (Only.set _ g 3 _)).trans (Only.set _ g 4 _)).trans (Only.set _ g 5 _)).draw 1
    · go_enter Try.func19, Try.ntmps19
      go_wp2_with fail
      go_ret
      exact ⟨rfl, H.out, Only.refl _ _⟩
  · go_enter Try.func19, Try.ntmps19
    go_wp2_with fail
    go_ret
    exact ⟨rfl, H.out, Only.refl _ _⟩
set_option maxRecDepth 100000 in
set_option maxHeartbeats 2000000 in
theorem rdue_c (g : Nat) (f c a W now : Int) (r : Bool) (t : Nat) (w : World) (h : MA w g f c r a W t) (h0 : 1 ≤ f) (h1 : f ≤ c) (h2 : c ≤ 10000) (ha : 0 ≤ a) (ht : t < 10000) (hW : r = true → W = wv f c (t + 1)) :
    Calls Try.prog 21 #[.pointer (some ⟨g, 0, none⟩), .int .i64 now] w fun e w' => e = .returned (.bool (dueB r a now)) ∧ (if dueB r a now then MA w' g f c r (now + wv f c (t + 1)) (wv f c (t + 2)) (t + 1) else MA w' g f c r a W t) ∧ Only g w w' := by
  have H := Bx.mk h
  obtain ⟨c0, c1, c2, c3, c4, c5⟩ := cells6 h
  have z2 := frozen_of_row w _ 2 _ _ h
  have z3 := frozen_of_row w _ 3 _ _ h
  have z4 := frozen_of_row w _ 4 _ _ h
  have z5 := frozen_of_row w _ 5 _ _ h
  clear h
  have hti : (t : Int) < 10000 := by omega
  clear ht
  have HW := Bx.mk hW
  clear hW
  unfold dueB
  cases r
  · go_enter Try.func21, Try.ntmps21
    go_wp2_with fail
    go_ret
    exact ⟨rfl, H.out, Only.refl _ _⟩
  · have hW := HW.out rfl
    have v0 := wv_pos h0 h1 (t + 1)
    have v1 := wv_le h1 (t + 1)
    rw [← hW] at v0 v1 ⊢
    have e2 : wv f c (t + 2) = min (2 * W) c := by rw [hW]; rfl
    clear HW hW
    cases hA : decide (now < a)
    · cases hB : decide (9007199254740991 < now)
      · have n0 := notLess hA ha
        have n1 := le60 hB
        by_cases hm : c < 2 * W
        · have e : wv f c (t + 2) = c := by omega
          rw [e]
          clear e2 e
          go_enter Try.func21, Try.ntmps21
          go_wp2_with fail
          go_region
          go_wp2_with fail
          go_ret
          refine ⟨rfl, ?_, ?_⟩
          · have h1 := blk_set H.out 5 (.int .i64 ((t : Int) + 1))
            have h2 := blk_set h1 3 (.int .i64 (now + W))
            simpa [MA, World.drew] using blk_set h2 4 (.int .i64 c)
          · exact ((((Only.set w g 5 _).trans (Only.set _ g 3 _)).trans (Only.set _ g 4 _))).draw 1
        · have e : wv f c (t + 2) = 2 * W := by omega
          rw [e]
          clear e2 e
          go_enter Try.func21, Try.ntmps21
          go_wp2_with fail
          go_region
          go_wp2_with fail
          go_ret
          refine ⟨rfl, ?_, ?_⟩
          · have h1 := blk_set H.out 5 (.int .i64 ((t : Int) + 1))
            have h2 := blk_set h1 3 (.int .i64 (now + W))
            simpa [MA, World.drew] using blk_set h2 4 (.int .i64 (2 * W))
          · exact ((((Only.set w g 5 _).trans (Only.set _ g 3 _)).trans (Only.set _ g 4 _))).draw 1
      · go_enter Try.func21, Try.ntmps21
        go_wp2_with fail
        go_ret
        exact ⟨rfl, H.out, Only.refl _ _⟩
    · go_enter Try.func21, Try.ntmps21
      go_wp2_with fail
      go_ret
      exact ⟨rfl, H.out, Only.refl _ _⟩
theorem rnew_yes (f c : Int) (w : World) (h0 : 1 ≤ f) (h1 : f ≤ 1000) (h2 : f ≤ c) (h3 : c ≤ 10000) : Calls Try.prog 18 #[.int .i64 f, .int .i64 c] w fun e w' => e = .returned (.tuple #[.pointer (some ⟨w.heap.size, 0, none⟩), .int .i64 0]) ∧ MA w' w.heap.size f c false 0 0 0 ∧ Below w.heap.size w w' := by
  have hu := Try.underlying48
  go_enter Try.func18, Try.ntmps18
  go_wp2
  go_ret2
  exact ⟨rfl, World.alloc_heap_new _ _, (Below.refl _ w).alloc (Nat.le_refl _) _⟩
theorem rnew_no (f c : Int) (w : World) (h : ¬ (1 ≤ f ∧ f ≤ 1000 ∧ f ≤ c ∧ c ≤ 10000)) : Calls Try.prog 18 #[.int .i64 f, .int .i64 c] w fun e w' => e = .returned (.tuple #[.pointer none, .int .i64 2]) ∧ w = w' := by
  by_cases h1 : f < 1
  · clear h
    go_enter Try.func18, Try.ntmps18
    go_wp2
    go_ret2
    exact ⟨rfl, rfl⟩
  by_cases h2 : 1000 < f
  · clear h
    go_enter Try.func18, Try.ntmps18
    go_wp2
    go_ret2
    exact ⟨rfl, rfl⟩
  by_cases h3 : c < f
  · clear h
    go_enter Try.func18, Try.ntmps18
    go_wp2
    go_ret2
    exact ⟨rfl, rfl⟩
  have h4 : 10000 < c := by omega
  clear h
  go_enter Try.func18, Try.ntmps18
  go_wp2
  go_ret2
  exact ⟨rfl, rfl⟩

/-! ### Bring -/
theorem w64 {n : Int} (h : -9223372036854775808 ≤ n ∧ n ≤ 9223372036854775807) : wrap64 n = n := by
  unfold wrap64; omega
theorem tmodNeg (a m : Int) (hm : 0 < m) (h : Int.tmod a m < 0) : Int.tmod a m + m = a % m := by
  have hmo := Int.tmod_eq_emod (a := a) (b := m)
  have e0 := Int.emod_nonneg a (b := m) (by omega)
  by_cases h : 0 ≤ a ∨ m ∣ a
  · rw [if_pos h] at hmo; omega
  · rw [if_neg h] at hmo
    have hn : ((m.natAbs : Nat) : Int) = m := by omega
    omega
theorem tmodPos (a m : Int) (hm : 0 < m) (h : ¬ Int.tmod a m < 0) : Int.tmod a m = a % m := by
  have hmo := Int.tmod_eq_emod (a := a) (b := m)
  have e1 := Int.emod_lt_of_pos a (b := m) hm
  by_cases h : 0 ≤ a ∨ m ∣ a
  · rw [if_pos h] at hmo; omega
  · rw [if_neg h] at hmo
    have hn : ((m.natAbs : Nat) : Int) = m := by omega
    omega
set_option maxHeartbeats 400000 in
theorem bring_c (a m : Int) (w : World) (hm : 0 < m) (hm' : m ≤ 1099511627776) :
    Calls Try.prog 7 #[.int .i64 a, .int .i64 m] w fun e w' => e = .returned (.int .i64 (a % m)) ∧ w = w' := by
  have hz : (m == 0) = false := by rw [beq_eq_false_iff_ne]; omega
  have e0 := Int.emod_nonneg a (b := m) (by omega)
  have e1 := Int.emod_lt_of_pos a (b := m) hm
  by_cases h : Int.tmod a m < 0
  · have hd : decide (Int.tmod a m < 0) = true := decide_eq_true h
    have ht := Bx.mk (tmodNeg a m hm h)
    clear h
    go_enter Try.func7, Try.ntmps7
    go_wp2
    go_ret
    exact ⟨retInt (by rw [ht.out]; exact w64 (by omega)), rfl⟩
  · have hd : decide (Int.tmod a m < 0) = false := decide_eq_false h
    have ht := Bx.mk (tmodPos a m hm h)
    clear h
    go_enter Try.func7, Try.ntmps7
    go_wp2
    go_ret
    exact ⟨retInt ht.out, rfl⟩
end Go.Proofs.Ytjjnmbmaahppoaa.Base
