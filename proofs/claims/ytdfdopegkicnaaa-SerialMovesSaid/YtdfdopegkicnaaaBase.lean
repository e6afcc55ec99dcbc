/- The contracts of layer 2's small functions, each world left as it was. -/
import Derived.Test.YtdfdopegkicnaaaProg
import Derived.WalkKit
import Derived.WalkSpells
import Derived.OpenShut
namespace Go.Proofs.Ytdfdopegkicnaaa.Base
open Go.RowKit

/-- A fact laid behind a name: no rule of the walk. -/
structure Bx (p : Prop) : Prop where mk :: (out : p)

theorem u16w (n : Int) : IntKind.u16.wrap n = n % 65536 := by
  simp [IntKind.wrap, IntKind.bits, IntKind.signed]
theorem i16w (n : Int) : IntKind.i16.wrap n = (if n % 65536 ≥ 32768 then n % 65536 - 65536 else n % 65536) := by
  simp [IntKind.wrap, IntKind.bits, IntKind.signed]
theorem w64 {n : Int} (h : -9223372036854775808 ≤ n ∧ n ≤ 9223372036854775807) : wrap64 n = n := by
  unfold wrap64; omega
theorem retInt {k : IntKind} {a b : Int} (h : a = b) : Ending.returned (.int k a) = .returned (.int k b) := by rw [h]
theorem retBool {a b : Bool} (h : a = b) : Ending.returned (.bool a) = .returned (.bool b) := by rw [h]

theorem tmodNeg (a m : Int) (hm : 0 < m) (h : Int.tmod a m < 0) : Int.tmod a m + m = a % m := by
  have hmo := Int.tmod_eq_emod (a := a) (b := m)
  have e0 := Int.emod_nonneg a (b := m) (by omega)
  by_cases h : 0 ≤ a ∨ m ∣ a
  · rw [if_pos h] at hmo; omega
  · rw [if_neg h] at hmo
    have hn : ((m.natAbs : Nat) : Int) = m := by omega
    omega
theorem tmodPos (a m : Int) (hm : 0 < m) (h : ¬ Int.tmod a m < 0) : Int.tmod a m = a % m := by
  have hmo := Int.tmod_eq_emod (a := a) (b := m)
  have e1 := Int.emod_lt_of_pos a (b := m) hm
  by_cases h : 0 ≤ a ∨ m ∣ a
  · rw [if_pos h] at hmo; omega
  · rw [if_neg h] at hmo
    have hn : ((m.natAbs : Nat) : Int) = m := by omega
    omega
set_option maxHeartbeats 400000 in
theorem bring_c (a m : Int) (w : World) (hm : 0 < m) (hm' : m ≤ 1099511627776) :
    Calls Try.prog 19 #[.int .i64 a, .int .i64 m] w fun e w' => e = .returned (.int .i64 (a % m)) ∧ w = w' := by
  have hz : (m == 0) = false := by rw [beq_eq_false_iff_ne]; omega
  have e0 := Int.emod_nonneg a (b := m) (by omega)
  have e1 := Int.emod_lt_of_pos a (b := m) hm
  by_cases h : Int.tmod a m < 0
  · have hd : decide (Int.tmod a m < 0) = true := decide_eq_true h
    have ht := Bx.mk (tmodNeg a m hm h)
    clear h
    go_enter Try.func19, Try.ntmps19
    go_wp2
    go_ret
    exact ⟨retInt (by rw [ht.out]; exact w64 (by omega)), rfl⟩
  · have hd : decide (Int.tmod a m < 0) = false := decide_eq_false h
    have ht := Bx.mk (tmodPos a m hm h)
    clear h
    go_enter Try.func19, Try.ntmps19
    go_wp2
    go_ret
    exact ⟨retInt ht.out, rfl⟩
def aheadV (a b : Int) : Int := if (b - a) % 65536 ≥ 32768 then (b - a) % 65536 - 65536 else (b - a) % 65536
def lessV (a b : Int) : Bool := decide (aheadV a b > 0)
def plusV (a n : Int) : Int := (a + n) % 65536
theorem lessV_of {p : Prop} (a b : Int) (h : (aheadV a b > 0) ↔ p) [Decidable p] : lessV a b = decide p := by
  unfold lessV; exact decide_eq_decide.2 h
theorem aheadV_bd (a b : Int) : -32768 ≤ aheadV a b ∧ aheadV a b ≤ 32767 := by
  unfold aheadV; split <;> omega
theorem plusV_bd (a n : Int) : 0 ≤ plusV a n ∧ plusV a n ≤ 65535 := by
  unfold plusV; omega
set_option maxHeartbeats 400000 in
theorem ahead_c (a b : Int) (w : World) : Calls Try.prog 9 #[.int .u16 a, .int .u16 b] w fun e w' => e = .returned (.int .i64 (aheadV a b)) ∧ w = w' := by
  go_enter Try.func9, Try.ntmps9
  go_wp2
  go_ret
  refine ⟨retInt ?_, rfl⟩
  rw [u16w, i16w, w64 (by rw [Int.emod_emod]; split <;> omega), Int.emod_emod]; rfl
set_option maxHeartbeats 400000 in
theorem less_c (a b : Int) (w : World) (ha : 0 ≤ a ∧ a ≤ 65535) (hb : 0 ≤ b ∧ b ≤ 65535) : Calls Try.prog 11 #[.int .u16 a, .int .u16 b] w fun e w' => e = .returned (.bool (lessV a b)) ∧ w = w' := by
  by_cases h : a = b
  · subst h
    have h0 : (a != a) = false := by simp
    have hr := Bx.mk (show lessV a a = false by simp [lessV, aheadV])
    go_enter Try.func11, Try.ntmps11
    go_wp2
    go_ret
    exact ⟨retBool hr.out.symm, rfl⟩
  · have h0 : (a != b) = true := by simpa using h
    have hr := Bx.mk (show decide (IntKind.u16.wrap (b - a) < 32768) = lessV a b by
      rw [u16w]; exact (lessV_of a b (by unfold aheadV; split <;> omega)).symm)
    clear h
    go_enter Try.func11, Try.ntmps11
    go_wp2
    go_ret
    exact ⟨retBool hr.out, rfl⟩
set_option maxHeartbeats 400000 in
theorem plus_c (a n : Int) (w : World) : Calls Try.prog 13 #[.int .u16 a, .int .i64 n] w fun e w' => e = .returned (.int .u16 (plusV a n)) ∧ w = w' := by
  go_enter Try.func13, Try.ntmps13
  go_wp2
  go_ret
  refine ⟨retInt ?_, rfl⟩
  rw [u16w, u16w]; unfold plusV; omega
def hasV (a n x : Int) : Bool := decide ((x - a) % 65536 < n)
def atV (a n x : Int) : Int := if (x - a) % 65536 < n then (x - a) % 65536 else -1
theorem atV_bd (a n x : Int) : -1 ≤ atV a n x ∧ atV a n x ≤ 65535 := by unfold atV; split <;> omega
set_option maxHeartbeats 400000 in
theorem has_c (a n x : Int) (w : World) : Calls Try.prog 18 #[.agg #[.int .u16 a, .int .i64 n], .int .u16 x] w fun e w' => e = .returned (.bool (hasV a n x)) ∧ Below w.heap.size w w' := by
  have hu := Try.underlying31
  go_enter Try.func18, Try.ntmps18
  go_wp2
  go_ret
  refine ⟨retBool ?_, ?_⟩
  · unfold hasV; rw [u16w, w64 (by omega)]
  · exact (Below.refl _ _).alloc (Nat.le_refl _) _
set_option maxHeartbeats 400000 in
theorem works_c (w : World) : Calls Try.prog 15 #[] w fun e w' => e = .returned (.bool true) ∧ Below w.heap.size w w' := by
  have hu := Try.underlying44
  have e1 : IntKind.u16.wrap (-65533) = 3 := by decide
  have e2 : IntKind.i16.wrap 3 = 3 := by decide
  have e3 : IntKind.i16.wrap 65533 = -3 := by decide
  have e4 : IntKind.i16.wrap 32768 = -32768 := by decide
  have e5 : IntKind.u16.wrap (-65535) = 1 := by decide
  have e6 : IntKind.u16.wrap 65536 = 0 := by decide
  have e7 : IntKind.u16.wrap (-1) = 65535 := by decide
  have e8 : IntKind.u16.wrap 65535 = 65535 := by decide
  have e9 : IntKind.u16.wrap (-65532) = 4 := by decide
  have e10 : IntKind.u16.wrap (-65534) = 2 := by decide
  go_enter Try.func15, Try.ntmps15
  go_wp2
  go_ret
  refine ⟨rfl, ?_⟩
  repeat (first | exact Below.refl _ _ | refine Below.alloc ?_ (by simp <;> omega) _)
theorem at_c (a n x : Int) (w : World) : Calls Try.prog 17 #[.agg #[.int .u16 a, .int .i64 n], .int .u16 x] w fun e w' => e = .returned (.int .i64 (atV a n x)) ∧ Below w.heap.size w w' := by
  have hu := Try.underlying31
  by_cases h : (x - a) % 65536 < n
  · have hh : hasV a n x = true := decide_eq_true h
    have hr := Bx.mk (show atV a n x = (x - a) % 65536 by unfold atV; rw [if_pos h])
    clear h
    go_enter Try.func17, Try.ntmps17
    go_wp2_with (go_at_call 18; (with_reducible refine (has_c _ _ _ _).mono ?_); rintro e w1 ⟨rfl, hb⟩; have hbs := hb.size; have hc1 := hb.cell (p := ⟨w.heap.size, 0, none⟩) (by simp); have hc2 := hb.cell (p := ⟨w.heap.size, 1, none⟩) (by simp); have HB := Bx.mk hb; clear hb)
    go_ret
    refine ⟨retInt ?_, ?_⟩
    · rw [u16w, w64 (by omega), hr.out]
    · exact ((Below.refl _ _).alloc (Nat.le_refl _) _).trans (HB.out.mono (by simp))
  · have hh : hasV a n x = false := decide_eq_false h
    have hr := Bx.mk (show atV a n x = -1 by unfold atV; rw [if_neg h])
    clear h
    go_enter Try.func17, Try.ntmps17
    go_wp2_with (go_at_call 18; (with_reducible refine (has_c _ _ _ _).mono ?_); rintro e w1 ⟨rfl, hb⟩; have HB := Bx.mk hb; clear hb)
    go_ret
    refine ⟨retInt hr.out.symm, ?_⟩
    exact ((Below.refl _ _).alloc (Nat.le_refl _) _).trans (HB.out.mono (by simp))
end Go.Proofs.Ytdfdopegkicnaaa.Base
