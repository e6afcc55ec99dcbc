/- SerialTwo: for all a, b in uint16 and every int n, Ahead, Less and Plus of package serial answer as the chapter's reference does. No condition. -/
import Derived.Test.YtdfdopegkicnaaaPSerialTwox1
import Derived.OpenShut
namespace Go.Proofs.Ytdfdopegkicnaaa.Pure
open Go.RowKit Go.Proofs.Ytdfdopegkicnaaa.PSerialTwo Go.Proofs.YtdfdopegkicnaaaW.PrintWords Go.Proofs.YtdfdopegkicnaaaW.PrintLast
namespace SerialTwoAid
theorem u16w (n : Int) : IntKind.u16.wrap n = n % 65536 := by
  simp [IntKind.wrap, IntKind.bits, IntKind.signed]
theorem i16w (n : Int) : IntKind.i16.wrap n = (if n % 65536 ≥ 32768 then n % 65536 - 65536 else n % 65536) := by
  simp [IntKind.wrap, IntKind.bits, IntKind.signed]
theorem w64 {n : Int} (h : -9223372036854775808 ≤ n ∧ n ≤ 9223372036854775807) : wrap64 n = n := by
  unfold wrap64; omega
theorem bring (a m : Int) (hm : 0 < m) (hm' : m ≤ 1099511627776) : catenaryref00_Bring.f a m = some (a % m) := by
  unfold catenaryref00_Bring.f
  have hmo := Int.tmod_eq_emod (a := a) (b := m)
  have e0 := Int.emod_nonneg a (b := m) (by omega)
  have e1 := Int.emod_lt_of_pos a (b := m) hm
  rw [if_neg (by omega)]
  by_cases h : 0 ≤ a ∨ m ∣ a
  · rw [if_pos h] at hmo
    rw [if_neg (by omega)]
    simp [hmo]
  · rw [if_neg h] at hmo
    have hn : ((m.natAbs : Nat) : Int) = m := by omega
    have hlt : Int.tmod a m < 0 := by omega
    rw [if_pos hlt, w64 (by omega)]
    congr 1; omega
theorem goAhead (a b : Int) : serial_Ahead_uint16.f a b = some (if (b - a) % 65536 ≥ 32768 then (b - a) % 65536 - 65536 else (b - a) % 65536) := by
  unfold serial_Ahead_uint16.f
  rw [u16w, i16w]
  congr 1
  rw [Int.emod_emod]
  apply w64
  split <;> omega
theorem aheadR (a b : Int) (ha : 0 ≤ a ∧ a ≤ 65535) (hb : 0 ≤ b ∧ b ≤ 65535) : catenaryref02_Ahead.f a b = some (if (b - a) % 65536 ≥ 32768 then (b - a) % 65536 - 65536 else (b - a) % 65536) := by
  unfold catenaryref02_Ahead.f
  rw [w64 (by omega), bring _ _ (by omega) (by omega)]
  simp only [Option.bind_some]
  split
  · rw [w64 (by omega)]
  · rfl
theorem goLess (a b : Int) (ha : 0 ≤ a ∧ a ≤ 65535) (hb : 0 ≤ b ∧ b ≤ 65535) : serial_Less_uint16.f a b = some (decide ((if (b - a) % 65536 ≥ 32768 then (b - a) % 65536 - 65536 else (b - a) % 65536) > 0)) := by
  unfold serial_Less_uint16.f
  rw [u16w]
  split
  · subst_vars; simp
  · congr 1
    simp only [decide_eq_decide]
    split <;> omega
theorem lessR (a b : Int) (ha : 0 ≤ a ∧ a ≤ 65535) (hb : 0 ≤ b ∧ b ≤ 65535) : catenaryref02_Less.f a b = some (decide ((if (b - a) % 65536 ≥ 32768 then (b - a) % 65536 - 65536 else (b - a) % 65536) > 0)) := by
  unfold catenaryref02_Less.f
  rw [aheadR a b ha hb]; rfl
theorem goPlus (a n : Int) : serial_Plus_uint16.f a n = some ((a + n) % 65536) := by
  unfold serial_Plus_uint16.f
  rw [u16w, u16w]
  congr 1; omega
theorem plusR (a n : Int) (ha : 0 ≤ a ∧ a ≤ 65535) : catenaryref02_Plus.f a n = some ((a + n) % 65536) := by
  unfold catenaryref02_Plus.f
  rw [bring _ _ (by omega) (by omega)]
  simp only [Option.bind_some]
  rw [w64 (by omega), Int.tmod_eq_emod_of_nonneg (by omega)]
  congr 1; omega
theorem worksYes : catenarylaw02_works.f 1 = some true := by decide +kernel
end SerialTwoAid
open SerialTwoAid in
theorem SerialTwo : catenarylaw02_SerialTwo.Pure := by
  intro a b n wa wb _
  have ha := bounds_u16 wa
  have hb := bounds_u16 wb
  refine ⟨1, ?_⟩
  unfold catenarylaw02_SerialTwo.f
  rw [w64 (n := a) (by omega), w64 (n := b) (by omega), goAhead a b, aheadR a b ha hb, goLess a b ha hb, lessR a b ha hb, goPlus, plusR a n ha, worksYes]
  simp only [Option.bind_some, if_true, beq_self_eq_true]
  rw [w64 (by omega)]
  simp

end Go.Proofs.Ytdfdopegkicnaaa.Pure
