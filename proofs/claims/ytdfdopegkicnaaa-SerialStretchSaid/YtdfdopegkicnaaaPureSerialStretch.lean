/- SerialStretch: for every stretch (first a uint16, any int length) and every uint16 x, At and Has answer as the reference does. No condition. -/
import Derived.Test.YtdfdopegkicnaaaPSerialStretchx1
import Derived.OpenShut
namespace Go.Proofs.Ytdfdopegkicnaaa.Pure
open Go.RowKit Go.Proofs.Ytdfdopegkicnaaa.PSerialStretch Go.Proofs.YtdfdopegkicnaaaW.PrintWords Go.Proofs.YtdfdopegkicnaaaW.PrintLast
namespace SerialStretchAid
theorem u16w (n : Int) : IntKind.u16.wrap n = n % 65536 := by
  simp [IntKind.wrap, IntKind.bits, IntKind.signed]
theorem w64 {n : Int} (h : -9223372036854775808 ≤ n ∧ n ≤ 9223372036854775807) : wrap64 n = n := by
  unfold wrap64; omega
theorem bring (a m : Int) (hm : 0 < m) (hm' : m ≤ 1099511627776) : catenaryref00_Bring.f a m = some (a % m) := by
  unfold catenaryref00_Bring.f
  have hmo := Int.tmod_eq_emod (a := a) (b := m)
  have e0 := Int.emod_nonneg a (b := m) (by omega)
  have e1 := Int.emod_lt_of_pos a (b := m) hm
  rw [if_neg (by omega)]
  by_cases h : 0 ≤ a ∨ m ∣ a
  · rw [if_pos h] at hmo
    rw [if_neg (by omega)]
    simp [hmo]
  · rw [if_neg h] at hmo
    have hn : ((m.natAbs : Nat) : Int) = m := by omega
    have hlt : Int.tmod a m < 0 := by omega
    rw [if_pos hlt, w64 (by omega)]
    congr 1; omega
theorem goHas (a n x : Int) : serial_Stretch_uint16_Has.f a n x = some (decide ((x - a) % 65536 < n)) := by
  unfold serial_Stretch_uint16_Has.f
  rw [u16w, w64 (by omega)]
theorem goAt (a n x : Int) : serial_Stretch_uint16_At.f a n x = some (if (x - a) % 65536 < n then (x - a) % 65536 else -1) := by
  unfold serial_Stretch_uint16_At.f
  rw [goHas]
  simp only [Option.bind_some, decide_eq_true_eq]
  rw [u16w, w64 (by omega)]
  split <;> rfl
theorem atR (a n x : Int) (ha : 0 ≤ a ∧ a ≤ 65535) (hb : 0 ≤ x ∧ x ≤ 65535) : catenaryref02_At.f a n x = some (if (x - a) % 65536 < n then (x - a) % 65536 else -1) := by
  unfold catenaryref02_At.f
  rw [w64 (by omega), bring _ _ (by omega) (by omega)]
  simp only [Option.bind_some]
  split <;> rfl
theorem worksYes : catenarylaw02_works.f 1 = some true := by decide +kernel
end SerialStretchAid
open SerialStretchAid in
theorem SerialStretch : catenarylaw02_SerialStretch.Pure := by
  intro a n x wa _ wx
  have ha := bounds_u16 wa
  have hx := bounds_u16 wx
  refine ⟨1, ?_⟩
  unfold catenarylaw02_SerialStretch.f
  rw [w64 (n := a) (by omega), w64 (n := x) (by omega), atR a n x ha hx, goAt, goHas, worksYes]
  simp only [Option.bind_some, if_true]
  rw [if_pos]
  rw [beq_iff_eq]
  simp only [decide_eq_decide]
  split <;> omega

end Go.Proofs.Ytdfdopegkicnaaa.Pure
