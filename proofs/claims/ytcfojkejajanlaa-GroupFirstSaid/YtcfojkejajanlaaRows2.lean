/- Layer 10: the ports that 'rows' tells: some of the four, none twice. -/
import Derived.Test.YtcfojkejajanlaaPGroupFirstx1
import Derived.Test.YtcfojkejajanlaaOpen
set_option linter.unusedVariables false
set_option linter.unusedSimpArgs false
namespace Go.Proofs.Ytcfojkejajanlaa.Base
open Go.RowKit Go.Proofs.YtcfojkejajanlaaW.PrintWords Go.Proofs.YtcfojkejajanlaaW.PrintLast Go.Proofs.YtcfojkejajanlaaW.PrintMore Go.Proofs.Ytcfojkejajanlaa.PGroupFirst

theorem bringF (a m : Int) (hm : 0 < m) (hm' : m ≤ 1099511627776) : catenaryref00_Bring.f a m = some (a % m) := by
  unfold catenaryref00_Bring.f
  have hmo := Int.tmod_eq_emod (a := a) (b := m)
  have e0 := Int.emod_nonneg a (b := m) (by omega)
  have e1 := Int.emod_lt_of_pos a (b := m) hm
  rw [if_neg (by omega)]
  by_cases h : 0 ≤ a ∨ m ∣ a
  · rw [if_pos h] at hmo
    rw [if_neg (by omega)]
    simp [hmo]
  · rw [if_neg h] at hmo
    have hn : ((m.natAbs : Nat) : Int) = m := by omega
    have hlt : Int.tmod a m < 0 := by omega
    rw [if_pos hlt]
    have hw : wrap64 (Int.tmod a m + m) = Int.tmod a m + m := by unfold wrap64; omega
    rw [hw]
    congr 1; omega
theorem rows_l0 (x1 : Int) : ∀ (k : Nat) (x5 x6 : List Int) (x7 x8 : Int), catenarylaw10_rows.l0 k x1 x5 x6 x7 x8 = catenarylaw10_rows.l0 k (x1 % 5) x5 x6 x7 x8 := by
  intro k
  induction k with
  | zero => intro x5 x6 x7 x8; rfl
  | succ k ih =>
    intro x5 x6 x7 x8
    simp only [catenarylaw10_rows.l0]
    rw [bringF _ _ (by omega) (by omega), bringF _ _ (by omega) (by omega)]
    have e : x1 % 5 % 5 = x1 % 5 := by omega
    rw [e]
    simp only [ih]
theorem rows_f (a b : Int) (k : Nat) : catenarylaw10_rows.f k a b = catenarylaw10_rows.f k (a % 24) (b % 5) := by
  unfold catenarylaw10_rows.f
  rw [bringF _ _ (by omega) (by omega), bringF _ _ (by omega) (by omega)]
  have e : a % 24 % 24 = a % 24 := by omega
  rw [e]
  simp only [Option.bind_some]
  exact rows_l0 b k _ _ _ _
def okB (ps : List Int) : Bool := ps.all (fun p => decide (1 ≤ p) && decide (p ≤ 4)) && decide ps.Nodup && decide (ps.length ≤ 4)
theorem rows_all : ∀ (t : Fin 24) (m : Fin 5), (match catenarylaw10_rows.f 6 (t.val : Int) (m.val : Int) with | some r => okB r | none => false) = true := by decide +kernel
theorem rows_ps (a b : Int) : ∃ r, catenarylaw10_rows.f 6 a b = some r ∧ okP r ∧ r.length ≤ 4 := by
  have h := rows_all ⟨(a % 24).toNat, by omega⟩ ⟨(b % 5).toNat, by omega⟩
  have ea : (((a % 24).toNat : Nat) : Int) = a % 24 := by omega
  have eb : (((b % 5).toNat : Nat) : Int) = b % 5 := by omega
  simp only [ea, eb] at h
  rw [← rows_f] at h
  cases hr : catenarylaw10_rows.f 6 a b with
  | none => rw [hr] at h; cases h
  | some r =>
    rw [hr] at h
    simp only [okB, Bool.and_eq_true, List.all_eq_true, decide_eq_true_eq] at h
    exact ⟨r, rfl, ⟨h.1.1, h.1.2⟩, h.2⟩
end Go.Proofs.Ytcfojkejajanlaa.Base
