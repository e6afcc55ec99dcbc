/- Layer 13: is, where it says yes. -/
import Derived.Test.YtbglagllgppggaaHeard
set_option linter.unusedVariables false
set_option linter.unusedSimpArgs false
namespace Go.Proofs.Ytbglagllgppggaa.Base
open Go.RowKit Go.Proofs.YtbglagllgppggaaW.PrintWords Go.Proofs.YtbglagllgppggaaW.PrintLast Go.Proofs.YtbglagllgppggaaW.PrintMore
open Go.Proofs.Ytbglagllgppggaa.Comm Go.Proofs.Ytbglagllgppggaa.PSenderPlays

set_option maxRecDepth 100000 in
set_option maxHeartbeats 1000000 in
theorem is_yes (A : Option Addr) (c : Nat) (xs : List S35) (fr : Int) (A2 : Option Addr) (c2 : Nat) (ts : List ByteArray) (w : World) (hX : k35.C w A xs.length xs) (hT : Kd.string.C w A2 ts.length ts) (hl : xs.length = ts.length) (h4 : xs.length ≤ 4) (f0 : 0 ≤ fr) (f1 : fr ≤ 65535)
    (he : ∀ i : Nat, i < xs.length → (rd_T35 xs i).f0 = (fr + i) % 65536 ∧ strOfNums (rd_T35 xs i).f1 = rdOf ByteArray.empty ts i) :
    Calls Try.prog 23 #[.slice A xs.length c, .int .i64 fr, .slice A2 ts.length c2] w fun e w' => e = .returned (.bool true) ∧ Drawn0 w w' := by
  have HX := Bx.mk hX
  have HT := Bx.mk hT
  have HE := Bx.mk he
  have HL := Bx.mk (And.intro hl (And.intro h4 (And.intro f0 f1)))
  clear hX hT he h4
  obtain ⟨n, hn⟩ : ∃ n, n = xs.length := ⟨_, rfl⟩
  rw [← hl, ← hn]
  have HN := Bx.mk hn
  clear hn hl f0 f1
  go_enter Try.func23, Try.ntmps23
  go_wp2_with fail
  go_loopw [7] (fun v wr => ∃ i : Nat, i ≤ n ∧ v = .int .i64 (i : Int) ∧ Bx (Drawn0 w wr)) (fun v _ => n - (intOf v).toNat)
  case atStart => exact ⟨0, by omega, rfl, ⟨⟨⟨0, rfl⟩⟩⟩⟩
  case round =>
    obtain ⟨i, hi, rfl, HD⟩ := hrel
    obtain ⟨nd, rfl⟩ := HD.out.out
    clear HD
    have i0 : (0 : Int) ≤ (i : Int) := by omega
    by_cases hin : i < n
    · have i1 : (i : Int) < (n : Int) := by omega
      obtain ⟨ad, A1, c1, rfl, ca, cb, hlc, hC⟩ := at_T35 HX.out (i : Int) i0 (by rw [← HN.out]; exact i1)
      obtain ⟨ad2, rfl, cc⟩ := Kd.at_string HT.out (i : Int) i0 (by rw [← HL.out.1, ← HN.out]; exact i1)
      obtain ⟨e1, e2⟩ := HE.out i (by rw [← HN.out]; exact hin)
      have hcv2 := fun m => Kd.C_string (P := Try.prog) (A := A1) (c := c1) Try.underlying31 Try.underlying5 Try.underlying9 (Kd.C_drewN hC m)
      simp only [e2] at hcv2
      rw [e1] at ca
      rw [Int.toNat_natCast] at ca cb cc
      have hw : IntKind.i64.wrap (fr + (i : Int)) = fr + (i : Int) := by have h1 := HL.out; have h2 := HN.out; simp [IntKind.wrap, IntKind.signed, IntKind.bits]; omega
      have hm : Int.tmod (fr + (i : Int)) 65536 = (fr + (i : Int)) % 65536 := Int.tmod_eq_emod_of_nonneg (by have := HL.out; omega)
      generalize (fr + (i : Int)) % 65536 = sq at *
      generalize (rd_T35 xs i).f1.length = bl at *
      generalize rdOf ByteArray.empty ts i = tt at *
      go_wp2_with fail
      go_quiet (fail)
      go_wp2_with fail
      have hwi : wrap64 ((i : Int) + 1) = ((i + 1 : Nat) : Int) := by have h1 := HL.out; have h2 := HN.out; unfold wrap64; omega
      rw [hwi]
      go_roundw
      case rel => exact ⟨i + 1, by omega, rfl, ⟨⟨⟨_, rfl⟩⟩⟩⟩
      case measure => simp only [intOf]; omega
    · have i1 : ¬ (i : Int) < (n : Int) := by omega
      go_wp2_with fail
      go_ret
      exact ⟨rfl, ⟨⟨nd, rfl⟩⟩⟩
end Go.Proofs.Ytbglagllgppggaa.Base
