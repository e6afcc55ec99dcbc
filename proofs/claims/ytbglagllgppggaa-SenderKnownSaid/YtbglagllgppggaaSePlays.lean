/- Layer 13: SenderPlays' walk. -/
import Derived.Test.YtbglagllgppggaaDos
set_option linter.unusedVariables false
set_option linter.unusedSimpArgs false
namespace Go.Proofs.Ytbglagllgppggaa.Base
open Go.RowKit Go.Proofs.YtbglagllgppggaaW.PrintWords Go.Proofs.YtbglagllgppggaaW.PrintLast Go.Proofs.YtbglagllgppggaaW.PrintMore
open Go.Proofs.Ytbglagllgppggaa.Comm Go.Proofs.Ytbglagllgppggaa.PSenderPlays

theorem plays_no (window first : Int) (A : Option Addr) (n c : Nat) (w : World) (hf : ¬ (1 ≤ window ∧ window ≤ 4 ∧ 0 ≤ first ∧ first ≤ 65535)) : Calls Try.prog 6 #[.int .i64 window, .int .i64 first, .slice A n c] w fun e w' => e = .returned (.bool true) ∧ Below w.heap.size w w' := by
  have HF := Bx.mk hf
  clear hf
  go_enter Try.func6, Try.ntmps6
  go_wp2_with fail
  refine (new_no window first _ HF.out).mono ?_
  rintro e _ ⟨rfl, rfl⟩
  go_wp2_with fail
  refine (rnew_no window first _ HF.out).mono ?_
  rintro e _ ⟨rfl, rfl⟩
  go_wp2_with fail
  go_loop [11] (fun v => v = .int .i64 0) (fun _ => 0)
  case atStart => rfl
  case round =>
    subst hrel
    by_cases h : 0 < n
    · have h1 : (0 : Int) < (n : Int) := by omega
      go_wp2_with fail
      refine (works_c _).mono ?_
      rintro e w4 ⟨rfl, hb4⟩
      go_wp2_with fail
      go_ret
      exact ⟨rfl, hb4⟩
    · have h1 : ¬ (0 : Int) < (n : Int) := by omega
      go_wp2_with fail
      refine (works_c _).mono ?_
      rintro e w4 ⟨rfl, hb4⟩
      go_wp2_with fail
      go_ret
      exact ⟨rfl, hb4⟩
theorem eq2_drewN {w0 w : World} {g ch r W : Nat} (h : Eq2 w0 w g ch r W) (n : Nat) : Eq2 w0 (w.drewN n) g ch r W := by
  obtain ⟨nx, ms, sd, al, h⟩ := h
  exact ⟨nx, ms, sd, al, h.grow (pw_below_drewN (Below.refl _ w) n)⟩
theorem Eq2.below {w0 w : World} {g ch r W : Nat} (h : Eq2 w0 w g ch r W) : Below w0.heap.size w0 w := by
  obtain ⟨nx, ms, sd, al, h⟩ := h
  exact h.below
set_option maxRecDepth 100000 in
set_option maxHeartbeats 8000000 in
theorem plays_yes (W : Nat) (first : Int) (A : Option Addr) (n c : Nat) (ds : List Do) (w : World) (W1 : 1 ≤ W) (W4 : W ≤ 4) (f0 : 0 ≤ first) (f1 : first ≤ 65535) (hD : doK.C w A ds.length ds) (hn : ds.length = n) (hc : n ≤ c) :
    Calls Try.prog 6 #[.int .i64 (W : Int), .int .i64 first, .slice A n c] w fun e w' => e = .returned (.bool true) ∧ Below w.heap.size w w' := by
  have HD := Bx.mk hD
  have HN := Bx.mk hn
  have HF := Bx.mk (And.intro W1 (And.intro W4 (And.intro f0 f1)))
  clear hD hn W1 W4 f0 f1
  go_enter Try.func6, Try.ntmps6
  go_wp2_with fail
  refine (new_yes W first w (fun _ => False) HF.out.1 HF.out.2.1 HF.out.2.2.1 HF.out.2.2.2 (fun _ h => h)).mono ?_
  rintro e w1 ⟨rfl, ha, hb⟩
  have HA := Bx.mk ha
  have HB := Bx.mk hb
  clear ha hb
  go_wp2_with fail
  refine (rnew_yes w.heap.size W first w1 HB.out.size HF.out.1 HF.out.2.1 HF.out.2.2.1 HF.out.2.2.2).mono ?_
  rintro e w2 ⟨rfl, hr, hb⟩
  have HJ := Bx.mk (J.made HA.out HB.out hr hb (Nat.le_refl _)).eq2
  clear hr hb HA HB
  obtain ⟨g, hg⟩ : ∃ g, g = w.heap.size + 1 := ⟨_, rfl⟩
  obtain ⟨ch, hch⟩ : ∃ ch, ch = w.heap.size := ⟨_, rfl⟩
  obtain ⟨r, hr⟩ : ∃ r, r = w1.heap.size := ⟨_, rfl⟩
  rw [← hg, ← hr]
  have H2 : Bx (Eq2 w w2 g ch r W) := ⟨by rw [hg, hch, hr]; exact HJ.out⟩
  clear HJ hg hch hr
  go_wp2_with fail
  go_loopw [11] (fun v wr => ∃ i : Nat, i ≤ 200 ∧ v = .int .i64 (i : Int) ∧ Bx (Eq2 w wr g ch r W)) (fun v _ => 200 - (intOf v).toNat)
  case atStart => exact ⟨0, by omega, rfl, H2⟩
  case round =>
    clear H2
    obtain ⟨i, hi2, rfl, HE⟩ := hrel
    have i0 : (0 : Int) ≤ (i : Int) := by omega
    by_cases hin : i < n
    · have i1 : (i : Int) < (n : Int) := by omega
      by_cases hi : i < 200
      · have i2 : (i : Int) < 200 := by omega
        have HI := Bx.mk hi
        have hid : i < ds.length := by have := HN.out; omega
        obtain ⟨ad, A', c', rfl, ce0, ce1, ce2, hlc, hC⟩ := doCell HD.out i hid
        generalize ds[i] = x at *
        obtain ⟨K, N, bs⟩ := x
        simp only at ce0 ce1 ce2 hlc hC
        have ce0 := pw_cell_below HE.out.below ce0
        have ce1 := pw_cell_below HE.out.below ce1
        have ce2 := pw_cell_below HE.out.below ce2
        have HLC := Bx.mk hlc
        have HE2 := Bx.mk (show Eq2 w (wr.alloc (.cells #[.int .i64 K, .int .i64 N, .slice A' (if 300 < bs.length then 300 else bs.length) c'] 48)) g ch r W by
          obtain ⟨nx, ms, sd, al, h⟩ := HE.out
          exact ⟨nx, ms, sd, al, h.grow (below_alloc (Below.refl _ wr) _)⟩)
        have HST : Bx (∀ X, Eq2 w X g ch r W → Calls Try.prog 19 #[.pointer (some ⟨g, 0, none⟩), .pointer (some ⟨r, 0, none⟩), .agg #[.int .i64 K, .int .i64 N, .slice A' (if 300 < bs.length then 300 else bs.length) c']] X fun e w' => e = .returned (.bool true) ∧ Eq2 w w' g ch r W) := ⟨fun X hX => by
          by_cases hb : 300 < bs.length
          · have e3 : (bs.take 300).length = 300 := by rw [List.length_take]; omega
            have := step_c K N A' c' (bs.take 300) hX (Kd.C_take hC (by omega)) (by rw [e3]; omega) (by omega)
            rw [e3] at this
            rw [if_pos hb]
            exact this
          · rw [if_neg hb]
            exact step_c K N A' c' bs hX hC hlc (by omega)⟩
        clear hC hid hi hin HE
        by_cases hb : 300 < bs.length
        all_goals
          first | rw [if_pos hb] at HE2 HST | rw [if_neg hb] at HE2 HST
          go_wp2_with fail
          refine (HST.out _ HE2.out).mono ?_
          rintro e w5 ⟨rfl, he⟩
          obtain ⟨nx, ms, sd, al, hj⟩ := he
          have HJ := Bx.mk hj
          clear hj hb HE2 HST ce0 ce1 ce2
          go_wp2_with (first | (go_at_call 15; (with_reducible refine (j_left HJ.out).mono ?_); rintro e _ ⟨rfl, rfl⟩) | (go_at_call 20; (with_reducible refine (j_rleft HJ.out).mono ?_); rintro e _ ⟨rfl, rfl⟩) | (go_at_call 16; (with_reducible refine (j_said HJ.out).mono ?_); rintro e _ ⟨rfl, rfl⟩) | (go_at_call 21; (with_reducible refine (j_rsaid HJ.out).mono ?_); rintro e _ ⟨rfl, rfl⟩) | (go_at_call 17; (with_reducible refine (j_next HJ.out).mono ?_); rintro e _ ⟨rfl, rfl⟩) | (go_at_call 22; (with_reducible refine (j_rnext HJ.out).mono ?_); rintro e _ ⟨rfl, rfl⟩))
          go_roundw
          case rel => exact ⟨i + 1, by have := HI.out; omega, by first | rfl | simp, ⟨HJ.out.eq2⟩⟩
          case measure => have := HI.out; simp only [intOf]; omega
      · have i2 : ¬ (i : Int) < 200 := by omega
        go_wp2_with fail
        refine (works_c _).mono ?_
        rintro e w4 ⟨rfl, hb4⟩
        go_wp2_with fail
        go_ret
        exact ⟨rfl, HE.out.below.trans (hb4.mono HE.out.below.size)⟩
    · have i1 : ¬ (i : Int) < (n : Int) := by omega
      go_wp2_with fail
      refine (works_c _).mono ?_
      rintro e w4 ⟨rfl, hb4⟩
      go_wp2_with fail
      go_ret
      exact ⟨rfl, HE.out.below.trans (hb4.mono HE.out.below.size)⟩
theorem plays_c (window first : Int) (A : Option Addr) (n c : Nat) (ds : List Do) (w : World) (hD : doK.C w A ds.length ds) (hn : ds.length = n) (hc : n ≤ c) :
    Calls Try.prog 6 #[.int .i64 window, .int .i64 first, .slice A n c] w fun e w' => e = .returned (.bool true) ∧ Below w.heap.size w w' := by
  by_cases hf : 1 ≤ window ∧ window ≤ 4 ∧ 0 ≤ first ∧ first ≤ 65535
  · obtain ⟨W, rfl⟩ : ∃ W : Nat, window = (W : Int) := ⟨window.toNat, by omega⟩
    exact plays_yes W first A n c ds w (by omega) (by omega) hf.2.2.1 hf.2.2.2 hD hn hc
  · exact plays_no window first A n c w hf
end Go.Proofs.Ytbglagllgppggaa.Base
