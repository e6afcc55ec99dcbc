/- Layer 13: SenderFull's walk. -/
import Derived.Test.YtbglagllgppggaaWorks
set_option linter.unusedVariables false
set_option linter.unusedSimpArgs false
namespace Go.Proofs.Ytbglagllgppggaa.Base
open Go.RowKit Go.Proofs.YtbglagllgppggaaW.PrintWords Go.Proofs.YtbglagllgppggaaW.PrintLast Go.Proofs.YtbglagllgppggaaW.PrintMore
open Go.Proofs.Ytbglagllgppggaa.Comm Go.Proofs.Ytbglagllgppggaa.PSenderPlays

theorem tmodNeg (a m : Int) (hm : 0 < m) (h : Int.tmod a m < 0) : Int.tmod a m + m = a % m := by
  have hmo := Int.tmod_eq_emod (a := a) (b := m)
  have e0 := Int.emod_nonneg a (b := m) (by omega)
  split at hmo
  · rw [hmo] at h; omega
  · have hsg : m.natAbs = m := by omega
    omega
theorem tmodPos (a m : Int) (hm : 0 < m) (h : ¬ Int.tmod a m < 0) : Int.tmod a m = a % m := by
  have hmo := Int.tmod_eq_emod (a := a) (b := m)
  have e1 := Int.emod_lt_of_pos a (b := m) hm
  split at hmo
  · omega
  · have hsg : m.natAbs = m := by omega
    omega
theorem retInt {k : IntKind} {a b : Int} (h : a = b) : Ending.returned (.int k a) = .returned (.int k b) := by rw [h]
theorem bring_c (a m : Int) (w : World) (hm : 0 < m) (hm' : m ≤ 1099511627776) : Calls Try.prog 8 #[.int .i64 a, .int .i64 m] w fun e w' => e = .returned (.int .i64 (a % m)) ∧ w = w' := by
  have hz : (m == 0) = false := by rw [beq_eq_false_iff_ne]; omega
  have e0 := Int.emod_nonneg a (b := m) (by omega)
  have e1 := Int.emod_lt_of_pos a (b := m) hm
  by_cases h : Int.tmod a m < 0
  · have hd : decide (Int.tmod a m < 0) = true := decide_eq_true h
    have ht := Bx.mk (tmodNeg a m hm h)
    have hw := Bx.mk (show wrap64 (Int.tmod a m + m) = a % m by rw [ht.out]; exact w64 (by omega))
    clear h
    go_enter Try.func8, Try.ntmps8
    go_wp2
    go_ret
    exact ⟨retInt hw.out, rfl⟩
  · have hd : decide (Int.tmod a m < 0) = false := decide_eq_false h
    have ht := Bx.mk (tmodPos a m hm h)
    clear h
    go_enter Try.func8, Try.ntmps8
    go_wp2
    go_ret
    exact ⟨retInt ht.out, rfl⟩
theorem byte_C0 (W : World) (x : Int) (b : Nat) (hb : W.heap.size = b) : (Kd.int .u8).C (W.alloc (.cells #[.int .u8 x] 5)) (some ⟨b, 0, none⟩) 1 [x] := by
  subst hb
  refine Kd.C_of_reads (d := (0 : Int)) (h1 := fun _ => rfl) ⟨rfl, by simp, fun _ => ⟨_, rfl, fun j hj => ?_⟩⟩
  have : j = 0 := by simpa using hj
  subst this
  rw [add_plain]
  exact cell_of_row _ _ 0 _ _ (0, 0) (heap_alloc_new W _)
theorem SB.size {B : Nat} {w : World} {g ch W : Nat} {nx : Int} {ms : List (List Int)} {sd al : Nat} (h : SB B w g ch W nx ms sd al) : B ≤ w.heap.size := by
  have h1 := h.bg; have h2 := h.glt; omega
set_option maxRecDepth 100000 in
set_option maxHeartbeats 4000000 in
theorem full_c (window : Int) (w : World) : Calls Try.prog 5 #[.int .i64 window] w fun e w' => e = .returned (.bool true) ∧ Below w.heap.size w w' := by
  go_enter Try.func5, Try.ntmps5
  go_wp2_with fail
  refine (bring_c window 4 _ (by decide) (by decide)).mono ?_
  rintro e _ ⟨rfl, rfl⟩
  obtain ⟨W, hW, W1, W4⟩ : ∃ W : Nat, wrap64 (1 + window % 4) = (W : Int) ∧ 1 ≤ W ∧ W ≤ 4 := by
    have h0 := Int.emod_nonneg window (b := 4) (by decide)
    have h1 := Int.emod_lt_of_pos window (b := 4) (by decide)
    exact ⟨(1 + window % 4).toNat, by unfold wrap64; omega, by omega, by omega⟩
  generalize window % 4 = q at *
  go_wp2_with fail
  rw [hW]
  refine (new_b W 7 _ W1 W4 (by decide) (by decide)).mono ?_
  rintro e w1 ⟨rfl, ha, hb⟩
  obtain ⟨g, hg⟩ : ∃ g, g = w.heap.size + 1 := ⟨_, rfl⟩
  obtain ⟨ch, hch⟩ : ∃ c, c = w.heap.size := ⟨_, rfl⟩
  rw [← hg] at ha
  rw [← hg]
  have HA1 : Bx (SB w.heap.size w1 g ch W 7 [] 0 0) := ⟨by rw [hch]; exact ha⟩
  have HB1 := Bx.mk hb
  have HWW := Bx.mk (And.intro W1 W4)
  clear ha hb hg hch hW W1 W4
  go_wp2_with fail
  go_loopw [5] (fun v wr => ∃ (i : Nat) (nx : Int) (ms : List (List Int)) (sd : Nat), v = .int .i64 (i : Int) ∧ Bx (i ≤ 20000 ∧ ms.length = min i 512 ∧ sd < W) ∧ Bx (SB w.heap.size wr g ch W nx ms sd i) ∧ Bx (Below w.heap.size w wr)) (fun v _ => 20000 - (intOf v).toNat)
  case atStart => exact ⟨0, 7, [], 0, rfl, ⟨by omega, by simp, HWW.out.1⟩, HA1, HB1⟩
  case round =>
    clear HA1 HB1
    obtain ⟨i, nx, ms, sd, rfl, HI, HA, HB⟩ := hrel
    have i0 : (0 : Int) ≤ (i : Int) := by omega
    by_cases h2 : i < 20000
    · have d2 : decide ((i : Int) < 20000) = true := decide_eq_true (by omega)
      have hs := HA.out.size
      have HBL := Bx.mk ((Below.refl wr.heap.size wr).alloc (Nat.le_refl _) (.cells #[.int .u8 1] 5))
      have HA2 := Bx.mk (SA.below HA.out HBL.out)
      have HB2 := Bx.mk (HB.out.alloc hs (.cells #[.int .u8 1] 5))
      have HC := Bx.mk (byte_C0 wr 1 _ rfl)
      have hwi : Bx (wrap64 ((i : Int) + 1) = ((i + 1 : Nat) : Int)) := ⟨by unfold wrap64; omega⟩
      by_cases h5 : i < 512
      · have d5 : decide ((i : Int) < 512) = true := decide_eq_true (by omega)
        have d6 : decide ((512 : Int) ≤ (i : Int)) = false := decide_eq_false (by omega)
        have HN := Bx.mk (And.intro h2 h5)
        clear h2 h5 hs HA HB HBL
        go_wp2_with fail
        refine (put_b (some ⟨wr.heap.size, 0, none⟩) [1] 1 HA2.out HB2.out HC.out (by decide) (by decide) (by decide) HN.out.1 (by have h1 := HI.out.2.1; have h2 := HN.out.2; omega)).mono ?_
        rintro e w2 ⟨rfl, ha, hb⟩
        have HA3 := Bx.mk ha
        have HB3 := Bx.mk hb
        clear ha hb HA2 HB2 HC
        go_wp2_with fail
        rw [hwi.out]
        go_roundw
        case rel => exact ⟨i + 1, nx, ms ++ [[1]], sd, rfl, ⟨by have := HN.out; omega, by have h1 := HI.out.2.1; have h2 := HN.out.2; simp; omega, HI.out.2.2⟩, HA3, HB3⟩
        case measure => have := HN.out; simp only [intOf]; omega
      · have d5 : decide ((i : Int) < 512) = false := decide_eq_false (by omega)
        have d6 : decide ((512 : Int) ≤ (i : Int)) = true := decide_eq_true (by omega)
        have HN := Bx.mk (show i < 20000 ∧ 512 ≤ i ∧ ms.length = 512 by have := HI.out.2.1; omega)
        clear h2 h5 hs HA HB HBL HC
        go_wp2_with fail
        refine (put_full (some ⟨wr.heap.size, 0, none⟩) 1 1 HA2.out (by decide) (by decide) HN.out.1 (Nat.le_of_eq HN.out.2.2.symm)).mono ?_
        rintro e _ ⟨rfl, rfl⟩
        go_wp2_with fail
        have hmin : min W ms.length = W := by have h1 := HN.out.2.2; have h2 := HWW.out; omega
        have hfr := fresh_b HA2.out HB2.out
        rw [hmin] at hfr
        have hlen := items_len nx ms sd (W - sd)
        generalize items nx ms sd (W - sd) = xs at *
        have n0 := HA2.out.n0
        have n1 := HA2.out.n1
        have d1 : decide ((xs.length : Int) < 1) = false := decide_eq_false (by have h1 := HI.out.2.2; omega)
        have d8 : wrap64 (nx + 1) = nx + 1 := by unfold wrap64; omega
        have d9 : Int.tmod (nx + 1) 65536 = (nx + 1) % 65536 := Int.tmod_eq_emod_of_nonneg (by omega)
        have HNX := Bx.mk (show (((nx + 1) % 65536) - nx) % 65536 = ((1 : Nat) : Int) ∧ 0 ≤ (nx + 1) % 65536 ∧ (nx + 1) % 65536 ≤ 65535 by omega)
        clear hlen hmin n0 n1
        generalize (nx + 1) % 65536 = ack at *
        refine hfr.mono ?_
        rintro e w2 ⟨v, rfl, hr, ha, hb⟩
        obtain ⟨A5, c5, rfl, hc5, hC5⟩ := Kd.R_reads hr
        have HA3 := Bx.mk ha
        have HB3 := Bx.mk hb
        clear hr ha hb hc5 hC5 HA2 HB2 hfr
        go_wp2_with fail
        refine (next_c HA3.out).mono ?_
        rintro e _ ⟨rfl, rfl⟩
        go_wp2_with fail
        refine (heard_b ack 1 HA3.out HB3.out HNX.out.2.1 HNX.out.2.2 HNX.out.1 HWW.out.1).mono ?_
        rintro e w3 ⟨rfl, ha, hb⟩
        have HA4 := Bx.mk ha
        have HB4 := Bx.mk hb
        clear ha hb HA3 HB3 d8 d9
        go_wp2_with fail
        have hs := HA4.out.size
        have HA5 := Bx.mk (SA.below HA4.out ((Below.refl w3.heap.size w3).alloc (Nat.le_refl _) (.cells #[.int .u8 1] 5)))
        have HB5 := Bx.mk (HB4.out.alloc hs (.cells #[.int .u8 1] 5))
        have HC := Bx.mk (byte_C0 w3 1 _ rfl)
        clear hs HA4 HB4
        refine (put_b (some ⟨w3.heap.size, 0, none⟩) [1] 1 HA5.out HB5.out HC.out (by decide) (by decide) (by decide) HN.out.1 (by have h1 := HN.out.2.2; rw [List.length_drop]; omega)).mono ?_
        rintro e w4 ⟨rfl, ha, hb⟩
        have HA6 := Bx.mk ha
        have HB6 := Bx.mk hb
        clear ha hb HA5 HB5 HC
        go_wp2_with fail
        rw [hwi.out]
        go_roundw
        case rel => exact ⟨i + 1, ack, ms.drop 1 ++ [[1]], W - 1, rfl, ⟨by have := HN.out; omega, by have h1 := HN.out; simp; omega, by have := HWW.out; omega⟩, HA6, HB6⟩
        case measure => have := HN.out; simp only [intOf]; omega
    · have d2 : decide ((i : Int) < 20000) = false := decide_eq_false (by omega)
      obtain rfl : i = 20000 := by have := HI.out; omega
      have hs := HA.out.size
      have HA2 := Bx.mk (SA.below HA.out ((Below.refl wr.heap.size wr).alloc (Nat.le_refl _) (.cells #[.int .u8 1] 5)))
      have HB2 := Bx.mk (HB.out.alloc hs (.cells #[.int .u8 1] 5))
      have HS2 := Bx.mk (show w.heap.size ≤ (wr.alloc (.cells #[.int .u8 1] 5)).heap.size by simp; omega)
      clear hs HA HB
      go_wp2_with fail
      refine (put_limit (some ⟨wr.heap.size, 0, none⟩) 1 1 HA2.out (by decide) (by decide) (Nat.le_refl _)).mono ?_
      rintro e _ ⟨rfl, rfl⟩
      go_wp2_with fail
      refine (put_arg none 0 0 HA2.out (.inl (by decide))).mono ?_
      rintro e _ ⟨rfl, rfl⟩
      go_wp2_with fail
      refine (works_c _).mono ?_
      rintro e w3 ⟨rfl, hb⟩
      have HB3 := Bx.mk (HB2.out.trans (hb.mono HS2.out))
      clear hb
      go_wp2_with fail
      go_ret
      exact ⟨rfl, HB3.out⟩
end Go.Proofs.Ytbglagllgppggaa.Base
