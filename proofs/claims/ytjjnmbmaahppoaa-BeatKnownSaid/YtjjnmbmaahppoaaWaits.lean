/- Layer 15: BeatWaits' walk. -/
import Derived.Test.YtjjnmbmaahppoaaWorks
set_option linter.unusedVariables false
set_option linter.unusedSimpArgs false
namespace Go.Proofs.Ytjjnmbmaahppoaa.Base
open Go.RowKit Go.Proofs.YtjjnmbmaahppoaaW.PrintWords Go.Proofs.YtjjnmbmaahppoaaW.PrintLast Go.Proofs.YtjjnmbmaahppoaaW.PrintMore
attribute [local go_sem] max2_int min2_int max_two min_two

theorem okN_small {n : Int} (h0 : 0 ≤ n) (h1 : n ≤ 2 ^ 50) : okN n = true := by
  unfold okN
  rw [show decide (n < 0) = false from decide_eq_false (by omega), show decide (9007199254740991 < n) = false from decide_eq_false (by omega)]
  rfl
theorem due_at {n : Int} (h1 : n ≤ 2 ^ 50) : dueB true n n = true := by
  unfold dueB
  rw [show decide (n < n) = false from decide_eq_false (by omega), show decide (9007199254740991 < n) = false from decide_eq_false (by omega)]
  rfl
theorem due_not {a n : Int} (h1 : n < a) : dueB true a n = false := by
  unfold dueB
  rw [show decide (n < a) = true from decide_eq_true h1]
  rfl

set_option maxRecDepth 100000 in
set_option maxHeartbeats 2000000 in
theorem waits_walk (first cap from_ : Int) (w : World) : Calls Try.prog 3 #[.int .i64 first, .int .i64 cap, .int .i64 from_] w fun e w' => e = .returned (.bool true) ∧ Below w.heap.size w w' := by
  go_enter Try.func3, Try.ntmps3
  go_wp2_with fail
  refine (works_c _).mono ?_
  rintro e w1 ⟨rfl, hb1⟩
  have HB1 := Bx.mk hb1
  clear hb1
  go_wp2_with fail
  refine (bring_c first 20 _ (by decide) (by decide)).mono ?_
  rintro e _ ⟨rfl, rfl⟩
  have x0 := Int.emod_nonneg first (b := 20) (by decide)
  have x1 := Int.emod_lt_of_pos first (b := 20) (by decide)
  generalize first % 20 = x at *
  go_wp2_with fail
  refine (bring_c cap 100 _ (by decide) (by decide)).mono ?_
  rintro e _ ⟨rfl, rfl⟩
  have y0 := Int.emod_nonneg cap (b := 100) (by decide)
  have y1 := Int.emod_lt_of_pos cap (b := 100) (by decide)
  generalize cap % 100 = y at *
  go_wp2_with fail
  refine (bring_c from_ 1099511627776 _ (by decide) (by decide)).mono ?_
  rintro e _ ⟨rfl, rfl⟩
  have z0 := Int.emod_nonneg from_ (b := 1099511627776) (by decide)
  have z1 : from_ % 1099511627776 < 2 ^ 40 := Int.emod_lt_of_pos from_ (b := 1099511627776) (by decide)
  generalize from_ % 1099511627776 = z at *
  go_wp2_with fail
  refine (new_yes _ _ _ (by omega) (by omega) (by omega) (by omega)).mono ?_
  rintro e w2 ⟨rfl, hb, hw⟩
  obtain ⟨g, hg⟩ : ∃ g, g = w1.heap.size := ⟨_, rfl⟩
  rw [← hg] at hb
  rw [← hg]
  have hge : w.heap.size ≤ g := by have := HB1.out.size; omega
  have HG := Bx.mk hge
  have HA2 := Bx.mk hb
  have HB2 := Bx.mk (HB1.out.trans (hw.mono HB1.out.size))
  have HS2 := Bx.mk (Nat.le_trans HB1.out.size hw.size)
  clear hb hw hg hge HB1
  obtain ⟨f, hf⟩ : ∃ f, f = 1 + x := ⟨_, rfl⟩
  rw [← hf] at HA2 ⊢
  obtain ⟨c, hc⟩ : ∃ c, c = f + y := ⟨_, rfl⟩
  rw [← hc] at HA2 ⊢
  have f0 : 1 ≤ f := by omega
  have f1 : f ≤ 20 := by omega
  have c0 : f ≤ c := by omega
  have c1 : c ≤ 120 := by omega
  clear hf hc x0 x1 y0 y1
  go_wp2_with fail
  refine (start_ok g f c _ z _ _ _ HA2.out f0 c0 (by omega) (okN_small z0 (by omega))).mono ?_
  rintro e w3 ⟨rfl, ha, ho⟩
  have HA3 := Bx.mk ha
  have HB3 := Bx.mk (ho.below HB2.out HS2.out HG.out)
  have HS3 := Bx.mk (Nat.le_trans HS2.out ho.size)
  clear ha ho HA2 HB2 HS2
  go_wp2_with fail
  go_loopw [12, 13, 14, 15] (fun v12 v13 v14 v15 wr => ∃ (n a : Int) (t : Nat), z ≤ n ∧ n ≤ z + 600 ∧ (t : Int) ≤ n - z ∧ v12 = .int .i64 (wv f c t) ∧ v13 = .int .i64 a ∧ v14 = .int .i64 (t : Int) ∧ v15 = .int .i64 n ∧ n ≤ a ∧ a ≤ n + 200 ∧ Bx (BA wr g f c true a t) ∧ Bx (Below w.heap.size w wr) ∧ Bx (w.heap.size ≤ wr.heap.size)) (fun _ _ _ v _ => (z + 600 - intOf v).toNat)
  case atStart => exact ⟨z, z + f, 0, by omega, by omega, by simp, rfl, rfl, rfl, rfl, by omega, by omega, HA3, HB3, HS3⟩
  case round =>
    clear HA3 HB3 HS3
    obtain ⟨n, a, t, hn0, hn1, ht, rfl, rfl, rfl, rfl, ha0, ha1, HA, HB, HS⟩ := hrel
    have v0 := wv_pos f0 c0 t
    have v1 := wv_le c0 t
    have u0 := wv_pos f0 c0 (t + 1)
    have u1 := wv_le c0 (t + 1)
    by_cases hk2 : n < z + 600
    · by_cases hd : n = a
      · subst hd
        have hdue := due_at (n := n) (by omega)
        by_cases hm : c < 2 * wv f c t
        · have e : wv f c (t + 1) = c := by simp only [wv]; omega
          go_wp2_with fail
          refine (due_yes g f c n n true t _ HA.out f0 c0 (by omega) (by omega) (by omega) hdue _ rfl).mono ?_
          rintro e w4 ⟨rfl, ha, ho⟩
          have N0 := Bx.mk ha
          have N1 := Bx.mk (ho.below HB.out HS.out HG.out)
          have N2 := Bx.mk (Nat.le_trans HS.out ho.size)
          clear ha ho HA HB HS
          go_wp2_with fail
          refine (at_c g f c _ _ _ _ N0.out f0).mono ?_
          rintro e _ ⟨rfl, rfl⟩
          go_wp2_with fail
          refine (tries_c g f c _ _ _ _ N0.out f0).mono ?_
          rintro e _ ⟨rfl, rfl⟩
          go_wp2_with fail
          refine (runs_c g f c _ _ _ _ N0.out f0).mono ?_
          rintro e _ ⟨rfl, rfl⟩
          go_wp2_with fail
          go_roundw
          case rel => exact ⟨n + 1, n + wv f c (t + 1), t + 1, by omega, by omega, by simp; omega, by rw [e], by rw [e], by simp, rfl, by omega, by omega, N0, N1, N2⟩
          case measure => simp [intOf]; omega
        · have e : wv f c (t + 1) = 2 * wv f c t := by simp only [wv]; omega
          go_wp2_with fail
          refine (due_yes g f c n n true t _ HA.out f0 c0 (by omega) (by omega) (by omega) hdue _ rfl).mono ?_
          rintro e w4 ⟨rfl, ha, ho⟩
          have N0 := Bx.mk ha
          have N1 := Bx.mk (ho.below HB.out HS.out HG.out)
          have N2 := Bx.mk (Nat.le_trans HS.out ho.size)
          clear ha ho HA HB HS
          go_wp2_with fail
          refine (at_c g f c _ _ _ _ N0.out f0).mono ?_
          rintro e _ ⟨rfl, rfl⟩
          go_wp2_with fail
          refine (tries_c g f c _ _ _ _ N0.out f0).mono ?_
          rintro e _ ⟨rfl, rfl⟩
          go_wp2_with fail
          refine (runs_c g f c _ _ _ _ N0.out f0).mono ?_
          rintro e _ ⟨rfl, rfl⟩
          go_wp2_with fail
          go_roundw
          case rel => exact ⟨n + 1, n + wv f c (t + 1), t + 1, by omega, by omega, by simp; omega, by rw [e], by rw [e], by simp, rfl, by omega, by omega, N0, N1, N2⟩
          case measure => simp [intOf]; omega
      · have hlt : n < a := by omega
        have hdue := due_not hlt
        have hne : (n == a) = false := by simpa using hd
        clear hd
        go_wp2_with fail
        refine (due_no g f c a n true t _ HA.out f0 c0 (by omega) (by omega) (by omega) hdue).mono ?_
        rintro e w4 ⟨rfl, ha, ho⟩
        have N0 := Bx.mk ha
        have N1 := Bx.mk (ho.below HB.out HS.out HG.out)
        have N2 := Bx.mk (Nat.le_trans HS.out ho.size)
        clear ha ho HA HB HS
        go_wp2_with fail
        refine (at_c g f c _ _ _ _ N0.out f0).mono ?_
        rintro e _ ⟨rfl, rfl⟩
        go_wp2_with fail
        refine (tries_c g f c _ _ _ _ N0.out f0).mono ?_
        rintro e _ ⟨rfl, rfl⟩
        go_wp2_with fail
        refine (runs_c g f c _ _ _ _ N0.out f0).mono ?_
        rintro e _ ⟨rfl, rfl⟩
        go_wp2_with fail
        go_roundw
        case rel => exact ⟨n + 1, a, t, by omega, by omega, by omega, rfl, rfl, rfl, rfl, by omega, by omega, N0, N1, N2⟩
        case measure => simp [intOf]; omega
    · go_wp2_with fail
      go_ret
      exact ⟨rfl, HB.out⟩
end Go.Proofs.Ytjjnmbmaahppoaa.Base
