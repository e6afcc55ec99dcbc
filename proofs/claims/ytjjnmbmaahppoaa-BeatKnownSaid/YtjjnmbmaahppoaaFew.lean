/- Layer 15: BeatFew's walk. -/
import Derived.Test.YtjjnmbmaahppoaaWaits
import Derived.ProofKit
set_option linter.unusedVariables false
set_option linter.unusedSimpArgs false
namespace Go.Proofs.Ytjjnmbmaahppoaa.Base
open Go.ChangeShapes Go.WideShapes Go.ChangeAt Go.RowKit Go.Deep Go.Proofs.YtjjnmbmaahppoaaW.PrintWords Go.Proofs.YtjjnmbmaahppoaaW.PrintLast Go.Proofs.YtjjnmbmaahppoaaW.PrintMore
attribute [local go_sem] max2_int min2_int max_two min_two

theorem intCell {w : World} {A : Option Addr} {xs : List Int} (h : (Kd.int .i64).C w A xs.length xs) (i : Nat) (hi : i < xs.length) : ∃ ad, A = some ad ∧ w.cell? (ad.add i) = some (.int .i64 xs[i]) := by
  obtain ⟨ad, c, rfl, hcl, hk, hcc⟩ := Kd.C_get h 0 (i : Int) (by omega) (by omega)
  have hk' : c = [Value.int .i64 (xs.getD i 0)] := by simpa [Kd.int, Kd.scalar] using hk
  subst hk'
  refine ⟨ad, rfl, ?_⟩
  have := hcc 0 _ rfl
  simpa [Kd.int, Kd.scalar, hi] using this
theorem open_ints32 {H : Type} {enc : TypeId × Value → H} {W : World} {a : Option Addr} {n c : Nat} {d : DataW H} {p : List MemPlace} (h : DataW.Trod enc Try.prog W 0 (fun _ => true) true 32 (.slice a n c) d p) :
    ∃ zs : List Int, (Kd.int .i64).C W a zs.length zs ∧ zs.length = n ∧ n ≤ c := by
  obtain ⟨fuel, hf⟩ := h
  rcases open_ints Try.underlying32 Try.underlying3 (by kernel_rfl) hf with ⟨hcs, _⟩ | ⟨x, l, c', zs, hcs, _, hl, hm, hz, _, hcell, hwz⟩
  · simp [Value.cells] at hcs
    obtain ⟨rfl, rfl, rfl⟩ := hcs
    exact ⟨[], Kd.C_of_reads (d := (0 : Int)) (h1 := fun _ => rfl) ⟨rfl, by simp, fun h => by simp at h⟩, rfl, by omega⟩
  · simp [Value.cells] at hcs
    obtain ⟨rfl, rfl, rfl⟩ := hcs
    have hzl : zs.length = c := by simpa using hz
    refine ⟨zs.take n, ?_, by rw [List.length_take]; omega, hl⟩
    refine Kd.C_of_reads (d := (0 : Int)) (h1 := fun _ => rfl) ⟨rfl, by rw [List.length_take]; unfold maxLen at hm; omega, fun _ => ⟨x, rfl, fun j hj => ?_⟩⟩
    have hj' : j < n ∧ j < zs.length := by rw [List.length_take] at hj; omega
    rw [hcell j hj'.2]
    congr 2
    simp [List.getD, hj'.1]

theorem quo_le {f n : Int} {t : Nat} (hf : 1 ≤ f) (hn : 0 ≤ n) (h : (t : Int) * f ≤ n) : (t : Int) ≤ Int.tdiv n f ∧ 0 ≤ Int.tdiv n f ∧ Int.tdiv n f ≤ n := by
  rw [Int.tdiv_eq_ediv_of_nonneg hn]
  exact ⟨(Int.le_ediv_iff_mul_le (by omega)).2 h, Int.ediv_nonneg hn (by omega), Int.ediv_le_self f hn⟩
theorem dueB_yes {a n : Int} (h1 : n ≤ 2 ^ 50) (h : a ≤ n) : dueB true a n = true := by
  unfold dueB
  rw [show decide (n < a) = false from decide_eq_false (by omega), show decide (9007199254740991 < n) = false from decide_eq_false (by omega)]
  rfl
/-- t times it was due, a wait of f at least each; it is due next at a. -/
structure Due (f n a : Int) (t : Nat) : Prop where
  lo : (t : Int) * f ≤ n
  hi : (t : Int) * f + f ≤ a
theorem Due.step {f n a v : Int} {t : Nat} (h : Due f n a t) (hn : a ≤ n) (hv : f ≤ v) : Due f n (n + v) (t + 1) := by
  have e : ((t + 1 : Nat) : Int) * f = t * f + f := by rw [Int.natCast_succ, Int.add_mul]; omega
  have := h.hi
  exact ⟨by rw [e]; omega, by rw [e]; omega⟩
theorem Due.wait {f n a m : Int} {t : Nat} (h : Due f n a t) (hm : n ≤ m) : Due f m a t := ⟨by have := h.lo; omega, h.hi⟩
theorem wv_ge {f c : Int} (h0 : 1 ≤ f) (h : f ≤ c) : ∀ k, f ≤ wv f c k
  | 0 => Int.le_refl _
  | k + 1 => by have := wv_ge h0 h k; simp only [wv]; omega

set_option maxRecDepth 100000 in
set_option maxHeartbeats 2000000 in
theorem few_walk (first cap : Int) (A : Option Addr) (n c' : Nat) (zs : List Int) (w : World) (hZ : (Kd.int .i64).C w A zs.length zs) (hz : zs.length = n) (hnc : n ≤ c') : Calls Try.prog 4 #[.int .i64 first, .int .i64 cap, .slice A n c'] w fun e w' => e = .returned (.bool true) ∧ Below w.heap.size w w' := by
  have HZ := Bx.mk hZ
  have HN := Bx.mk hz
  clear hZ hz
  go_enter Try.func4, Try.ntmps4
  go_wp2_with fail
  refine (bring_c first 20 _ (by decide) (by decide)).mono ?_
  rintro e _ ⟨rfl, rfl⟩
  have x0 := Int.emod_nonneg first (b := 20) (by decide)
  have x1 := Int.emod_lt_of_pos first (b := 20) (by decide)
  generalize first % 20 = x at *
  go_wp2_with fail
  refine (bring_c cap 100 _ (by decide) (by decide)).mono ?_
  rintro e _ ⟨rfl, rfl⟩
  have y0 := Int.emod_nonneg cap (b := 100) (by decide)
  have y1 := Int.emod_lt_of_pos cap (b := 100) (by decide)
  generalize cap % 100 = y at *
  go_wp2_with fail
  obtain ⟨f, hf⟩ : ∃ f, f = 1 + x := ⟨_, rfl⟩
  rw [← hf]
  obtain ⟨c, hc⟩ : ∃ c, c = f + y := ⟨_, rfl⟩
  rw [← hc]
  have f0 : 1 ≤ f := by omega
  have f1 : f ≤ 20 := by omega
  have c0 : f ≤ c := by omega
  have c1 : c ≤ 120 := by omega
  clear hf hc x0 x1 y0 y1
  refine (new_yes _ _ _ (by omega) (by omega) (by omega) (by omega)).mono ?_
  rintro e w2 ⟨rfl, hb, hw⟩
  obtain ⟨g, hg⟩ : ∃ g, g = w.heap.size := ⟨_, rfl⟩
  rw [← hg] at hb
  rw [← hg]
  have hge : w.heap.size ≤ g := by omega
  have HG := Bx.mk hge
  have HA2 := Bx.mk hb
  have HB2 := Bx.mk hw
  have HS2 := Bx.mk hw.size
  clear hb hw hg hge
  go_wp2_with fail
  refine (start_ok g f c _ 0 _ _ _ HA2.out f0 c0 (by omega) (by decide)).mono ?_
  rintro e w3 ⟨rfl, ha, ho⟩
  have HA3 := Bx.mk ha
  have HB3 := Bx.mk (ho.below HB2.out HS2.out HG.out)
  have HS3 := Bx.mk (Nat.le_trans HS2.out ho.size)
  clear ha ho HA2 HB2 HS2
  go_wp2_with fail
  go_loopw [10, 11, 12] (fun v10 v11 v12 wr => ∃ (i t : Nat) (m a : Int), i ≤ 200 ∧ i ≤ n ∧ t ≤ i ∧ v10 = .int .i64 m ∧ v11 = .int .i64 (t : Int) ∧ v12 = .int .i64 (i : Int) ∧ 0 ≤ m ∧ m ≤ 12 * i ∧ 0 ≤ a ∧ Bx (Due f m a t) ∧ Bx (BA wr g f c true a t) ∧ Bx (Below w.heap.size w wr) ∧ Bx (w.heap.size ≤ wr.heap.size)) (fun _ _ v _ => 200 - (intOf v).toNat)
  case atStart => exact ⟨0, 0, 0, f, by omega, by omega, by omega, rfl, rfl, rfl, by omega, by omega, by omega, ⟨⟨by simp, by simp⟩⟩, by simpa using HA3, HB3, HS3⟩
  case round =>
    clear HA3 HB3 HS3
    obtain ⟨i, t, m, a, hi, hin, ht, rfl, rfl, rfl, m0, m1, a0, HD, HA, HB, HS⟩ := hrel
    by_cases h : i < n
    · by_cases h2 : i < 200
      · have i0 : (0 : Int) ≤ (i : Int) := by omega
        have i1 : (i : Int) < (n : Int) := by omega
        have i2 : (i : Int) < 200 := by omega
        have hzl : i < zs.length := by have := HN.out; omega
        obtain ⟨ad, rfl, hce⟩ := intCell HZ.out i hzl
        have hcl := pw_cell_below HB.out hce
        clear hce
        generalize zs[i] = q at hcl
        clear hzl h h2
        go_wp2_with fail
        refine (bring_c q 12 _ (by decide) (by decide)).mono ?_
        rintro e _ ⟨rfl, rfl⟩
        have x0 := Int.emod_nonneg q (b := 12) (by decide)
        have x1 := Int.emod_lt_of_pos q (b := 12) (by decide)
        generalize q % 12 = x at *
        clear hcl
        go_wp2_with fail
        obtain ⟨m', hm'⟩ : ∃ m', m' = m + x := ⟨_, rfl⟩
        rw [← hm']
        have m0' : 0 ≤ m' := by omega
        have m1' : m' ≤ 12 * (i + 1) := by omega
        have HD' := Bx.mk (HD.out.wait (m := m') (by omega))
        clear hm' x0 x1 m0 m1 HD
        have u0 := wv_ge f0 c0 (t + 1)
        by_cases hd : a ≤ m'
        · have hdue := dueB_yes (n := m') (by omega) hd
          refine (due_yes g f c a m' true t _ HA.out f0 c0 (by omega) (by omega) (by omega) hdue _ rfl).mono ?_
          rintro e w4 ⟨rfl, ha, ho⟩
          have N0 := Bx.mk ha
          have N1 := Bx.mk (ho.below HB.out HS.out HG.out)
          have N2 := Bx.mk (Nat.le_trans HS.out ho.size)
          have N3 := Bx.mk (HD'.out.step hd u0)
          clear ha ho HA HB HS HD'
          go_wp2_with fail
          go_roundw
          case rel => exact ⟨i + 1, t + 1, m', m' + wv f c (t + 1), by omega, by omega, by omega, rfl, by simp, by simp, by omega, by simp; omega, by omega, N3, N0, N1, N2⟩
          case measure => simp [intOf]; omega
        · have hdue := due_not (a := a) (n := m') (by omega)
          refine (due_no g f c a m' true t _ HA.out f0 c0 (by omega) (by omega) (by omega) hdue).mono ?_
          rintro e w4 ⟨rfl, ha, ho⟩
          have N0 := Bx.mk ha
          have N1 := Bx.mk (ho.below HB.out HS.out HG.out)
          have N2 := Bx.mk (Nat.le_trans HS.out ho.size)
          clear ha ho HA HB HS hd
          go_wp2_with fail
          go_roundw
          case rel => exact ⟨i + 1, t, m', a, by omega, by omega, by omega, rfl, rfl, by simp, by omega, by simp; omega, by omega, HD', N0, N1, N2⟩
          case measure => simp [intOf]; omega
      · have i2 : (i : Int) = 200 := by omega
        have i1 : (i : Int) < (n : Int) := by omega
        have hfz : (f == 0) = false := by simp; omega
        obtain ⟨q0, q1, q2⟩ := quo_le f0 m0 HD.out.lo
        go_wp2_with fail
        refine (tries_c g f c _ _ _ _ HA.out f0).mono ?_
        rintro e _ ⟨rfl, rfl⟩
        go_wp2_with fail
        refine (start_ok g f c _ m _ _ _ HA.out f0 c0 (by omega) (okN_small m0 (by omega))).mono ?_
        rintro e w4 ⟨rfl, ha, ho⟩
        have N0 := Bx.mk ha
        have N1 := Bx.mk (ho.below HB.out HS.out HG.out)
        have N2 := Bx.mk (Nat.le_trans HS.out ho.size)
        clear ha ho HA HB HS
        go_wp2_with fail
        refine (at_c g f c _ _ _ _ N0.out f0).mono ?_
        rintro e _ ⟨rfl, rfl⟩
        go_wp2_with fail
        refine (tries_c g f c _ _ _ _ N0.out f0).mono ?_
        rintro e _ ⟨rfl, rfl⟩
        go_wp2_with fail
        refine (works_c _).mono ?_
        rintro e w5 ⟨rfl, hb⟩
        have N3 := Bx.mk (N1.out.trans (hb.mono N2.out))
        clear hb
        go_wp2_with fail
        go_ret
        exact ⟨rfl, N3.out⟩
    · have i1 : ¬ ((i : Int) < (n : Int)) := by omega
      have hfz : (f == 0) = false := by simp; omega
      obtain ⟨q0, q1, q2⟩ := quo_le f0 m0 HD.out.lo
      go_wp2_with fail
      refine (tries_c g f c _ _ _ _ HA.out f0).mono ?_
      rintro e _ ⟨rfl, rfl⟩
      go_wp2_with fail
      refine (start_ok g f c _ m _ _ _ HA.out f0 c0 (by omega) (okN_small m0 (by omega))).mono ?_
      rintro e w4 ⟨rfl, ha, ho⟩
      have N0 := Bx.mk ha
      have N1 := Bx.mk (ho.below HB.out HS.out HG.out)
      have N2 := Bx.mk (Nat.le_trans HS.out ho.size)
      clear ha ho HA HB HS
      go_wp2_with fail
      refine (at_c g f c _ _ _ _ N0.out f0).mono ?_
      rintro e _ ⟨rfl, rfl⟩
      go_wp2_with fail
      refine (tries_c g f c _ _ _ _ N0.out f0).mono ?_
      rintro e _ ⟨rfl, rfl⟩
      go_wp2_with fail
      refine (works_c _).mono ?_
      rintro e w5 ⟨rfl, hb⟩
      have N3 := Bx.mk (N1.out.trans (hb.mono N2.out))
      clear hb
      go_wp2_with fail
      go_ret
      exact ⟨rfl, N3.out⟩
end Go.Proofs.Ytjjnmbmaahppoaa.Base
