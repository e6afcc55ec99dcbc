/- Layer 15: BeatPlays, by its contract. -/
import Derived.Test.YtjjnmbmaahppoaaFew
set_option linter.unusedVariables false
set_option linter.unusedSimpArgs false
namespace Go.Proofs.Ytjjnmbmaahppoaa.Base
open Go.RowKit Go.Proofs.YtjjnmbmaahppoaaW.PrintWords Go.Proofs.YtjjnmbmaahppoaaW.PrintLast Go.Proofs.YtjjnmbmaahppoaaW.PrintMore
attribute [local go_sem] max2_int min2_int max_two min_two

/-- A row of calls: each a kind and a tick. -/
def DoRow (w : World) (A : Option Addr) (n : Nat) (ds : List (Int × Int)) : Prop :=
  ds.length = n ∧ n ≤ 9223372036854775807 ∧ (0 < n → ∃ ad, A = some ad ∧ ∀ i, i < n → w.cell? (ad.add (i * 2)) = some (.int .i64 (ds.getD i (0, 0)).1) ∧ w.cell? ⟨(ad.add (i * 2)).block, (ad.add (i * 2)).off + 1, none⟩ = some (.int .i64 (ds.getD i (0, 0)).2))
theorem DoRow.at0 {w : World} {A : Option Addr} {n : Nat} {ds : List (Int × Int)} (h : DoRow w A n ds) (i : Nat) (hi : i < n) :
    ∃ ad q b, A = some ad ∧ Bx (w.cell? (ad.add (i * 2)) = some (.int .i64 q)) ∧ Bx (w.cell? ⟨(ad.add (i * 2)).block, (ad.add (i * 2)).off + 1, none⟩ = some (.int .i64 b)) := by
  obtain ⟨ad, hA, hc⟩ := h.2.2 (by omega)
  obtain ⟨h0, h1⟩ := hc i hi
  exact ⟨ad, _, _, hA, ⟨h0⟩, ⟨h1⟩⟩

/-- How a beat stands: it runs; due at; tries; the wait that is next. -/
structure St where
  r : Bool
  a : Int
  t : Nat
  v : Int
structure Ok (f c : Int) (s : St) (i : Nat) : Prop where
  hv : s.r = true → s.v = wv f c (s.t + 1)
  ha : 0 ≤ s.a
  ht : s.t ≤ i
def sv (n : Int) : Int := if okN n then 0 else 9
def startS (f c : Int) (s : St) (n : Int) : St := if okN n then ⟨true, n + f, 0, wv f c 1⟩ else s
def dueS (f c : Int) (s : St) (n : Int) : St := if dueB s.r s.a n then ⟨s.r, n + wv f c (s.t + 1), s.t + 1, wv f c (s.t + 2)⟩ else s
def stopS (s : St) : St := ⟨false, 0, 0, s.v⟩
def BS (w : World) (g : Nat) (f c : Int) (s : St) : Prop := BA w g f c s.r s.a s.t
def MS (w : World) (g : Nat) (f c : Int) (s : St) : Prop := MA w g f c s.r s.a s.v s.t
theorem Ok.start {f c : Int} {s : St} {i : Nat} (h : Ok f c s i) (h0 : 1 ≤ f) (n : Int) : Ok f c (startS f c s n) i := by
  unfold startS
  split
  · rename_i hn
    unfold okN at hn
    simp at hn
    exact ⟨fun _ => rfl, by simp; omega, by simp⟩
  · exact h
theorem Ok.due {f c : Int} {s : St} {i : Nat} (h : Ok f c s i) (h0 : 1 ≤ f) (h1 : f ≤ c) (n : Int) : Ok f c (dueS f c s n) (i + 1) := by
  unfold dueS
  split
  · rename_i hn
    unfold dueB at hn
    simp at hn
    have := h.ha
    have := h.ht
    have := wv_pos h0 h1 (s.t + 1)
    exact ⟨fun _ => rfl, by simp; omega, by simp; omega⟩
  · exact ⟨h.hv, h.ha, by have := h.ht; omega⟩
theorem Ok.stop {f c : Int} {s : St} {i : Nat} (h : Ok f c s i) : Ok f c (stopS s) i := ⟨fun h => (by cases h), Int.le_refl _, Nat.zero_le _⟩
theorem Ok.next {f c : Int} {s : St} {i : Nat} (h : Ok f c s i) : Ok f c s (i + 1) := ⟨h.hv, h.ha, by have := h.ht; omega⟩
theorem BS.only {w w' : World} {g x : Nat} {f c : Int} {s : St} (h : BS w g f c s) (o : Only x w w') (hne : g ≠ x) : BS w' g f c s := (o.block g (Array.getElem?_eq_some_iff.1 h).1 hne).trans h
theorem MS.only {w w' : World} {g x : Nat} {f c : Int} {s : St} (h : MS w g f c s) (o : Only x w w') (hne : g ≠ x) : MS w' g f c s := (o.block g (Array.getElem?_eq_some_iff.1 h).1 hne).trans h
theorem MS.below {w w' : World} {g : Nat} {f c : Int} {s : St} (h : MS w g f c s) (o : Below w.heap.size w w') : MS w' g f c s := keep h o
theorem BS.below {w w' : World} {g : Nat} {f c : Int} {s : St} (h : BS w g f c s) (o : Below w.heap.size w w') : BS w' g f c s := keep h o
theorem start_s (g : Nat) (f c : Int) (s : St) (n : Int) (w : World) (h : BS w g f c s) (h0 : 1 ≤ f) (h1 : f ≤ c) (h2 : c ≤ 10000) :
    Calls Try.prog 9 #[.pointer (some ⟨g, 0, none⟩), .int .i64 n] w fun e w' => e = .returned (.int .i64 (sv n)) ∧ BS w' g f c (startS f c s n) ∧ Only g w w' :=
  (start_c g f c s.a n s.r s.t w h h0 h1 h2).mono fun e w' h => by
    obtain ⟨h1, h2, h3⟩ := h
    refine ⟨h1, ?_, h3⟩
    unfold BS startS
    split <;> rename_i hn
    · rw [if_pos hn] at h2; exact h2
    · rw [if_neg hn] at h2; exact h2
theorem rstart_s (g : Nat) (f c : Int) (s : St) (n : Int) (w : World) (h : MS w g f c s) (h0 : 1 ≤ f) (h1 : f ≤ c) (h2 : c ≤ 10000) :
    Calls Try.prog 19 #[.pointer (some ⟨g, 0, none⟩), .int .i64 n] w fun e w' => e = .returned (.int .i64 (sv n)) ∧ MS w' g f c (startS f c s n) ∧ Only g w w' :=
  (rstart_c g f c s.a s.v n s.r s.t w h h0 h1 h2).mono fun e w' h => by
    obtain ⟨h1, h2, h3⟩ := h
    refine ⟨h1, ?_, h3⟩
    unfold MS startS
    split <;> rename_i hn
    · rw [if_pos hn] at h2; exact h2
    · rw [if_neg hn] at h2; exact h2
theorem due_s (g : Nat) (f c : Int) (s : St) (i : Nat) (n : Int) (w : World) (h : BS w g f c s) (ho : Ok f c s i) (hi : i < 1000) (h0 : 1 ≤ f) (h1 : f ≤ c) (h2 : c ≤ 10000) :
    Calls Try.prog 10 #[.pointer (some ⟨g, 0, none⟩), .int .i64 n] w fun e w' => e = .returned (.bool (dueB s.r s.a n)) ∧ BS w' g f c (dueS f c s n) ∧ Only g w w' :=
  (due_c g f c s.a n s.r s.t w h h0 h1 h2 ho.ha (by have := ho.ht; omega)).mono fun e w' h => by
    obtain ⟨h1, h2, h3⟩ := h
    refine ⟨h1, ?_, h3⟩
    unfold BS dueS
    split <;> rename_i hn
    · rw [if_pos hn] at h2; exact h2
    · rw [if_neg hn] at h2; exact h2
theorem rdue_s (g : Nat) (f c : Int) (s : St) (i : Nat) (n : Int) (w : World) (h : MS w g f c s) (ho : Ok f c s i) (hi : i < 1000) (h0 : 1 ≤ f) (h1 : f ≤ c) (h2 : c ≤ 10000) :
    Calls Try.prog 21 #[.pointer (some ⟨g, 0, none⟩), .int .i64 n] w fun e w' => e = .returned (.bool (dueB s.r s.a n)) ∧ MS w' g f c (dueS f c s n) ∧ Only g w w' :=
  (rdue_c g f c s.a s.v n s.r s.t w h h0 h1 h2 ho.ha (by have := ho.ht; omega) ho.hv).mono fun e w' h => by
    obtain ⟨h1, h2, h3⟩ := h
    refine ⟨h1, ?_, h3⟩
    unfold MS dueS
    split <;> rename_i hn
    · rw [if_pos hn] at h2; exact h2
    · rw [if_neg hn] at h2; exact h2

set_option maxRecDepth 100000 in
set_option maxHeartbeats 1000000 in
theorem plays_no (f c : Int) (A : Option Addr) (n k : Nat) (w : World) (h : ¬ (1 ≤ f ∧ f ≤ 1000 ∧ f ≤ c ∧ c ≤ 10000)) (hn : n ≤ k) :
    Calls Try.prog 15 #[.int .i64 f, .int .i64 c, .slice A n k] w fun e w' => e = .returned (.bool true) ∧ Below w.heap.size w w' := by
  have H := Bx.mk h
  clear h
  go_enter Try.func15, Try.ntmps15
  go_wp2_with fail
  refine (new_no f c _ H.out).mono ?_
  rintro e _ ⟨rfl, rfl⟩
  go_wp2_with fail
  refine (rnew_no f c _ H.out).mono ?_
  rintro e _ ⟨rfl, rfl⟩
  go_wp2_with fail
  go_loopw [12] (fun v wr => v = .int .i64 0 ∧ wr = w) (fun v _ => 0)
  case atStart => exact ⟨rfl, rfl⟩
  case round =>
    obtain ⟨rfl, rfl⟩ := hrel
    by_cases h : 0 < n
    · have h' : (0 : Int) < (n : Int) := by omega
      go_wp2_with (go_at_call 6; (with_reducible refine (works_c _).mono ?_); rintro e w' ⟨rfl, hb⟩)
      go_ret
      exact ⟨rfl, hb⟩
    · obtain rfl : n = 0 := by omega
      go_wp2_with (go_at_call 6; (with_reducible refine (works_c _).mono ?_); rintro e w' ⟨rfl, hb⟩)
      go_ret
      exact ⟨rfl, hb⟩

set_option maxRecDepth 100000 in
set_option maxHeartbeats 8000000 in
theorem plays_yes (f c : Int) (A : Option Addr) (n k : Nat) (ds : List (Int × Int)) (w : World) (h0 : 1 ≤ f) (h1 : f ≤ 1000) (h2 : f ≤ c) (h3 : c ≤ 10000) (hn : n ≤ k) (hD : DoRow w A n ds) :
    Calls Try.prog 15 #[.int .i64 f, .int .i64 c, .slice A n k] w fun e w' => e = .returned (.bool true) ∧ Below w.heap.size w w' := by
  have HD := Bx.mk hD
  clear hD
  have hu := Try.underlying38
  go_enter Try.func15, Try.ntmps15
  go_wp2_with fail
  refine (new_yes f c _ h0 h1 h2 h3).mono ?_
  rintro e w1 ⟨rfl, hb, hw⟩
  obtain ⟨g, hg⟩ : ∃ g, g = w.heap.size := ⟨_, rfl⟩
  rw [← hg] at hb
  rw [← hg]
  have HA1 := Bx.mk (show BS w1 g f c ⟨false, 0, 0, 0⟩ from hb)
  have HB1 := Bx.mk hw
  have HS1 := Bx.mk hw.size
  have HG := Bx.mk (show w.heap.size ≤ g by omega)
  have HGL := Bx.mk (show g < w1.heap.size from (Array.getElem?_eq_some_iff.1 hb).1)
  clear hb hw hg
  go_wp2_with fail
  refine (rnew_yes f c _ h0 h1 h2 h3).mono ?_
  rintro e w2 ⟨rfl, hb, hw⟩
  obtain ⟨m, hm⟩ : ∃ m, m = w1.heap.size := ⟨_, rfl⟩
  rw [← hm] at hb
  rw [← hm]
  have HM2 := Bx.mk (show MS w2 m f c ⟨false, 0, 0, 0⟩ from hb)
  have HA2 := Bx.mk (HA1.out.below hw)
  have HB2 := Bx.mk (HB1.out.trans (hw.mono HS1.out))
  have HS2 := Bx.mk (Nat.le_trans HS1.out hw.size)
  have HMG := Bx.mk (show w.heap.size ≤ m by have := HS1.out; omega)
  have HNE := Bx.mk (show g ≠ m by have := HGL.out; omega)
  clear hb hw hm HA1 HB1 HS1 HGL
  go_wp2_with fail
  go_loopw [11, 12] (fun v11 v12 wr => ∃ (i : Nat) (nw : Int) (s : St), i ≤ 200 ∧ v11 = .int .i64 nw ∧ v12 = .int .i64 (i : Int) ∧ 0 ≤ nw ∧ nw ≤ 2 ^ 40 + 50 * i ∧ Bx (Ok f c s i) ∧ Bx (BS wr g f c s) ∧ Bx (MS wr m f c s) ∧ Bx (Below w.heap.size w wr) ∧ Bx (w.heap.size ≤ wr.heap.size)) (fun _ v _ => 200 - (intOf v).toNat)
  case atStart => exact ⟨0, 0, ⟨false, 0, 0, 0⟩, by omega, rfl, rfl, by omega, by omega, ⟨⟨fun h => (by cases h), Int.le_refl _, Nat.le_refl _⟩⟩, HA2, HM2, HB2, HS2⟩
  case round =>
    clear HA2 HM2 HB2 HS2
    obtain ⟨i, nw, s, hi, rfl, rfl, nw0, nw1, HO, HA, HM, HB, HS⟩ := hrel
    by_cases hin : i < n
    · by_cases hi2 : i < 200
      · obtain ⟨ad, q, b, rfl, CL0, CL1⟩ := HD.out.at0 i hin
        have cl0 := pw_cell_below HB.out CL0.out
        have cl1 := pw_cell_below HB.out CL1.out
        have i0 : (0 : Int) ≤ (i : Int) := by omega
        have i1 : (i : Int) < (n : Int) := by omega
        have i2 : (i : Int) < 200 := by omega
        have HI := Bx.mk hi2
        clear hin hi2 hi
        go_wp2_with fail
        refine (bring_c q 4 _ (by decide) (by decide)).mono ?_
        rintro e _ ⟨rfl, rfl⟩
        have x0 := Int.emod_nonneg q (b := 4) (by decide)
        have x1 := Int.emod_lt_of_pos q (b := 4) (by decide)
        generalize q % 4 = x at *
        obtain rfl | rfl | rfl | rfl : x = 0 ∨ x = 1 ∨ x = 2 ∨ x = 3 := by omega
        all_goals clear x0 x1 cl0
        · go_wp2_with fail
          go_region_held3 (fun w' => w'.cell? ⟨(ad.add (i * 2)).block, (ad.add (i * 2)).off + 1, none⟩ = some (.int .i64 b)) (first | exact cl1 | go_keep) (first | (go_at_call 9; (with_reducible refine (start_s g f c s b _ ?hg h0 h2 h3).mono ?_); (case hg => exact HA.out); rintro e w5 ⟨rfl, hg5, ho5⟩; have n0 := Bx.mk hg5; have n1 := Bx.mk (MS.only (w := wr) HM.out ⟨ho5.os, ho5.tape, ho5.output, ho5.size, ho5.block⟩ HNE.out.symm); have n2 := Bx.mk (Only.below (w := wr) ⟨ho5.os, ho5.tape, ho5.output, ho5.size, ho5.block⟩ HB.out HS.out HG.out); have n3 := Bx.mk (Nat.le_trans HS.out ho5.size); clear HA HM HB HS cl1 hg5 ho5; have HA := n0; have HM := n1; have HB := n2; have HS := n3; clear n0 n1 n2 n3; have cl1 := pw_cell_below HB.out CL1.out) | (go_at_call 19; (with_reducible refine (rstart_s m f c s b _ ?hg h0 h2 h3).mono ?_); (case hg => exact HM.out); rintro e w6 ⟨rfl, hm5, ho5⟩; have n0 := Bx.mk hm5; have n1 := Bx.mk (BS.only HA.out ho5 HNE.out); have n2 := Bx.mk (Only.below ho5 HB.out HS.out HMG.out); have n3 := Bx.mk (Nat.le_trans HS.out ho5.size); clear HA HM HB HS cl1 hm5 ho5; have HA := n1; have HM := n0; have HB := n2; have HS := n3; clear n0 n1 n2 n3; have cl1 := pw_cell_below HB.out CL1.out))
          obtain ⟨s2, hs2⟩ : ∃ s2, s2 = startS f c s b := ⟨_, rfl⟩
          rw [← hs2] at HA HM
          have HO2 : Bx (Ok f c s2 (i + 1)) := ⟨by rw [hs2]; exact (HO.out.start h0 b).next⟩
          clear hs2 HO
          go_wp2_with fail
          refine (bring_c b 1099511627776 _ (by decide) (by decide)).mono ?_
          rintro e _ ⟨rfl, rfl⟩
          have z0 := Int.emod_nonneg b (b := 1099511627776) (by decide)
          have z1 : b % 1099511627776 < 2 ^ 40 := Int.emod_lt_of_pos b (b := 1099511627776) (by decide)
          generalize b % 1099511627776 = z at *
          clear cl1 CL0 CL1 nw0 nw1
          go_wp2_with fail
          refine (runs_c g f c _ _ _ _ HA.out h0).mono ?_
          rintro e _ ⟨rfl, rfl⟩
          go_wp2_with fail
          refine (rruns_c m f c _ _ _ _ _ HM.out).mono ?_
          rintro e _ ⟨rfl, rfl⟩
          go_wp2_with fail
          refine (at_c g f c _ _ _ _ HA.out h0).mono ?_
          rintro e _ ⟨rfl, rfl⟩
          go_wp2_with fail
          refine (rat_c m f c _ _ _ _ _ HM.out).mono ?_
          rintro e _ ⟨rfl, rfl⟩
          go_wp2_with fail
          refine (tries_c g f c _ _ _ _ HA.out h0).mono ?_
          rintro e _ ⟨rfl, rfl⟩
          go_wp2_with fail
          refine (rtries_c m f c _ _ _ _ _ HM.out).mono ?_
          rintro e _ ⟨rfl, rfl⟩
          go_wp2_with fail
          go_roundw
          case rel => exact ⟨i + 1, z, s2, by have := HI.out; omega, rfl, by simp, by omega, by simp; omega, HO2, HA, HM, HB, HS⟩
          case measure => have := HI.out; simp [intOf]; omega
        · go_wp2_with fail
          refine (stop_c g f c _ _ _ _ HA.out h0).mono ?_
          rintro e w5 ⟨rfl, hg5, ho5⟩
          have n0 := Bx.mk (show BS w5 g f c (stopS s) from hg5)
          have n1 := Bx.mk (HM.out.only ho5 HNE.out.symm)
          have n2 := Bx.mk (ho5.below HB.out HS.out HG.out)
          have n3 := Bx.mk (Nat.le_trans HS.out ho5.size)
          clear HA HM HB HS cl1 hg5 ho5
          have HA := n0
          have HM := n1
          have HB := n2
          have HS := n3
          clear n0 n1 n2 n3
          go_wp2_with fail
          refine (rstop_c m f c _ _ _ _ _ HM.out).mono ?_
          rintro e w6 ⟨rfl, hg5, ho5⟩
          have n0 := Bx.mk (show MS w6 m f c (stopS s) from hg5)
          have n1 := Bx.mk (HA.out.only ho5 HNE.out)
          have n2 := Bx.mk (ho5.below HB.out HS.out HMG.out)
          have n3 := Bx.mk (Nat.le_trans HS.out ho5.size)
          clear HA HM HB HS hg5 ho5
          have HA := n1
          have HM := n0
          have HB := n2
          have HS := n3
          clear n0 n1 n2 n3 CL0 CL1
          obtain ⟨s2, hs2⟩ : ∃ s2, s2 = stopS s := ⟨_, rfl⟩
          rw [← hs2] at HA HM
          have HO2 : Bx (Ok f c s2 (i + 1)) := ⟨by rw [hs2]; exact HO.out.stop.next⟩
          clear hs2 HO
          go_wp2_with fail
          refine (runs_c g f c _ _ _ _ HA.out h0).mono ?_
          rintro e _ ⟨rfl, rfl⟩
          go_wp2_with fail
          refine (rruns_c m f c _ _ _ _ _ HM.out).mono ?_
          rintro e _ ⟨rfl, rfl⟩
          go_wp2_with fail
          refine (at_c g f c _ _ _ _ HA.out h0).mono ?_
          rintro e _ ⟨rfl, rfl⟩
          go_wp2_with fail
          refine (rat_c m f c _ _ _ _ _ HM.out).mono ?_
          rintro e _ ⟨rfl, rfl⟩
          go_wp2_with fail
          refine (tries_c g f c _ _ _ _ HA.out h0).mono ?_
          rintro e _ ⟨rfl, rfl⟩
          go_wp2_with fail
          refine (rtries_c m f c _ _ _ _ _ HM.out).mono ?_
          rintro e _ ⟨rfl, rfl⟩
          go_wp2_with fail
          go_roundw
          case rel => exact ⟨i + 1, nw, s2, by have := HI.out; omega, rfl, by simp, by omega, by simp; omega, HO2, HA, HM, HB, HS⟩
          case measure => have := HI.out; simp [intOf]; omega
        · go_wp2_with fail
          go_region_held3 (fun w' => w'.cell? ⟨(ad.add (i * 2)).block, (ad.add (i * 2)).off + 1, none⟩ = some (.int .i64 b)) (first | exact cl1 | go_keep) (first | (go_at_call 10; (with_reducible refine (due_s g f c s i b _ ?hg HO.out (by have := HI.out; omega) h0 h2 h3).mono ?_); (case hg => exact HA.out); rintro e w5 ⟨rfl, hg5, ho5⟩; have n0 := Bx.mk hg5; have n1 := Bx.mk (MS.only (w := wr) HM.out ⟨ho5.os, ho5.tape, ho5.output, ho5.size, ho5.block⟩ HNE.out.symm); have n2 := Bx.mk (Only.below (w := wr) ⟨ho5.os, ho5.tape, ho5.output, ho5.size, ho5.block⟩ HB.out HS.out HG.out); have n3 := Bx.mk (Nat.le_trans HS.out ho5.size); clear HA HM HB HS cl1 hg5 ho5; have HA := n0; have HM := n1; have HB := n2; have HS := n3; clear n0 n1 n2 n3; have cl1 := pw_cell_below HB.out CL1.out) | (go_at_call 21; (with_reducible refine (rdue_s m f c s i b _ ?hg HO.out (by have := HI.out; omega) h0 h2 h3).mono ?_); (case hg => exact HM.out); rintro e w6 ⟨rfl, hm5, ho5⟩; have n0 := Bx.mk hm5; have n1 := Bx.mk (BS.only HA.out ho5 HNE.out); have n2 := Bx.mk (Only.below ho5 HB.out HS.out HMG.out); have n3 := Bx.mk (Nat.le_trans HS.out ho5.size); clear HA HM HB HS cl1 hm5 ho5; have HA := n1; have HM := n0; have HB := n2; have HS := n3; clear n0 n1 n2 n3; have cl1 := pw_cell_below HB.out CL1.out))
          clear cl1 CL0 CL1
          obtain ⟨s2, hs2⟩ : ∃ s2, s2 = dueS f c s b := ⟨_, rfl⟩
          rw [← hs2] at HA HM
          have HO2 : Bx (Ok f c s2 (i + 1)) := ⟨by rw [hs2]; exact HO.out.due h0 h2 b⟩
          clear hs2 HO
          go_wp2_with fail
          refine (runs_c g f c _ _ _ _ HA.out h0).mono ?_
          rintro e _ ⟨rfl, rfl⟩
          go_wp2_with fail
          refine (rruns_c m f c _ _ _ _ _ HM.out).mono ?_
          rintro e _ ⟨rfl, rfl⟩
          go_wp2_with fail
          refine (at_c g f c _ _ _ _ HA.out h0).mono ?_
          rintro e _ ⟨rfl, rfl⟩
          go_wp2_with fail
          refine (rat_c m f c _ _ _ _ _ HM.out).mono ?_
          rintro e _ ⟨rfl, rfl⟩
          go_wp2_with fail
          refine (tries_c g f c _ _ _ _ HA.out h0).mono ?_
          rintro e _ ⟨rfl, rfl⟩
          go_wp2_with fail
          refine (rtries_c m f c _ _ _ _ _ HM.out).mono ?_
          rintro e _ ⟨rfl, rfl⟩
          go_wp2_with fail
          go_roundw
          case rel => exact ⟨i + 1, nw, s2, by have := HI.out; omega, rfl, by simp, by omega, by simp; omega, HO2, HA, HM, HB, HS⟩
          case measure => have := HI.out; simp [intOf]; omega
        · go_wp2_with fail
          refine (bring_c b 50 _ (by decide) (by decide)).mono ?_
          rintro e _ ⟨rfl, rfl⟩
          have z0 := Int.emod_nonneg b (b := 50) (by decide)
          have z1 := Int.emod_lt_of_pos b (b := 50) (by decide)
          generalize b % 50 = z at *
          clear cl1 CL0 CL1
          go_wp2_with fail
          obtain ⟨nx, hnx⟩ : ∃ nx, nx = nw + z := ⟨_, rfl⟩
          rw [← hnx]
          have nx0 : 0 ≤ nx := by omega
          have nx1 : nx ≤ 2 ^ 40 + 50 * (i + 1) := by omega
          clear hnx nw0 nw1 z0 z1
          refine (due_s g f c s i nx _ HA.out HO.out (by have := HI.out; omega) h0 h2 h3).mono ?_
          rintro e w5 ⟨rfl, hg5, ho5⟩
          have n0 := Bx.mk hg5
          have n1 := Bx.mk (HM.out.only ho5 HNE.out.symm)
          have n2 := Bx.mk (ho5.below HB.out HS.out HG.out)
          have n3 := Bx.mk (Nat.le_trans HS.out ho5.size)
          clear HA HM HB HS hg5 ho5
          have HA := n0
          have HM := n1
          have HB := n2
          have HS := n3
          clear n0 n1 n2 n3
          go_wp2_with fail
          refine (rdue_s m f c s i nx _ HM.out HO.out (by have := HI.out; omega) h0 h2 h3).mono ?_
          rintro e w6 ⟨rfl, hg5, ho5⟩
          have n0 := Bx.mk hg5
          have n1 := Bx.mk (HA.out.only ho5 HNE.out)
          have n2 := Bx.mk (ho5.below HB.out HS.out HMG.out)
          have n3 := Bx.mk (Nat.le_trans HS.out ho5.size)
          clear HA HM HB HS hg5 ho5
          have HA := n1
          have HM := n0
          have HB := n2
          have HS := n3
          clear n0 n1 n2 n3
          obtain ⟨s2, hs2⟩ : ∃ s2, s2 = dueS f c s nx := ⟨_, rfl⟩
          rw [← hs2] at HA HM
          have HO2 : Bx (Ok f c s2 (i + 1)) := ⟨by rw [hs2]; exact HO.out.due h0 h2 nx⟩
          clear hs2 HO
          go_wp2_with fail
          refine (runs_c g f c _ _ _ _ HA.out h0).mono ?_
          rintro e _ ⟨rfl, rfl⟩
          go_wp2_with fail
          refine (rruns_c m f c _ _ _ _ _ HM.out).mono ?_
          rintro e _ ⟨rfl, rfl⟩
          go_wp2_with fail
          refine (at_c g f c _ _ _ _ HA.out h0).mono ?_
          rintro e _ ⟨rfl, rfl⟩
          go_wp2_with fail
          refine (rat_c m f c _ _ _ _ _ HM.out).mono ?_
          rintro e _ ⟨rfl, rfl⟩
          go_wp2_with fail
          refine (tries_c g f c _ _ _ _ HA.out h0).mono ?_
          rintro e _ ⟨rfl, rfl⟩
          go_wp2_with fail
          refine (rtries_c m f c _ _ _ _ _ HM.out).mono ?_
          rintro e _ ⟨rfl, rfl⟩
          go_wp2_with fail
          go_roundw
          case rel => exact ⟨i + 1, nx, s2, by have := HI.out; omega, rfl, by simp, by omega, by simp; omega, HO2, HA, HM, HB, HS⟩
          case measure => have := HI.out; simp [intOf]; omega
      · have i2 : ¬ ((i : Int) < 200) := by omega
        have i1 : (i : Int) < (n : Int) := by omega
        clear hin hi2 hi
        have HX := Bx.mk HB.out
        clear HO HA HM
        go_wp2_with (go_at_call 6; (with_reducible refine (works_c _).mono ?_); rintro e w' ⟨rfl, hb⟩; have n1 := Bx.mk (HB.out.trans (hb.mono HS.out)); clear hb)
        go_ret
        exact ⟨rfl, n1.out⟩
    · have i1 : ¬ ((i : Int) < (n : Int)) := by omega
      clear hin
      have HX := Bx.mk HB.out
      clear HO HA HM
      go_wp2_with (go_at_call 6; (with_reducible refine (works_c _).mono ?_); rintro e w' ⟨rfl, hb⟩; have n1 := Bx.mk (HB.out.trans (hb.mono HS.out)); clear hb)
      go_ret
      exact ⟨rfl, n1.out⟩
theorem plays_c (f c : Int) (A : Option Addr) (n k : Nat) (ds : List (Int × Int)) (w : World) (hn : n ≤ k) (hD : DoRow w A n ds) :
    Calls Try.prog 15 #[.int .i64 f, .int .i64 c, .slice A n k] w fun e w' => e = .returned (.bool true) ∧ Below w.heap.size w w' := by
  by_cases h : 1 ≤ f ∧ f ≤ 1000 ∧ f ≤ c ∧ c ≤ 10000
  · exact plays_yes f c A n k ds w h.1 h.2.1 h.2.2.1 h.2.2.2 hn hD
  · exact plays_no f c A n k w h hn
end Go.Proofs.Ytjjnmbmaahppoaa.Base
