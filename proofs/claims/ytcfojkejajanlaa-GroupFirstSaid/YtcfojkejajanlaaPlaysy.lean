/- Layer 10: GroupPlays at ports of which a group is made, by its contract. -/
import Derived.Test.YtcfojkejajanlaaPlays
set_option linter.unusedVariables false
set_option linter.unusedSimpArgs false
namespace Go.Proofs.Ytcfojkejajanlaa.Base
open Go.RowKit Go.Proofs.YtcfojkejajanlaaW.PrintWords Go.Proofs.YtcfojkejajanlaaW.PrintLast Go.Proofs.YtcfojkejajanlaaW.PrintMore Go.Proofs.Ytcfojkejajanlaa.PGroupPlays
attribute [local go_sem] max2_int min2_int max_two min_two

theorem RA.lower {w : World} {B B' g : Nat} {ps : List Int} {lv : Int → Bool} (h : RA w B g ps lv) (hB : B' ≤ B) : RA w B' g ps lv := by
  obtain ⟨v, hg, hb, hr⟩ := h
  exact ⟨v, hg, Nat.le_trans hB hb, Kd.R_lower hr hB⟩
theorem RA.ge {w : World} {B g : Nat} {ps : List Int} {lv : Int → Bool} (h : RA w B g ps lv) : B ≤ g := by obtain ⟨v, _, h, _⟩ := h; exact h
def errV (ps : List Int) (q : Int) : Int := if q ∈ ps then 0 else 9
def updV (ps : List Int) (lv : Int → Bool) (q : Int) (b : Bool) : Int → Bool := if q ∈ ps then upd lv q b else lv
theorem live_any (g B : Nat) (ps : List Int) (lv : Int → Bool) (p : Int) (b : Bool) (w : World) (hG : GA w B g ps (inL ps) lv) (hP : okP ps) :
    Calls Try.prog 10 #[.pointer (some ⟨g, 0, none⟩), .int .i64 p, .bool b] w fun e w' => e = .returned (.int .i64 (errV ps p)) ∧ GA w' B g ps (inL ps) (updV ps lv p b) ∧ Only g w w' := by
  unfold errV updV
  by_cases hp : p ∈ ps
  · rw [if_pos hp, if_pos hp]; exact live_c g B ps lv p b w hG hP hp
  · rw [if_neg hp, if_neg hp]
    refine (live_no g B ps _ lv p b w hG (hP.fit lv) hp).mono ?_
    rintro e w' ⟨rfl, ⟨⟨n, rfl⟩⟩⟩
    exact ⟨rfl, hG, rfl, rfl, rfl, Nat.le_refl _, fun _ _ _ => rfl⟩
theorem rlive_any (g B : Nat) (ps : List Int) (lv : Int → Bool) (p : Int) (b : Bool) (w : World) (hG : RA w B g ps lv) (hP : okP ps) (hl : ps.length ≤ 1000) :
    Calls Try.prog 11 #[.pointer (some ⟨g, 0, none⟩), .int .i64 p, .bool b] w fun e w' => e = .returned (.int .i64 (errV ps p)) ∧ RA w' B g ps (updV ps lv p b) ∧ Only g w w' := by
  unfold errV updV
  by_cases hp : p ∈ ps
  · rw [if_pos hp, if_pos hp]; exact rlive_yes g B ps lv p b w hG hP hl hp
  · rw [if_neg hp, if_neg hp]
    refine (rlive_no g B ps lv p b w hG hl hp).mono ?_
    rintro e w' ⟨rfl, rfl⟩
    exact ⟨rfl, hG, rfl, rfl, rfl, Nat.le_refl _, fun _ _ _ => rfl⟩
theorem readsOf {w : World} {B n c : Nat} {A : Option Addr} {xs : List Int} (h : (Kd.int .i64).R 3 w B (fun _ => True) (.slice A n c) xs) : (Kd.int .i64).C w A xs.length xs := by
  obtain ⟨_, _, hv, _, hC⟩ := Kd.R_reads h
  injection hv with h1 h2 h3; rw [h1]; exact hC
theorem DoRow.at0 {w : World} {A : Option Addr} {n : Nat} {ds : List (Int × Bool)} (h : DoRow w A n ds) (i : Nat) (hi : i < n) :
    ∃ ad q b, A = some ad ∧ Bx (w.cell? (ad.add (i * 2)) = some (.int .i64 q)) ∧ Bx (w.cell? ⟨(ad.add (i * 2)).block, (ad.add (i * 2)).off + 1, none⟩ = some (.bool b)) := by
  obtain ⟨ad, hA, hc⟩ := h.2.2 (by omega)
  obtain ⟨h0, h1⟩ := hc i hi
  exact ⟨ad, _, _, hA, ⟨h0⟩, ⟨h1⟩⟩
/-- An element's two cells. -/
theorem DoRow.at_ {w w1 : World} {A : Option Addr} {n : Nat} {ds : List (Int × Bool)} (h : DoRow w A n ds) (hb : Below w.heap.size w w1) (i : Nat) (hi : i < n) :
    ∃ ad q b, A = some ad ∧ w1.cell? (ad.add (i * 2)) = some (.int .i64 q) ∧ w1.cell? ⟨(ad.add (i * 2)).block, (ad.add (i * 2)).off + 1, none⟩ = some (.bool b) := by
  obtain ⟨ad, hA, hc⟩ := h.2.2 (by omega)
  obtain ⟨h0, h1⟩ := hc i hi
  exact ⟨ad, _, _, hA, pw_cell_below hb h0, pw_cell_below hb h1⟩
set_option maxHeartbeats 4000000 in
set_option maxRecDepth 100000 in
theorem plays_yes (A0 A1 : Option Addr) (n0 c0 n1 c1 : Nat) (ps : List Int) (ds : List (Int × Bool)) (w : World) (hP : (Kd.int .i64).C w A0 ps.length ps) (hnc : ps.length ≤ c0) (hn10 : ps.length ≤ 10)
    (hmin : (if (10 : Int) < (n0 : Int) then (10 : Int) else (n0 : Int)) = (ps.length : Int)) (hc0 : n0 ≤ c0) (ho : okP ps) (hD : DoRow w A1 n1 ds) :
    Calls Try.prog 3 #[.slice A0 n0 c0, .slice A1 n1 c1] w fun e w' => e = .returned (.bool true) ∧ Below w.heap.size w w' := by
  have hu := Try.underlying22
  have HP := Bx.mk hP
  have HD := Bx.mk hD
  have HO := Bx.mk ho
  clear hP hD ho
  go_enter Try.func3, Try.ntmps3
  go_wp2_with fail
  refine (catenaryref00_CopyInts.calls A0 c0 ps ps _ HP.out hnc (by unfold catenaryref00_CopyInts.f; rw [if_pos (by simp; omega)]; rfl)).mono ?_
  rintro e w1 ⟨v, rfl, hr, hb⟩
  obtain ⟨A2, c2, rfl, hc2, hC2⟩ := Kd.R_reads hr
  have HR := Bx.mk hr
  have HB := Bx.mk hb
  have HS1 := Bx.mk hb.size
  clear hr hC2
  go_wp2_with fail
  refine (new_yes _ ps _ _ HR.out (by omega) HO.out).mono ?_
  rintro e w2 ⟨g, rfl, hg2, hb2⟩
  have HR2 := Bx.mk (Kd.R_below HR.out hb2)
  have HB2 := Bx.mk (next HB.out hb.size hb2)
  have HS2 := Bx.mk (Nat.le_trans hb.size hb2.size)
  have HG2 := Bx.mk hg2
  have hsz12 := hb2.size
  have hlow := (Kd.R_bound HR.out)
  have HLO : Bx (∀ b, (Value.slice A2 ps.length c2).ownBlock = some b → b < w1.heap.size) := ⟨fun b hb' => (hlow.1 b hb').2.2.1⟩
  clear hb hb2 HR HB hg2 hlow
  go_wp2_with fail
  refine (rnew_yes A0 c0 ps _ (Kd.C_below HP.out HB2.out) (by omega) HO.out).mono ?_
  rintro e w3 ⟨m, rfl, hm3, hb3⟩
  have HG3 := Bx.mk (HG2.out.below hb3)
  have HM3 := Bx.mk hm3
  have HSZ := Bx.mk (show w1.heap.size ≤ w2.heap.size from by assumption)
  have HR3 := Bx.mk (Kd.R_below HR2.out hb3)
  have HB3 := Bx.mk (next HB2.out HS2.out hb3)
  have HS3 := Bx.mk (Nat.le_trans HS2.out hb3.size)
  clear hb3 HR2 HB2 HS2 HG2 hm3 hsz12
  go_wp2_with fail
  obtain ⟨_, _, hv, _, hC3⟩ := Kd.R_reads HR3.out
  refine (eq_c _ _ _ _ ps _ ?h1 hc2 (Kd.C_below HP.out HB3.out) hnc (by omega)).mono ?_
  case h1 => injection hv with h1 h2 h3; rw [h1]; exact hC3
  rintro e w4 ⟨rfl, hb4⟩
  have HR4 := Bx.mk (Kd.R_below HR3.out hb4)
  have HB4 := Bx.mk (next HB3.out HS3.out hb4)
  have HS4 := Bx.mk (Nat.le_trans HS3.out hb4.size)
  have HG4 := Bx.mk (HG3.out.below hb4)
  have HM4 := Bx.mk ((HM3.out.below hb4).lower HSZ.out)
  clear hb4 HR3 HB3 HS3 hv hC3 HG3 HM3
  go_wp2_with fail
  go_loopw [10] (fun v wr => ∃ (i : Nat) (xs : List Int), i ≤ ps.length ∧ v = .int .i64 i ∧ xs.length = ps.length ∧ Bx ((Kd.int .i64).R 3 wr w.heap.size (fun _ => True) (.slice A2 ps.length c2) xs) ∧ Bx (Below w.heap.size w wr) ∧ Bx (GA wr w1.heap.size g ps (inL ps) (inL ps)) ∧ Bx (RA wr w1.heap.size m ps (inL ps))) (fun v _ => ps.length - (intOf v).toNat)
  case atStart => exact ⟨0, ps, by omega, rfl, rfl, HR4, HB4, HG4, HM4⟩
  case round =>
    obtain ⟨i, xs, hi, rfl, hxs, HR, HB, HG, HM⟩ := hrel
    have HX := Bx.mk hxs
    clear hxs
    by_cases h : i < ps.length
    · obtain ⟨b, rfl, hbB, hce, hfr⟩ := ownCell HR.out HX.out i h
      have h0 : (0 : Int) ≤ (i : Int) := by omega
      have h1 : (i : Int) < (ps.length : Int) := by omega
      have HN := Bx.mk (ownPut HR.out HX.out i h 9)
      have HL := Bx.mk (HLO.out b rfl)
      go_wp2
      go_roundw
      case rel => exact ⟨i + 1, xs.set i 9, by omega, by go_num, by rw [List.length_set]; exact HX.out, HN, ⟨HB.out.setCell hbB _⟩, ⟨HG.out.low HL.out _ _⟩, ⟨HM.out.low HL.out _ _⟩⟩
      case measure => simp [intOf]; omega
    · obtain ⟨wo, rfl⟩ : ∃ wo : World, wo = wr := ⟨_, rfl⟩
      have n0 := Bx.mk (HG.out.lower HS1.out)
      have n1 := Bx.mk (HM.out.lower HS1.out)
      go_wp2_with fail
      clear HG HM HR HX HLO h hi
      go_loopw [11] (fun v wr => ∃ (j : Nat) (lv : Int → Bool), j ≤ 100 ∧ v = .int .i64 j ∧ Bx (Below w.heap.size w wr) ∧ Bx (w.heap.size ≤ wr.heap.size) ∧ Bx (GA wr w.heap.size g ps (inL ps) lv) ∧ Bx (RA wr w.heap.size m ps lv)) (fun v _ => 100 - (intOf v).toNat)
      case atStart => exact ⟨0, inL ps, by omega, rfl, HB, ⟨HB.out.size⟩, n0, n1⟩
      case round =>
        clear HB n0 n1
        obtain ⟨j, lv, hj, rfl, HB, HS, HG, HM⟩ := hrel
        by_cases hjn : j < n1
        · by_cases hj1 : j < 100
          · obtain ⟨ad, q, b, rfl, CL0, CL1⟩ := HD.out.at0 j hjn
            have cl0 := pw_cell_below HB.out CL0.out
            have cl1 := pw_cell_below HB.out CL1.out
            have h0 : (0 : Int) ≤ (j : Int) := by omega
            have h1 : (j : Int) < (n1 : Int) := by omega
            have h2 : (j : Int) < 100 := by omega
            go_wp2_with fail
            go_region_held3 (fun w' => w'.cell? (ad.add (j * 2)) = some (.int .i64 q) ∧ w'.cell? ⟨(ad.add (j * 2)).block, (ad.add (j * 2)).off + 1, none⟩ = some (.bool b)) (first | exact ⟨cl0, cl1⟩ | go_keep) (first | (go_at_call 10; (with_reducible refine (live_any g w.heap.size ps lv q b _ ?hg HO.out).mono ?_); (case hg => exact HG.out); rintro e w5 ⟨rfl, hg5, ho5⟩; have n0 := Bx.mk hg5; have n1 := Bx.mk (HM.out.onlyG HG.out ⟨ho5.os, ho5.tape, ho5.output, ho5.size, ho5.block⟩); have n2 := Bx.mk (Only.below (w := wr) ⟨ho5.os, ho5.tape, ho5.output, ho5.size, ho5.block⟩ HB.out HS.out HG.out.ge); have n3 := Bx.mk (Nat.le_trans HS.out ho5.size); clear HG HM HB HS cl0 cl1 hg5 ho5; have HG := n0; have HM := n1; have HB := n2; have HS := n3; clear n0 n1 n2 n3; have cl0 := pw_cell_below HB.out CL0.out; have cl1 := pw_cell_below HB.out CL1.out) | (go_at_call 11; (with_reducible refine (rlive_any m w.heap.size ps lv q b _ ?hg HO.out (by omega)).mono ?_); (case hg => exact HM.out); rintro e w6 ⟨rfl, hm5, ho5⟩; have n0 := Bx.mk hm5; have n1 := Bx.mk (HG.out.onlyR HM.out ho5); have n2 := Bx.mk (Only.below ho5 HB.out HS.out HM.out.ge); have n3 := Bx.mk (Nat.le_trans HS.out ho5.size); clear HG HM HB HS cl0 cl1 hm5 ho5; have HG := n1; have HM := n0; have HB := n2; have HS := n3; clear n0 n1 n2 n3; have cl0 := pw_cell_below HB.out CL0.out; have cl1 := pw_cell_below HB.out CL1.out))
            obtain ⟨lv2, hlv2⟩ : ∃ f, f = updV ps lv q b := ⟨_, rfl⟩
            rw [← hlv2] at HG HM
            clear cl0 cl1 CL0 CL1 hlv2
            go_wp2_with fail
            refine (first_c g w.heap.size ps _ lv2 _ ?hg (HO.out.fit _) (by omega)).mono ?_
            case hg => exact HG.out
            rintro e w7 ⟨rfl, hd⟩
            obtain ⟨nd7, rfl⟩ := hd.out
            clear hd
            go_wp2_with fail
            refine (rfirst_c m w.heap.size ps lv2 _ ?hg HO.out (by omega)).mono ?_
            case hg => exact HM.out
            rintro e w8 ⟨rfl, hd⟩
            obtain ⟨nd8, rfl⟩ := hd.out
            clear hd
            go_wp2_with fail
            obtain ⟨wq, hwq⟩ : ∃ wq : World, wq = w6.drewN (nd7 + nd8) := ⟨_, rfl⟩
            have n0 : Bx (GA wq w.heap.size g ps (inL ps) lv2) := ⟨by rw [hwq]; exact HG.out⟩
            have n1 : Bx (RA wq w.heap.size m ps lv2) := ⟨by rw [hwq]; exact HM.out⟩
            have n2 : Bx (Below w.heap.size w wq) := ⟨by rw [hwq]; exact pw_below_drewN HB.out _⟩
            have n3 : Bx (w.heap.size ≤ wq.heap.size) := ⟨by rw [hwq]; exact HS.out⟩
            rw [← hwq]
            clear HG HM HB HS hwq
            have HG := n0
            have HM := n1
            have HB := n2
            have HS := n3
            clear n0 n1 n2 n3
            refine (ports_c g w.heap.size ps (inL ps) lv2 wq HG.out (by omega)).mono ?_
            rintro e w9 ⟨v9, rfl, hr9, hb9⟩
            obtain ⟨A3, c3, rfl, hc3, _⟩ := Kd.R_reads hr9
            have HR9 := Bx.mk hr9
            have HB9 := Bx.mk hb9
            clear hr9 hb9
            go_wp2_with fail
            refine (rports_c m w.heap.size ps lv2 w9 (HM.out.below HB9.out) (by omega)).mono ?_
            rintro e w10 ⟨v10, rfl, hr10, hb10⟩
            obtain ⟨A4, c4, rfl, hc4, hC10⟩ := Kd.R_reads hr10
            have HC10 := Bx.mk hC10
            have n0 := Bx.mk (Kd.R_below HR9.out hb10)
            have n1 := Bx.mk (next HB9.out HB9.out.size hb10)
            clear HR9 HB9 hC10 hr10 hb10
            have HR9 := n0
            have HB9 := n1
            clear n0 n1
            go_wp2_with fail
            refine (eq_c A3 A4 c3 c4 ps w10 ?h1 hc3 HC10.out hc4 (by omega)).mono ?_
            case h1 => exact (readsOf HR9.out)
            rintro e w11 ⟨rfl, hb11⟩
            have n0 := Bx.mk (Kd.R_below HR9.out hb11)
            have n1 := Bx.mk (next HB9.out HB9.out.size hb11)
            clear HR9 HB9 HC10 hb11
            have HR9 := n0
            have HB9 := n1
            clear n0 n1
            go_wp2_with fail
            go_loopw [17] (fun v wr => ∃ (k : Nat) (ys : List Int), k ≤ ps.length ∧ v = .int .i64 k ∧ ys.length = ps.length ∧ Bx ((Kd.int .i64).R 3 wr wq.heap.size (fun _ => True) (.slice A3 ps.length c3) ys) ∧ Bx (Below wq.heap.size wq wr)) (fun v _ => ps.length - (intOf v).toNat)
            case atStart => exact ⟨0, ps, by omega, rfl, rfl, HR9, HB9⟩
            case round =>
              clear HR9 HB9
              obtain ⟨k, ys, hk, rfl, hys, HR9, HB9⟩ := hrel
              have HX := Bx.mk hys
              clear hys
              by_cases h : k < ps.length
              · obtain ⟨b3, rfl, hbB, hce, hfr⟩ := ownCell HR9.out HX.out k h
                have k0 : (0 : Int) ≤ (k : Int) := by omega
                have k1 : (k : Int) < (ps.length : Int) := by omega
                have HN := Bx.mk (ownPut HR9.out HX.out k h 0)
                go_wp2
                go_roundw
                case rel => exact ⟨k + 1, ys.set k 0, by omega, by go_num, by rw [List.length_set]; exact HX.out, HN, ⟨HB9.out.setCell hbB _⟩⟩
                case measure => simp [intOf]; omega
              · have HG2 := Bx.mk (HG.out.below HB9.out)
                have HM2 := Bx.mk (HM.out.below HB9.out)
                have HB2 := Bx.mk (next HB.out HS.out HB9.out)
                have HS2 := Bx.mk (Nat.le_trans HS.out HB9.out.size)
                obtain ⟨wo2, rfl⟩ : ∃ wo2 : World, wo2 = wr := ⟨_, rfl⟩
                go_wp2_with fail
                clear h hk HG HM HB HS HR9 HB9 HX
                go_loopw [18] (fun v wr => ∃ k : Int, -1 ≤ k ∧ k ≤ 6 ∧ v = .int .i64 k ∧ Drawn0 wo2 wr) (fun v _ => (6 - intOf v).toNat)
                case atStart => exact ⟨-1, by omega, by omega, rfl, Drawn0.refl _⟩
                case round =>
                  obtain ⟨k, hk0, hk1, rfl, ⟨⟨nd, rfl⟩⟩⟩ := hrel
                  by_cases h : k < 6
                  · go_wp2_with (first | (go_at_call 16; (with_reducible refine (up_c g w.heap.size ps (inL ps) lv2 _ _ ?hg (HO.out.fit _)).mono ?_); (case hg => exact HG2.out); rintro e w12 ⟨rfl, hd⟩; obtain ⟨nd12, rfl⟩ := hd.out; clear hd) | (go_at_call 17; (with_reducible refine (rup_c m w.heap.size ps lv2 _ _ ?hg HO.out (by omega)).mono ?_); (case hg => exact HM2.out); rintro e w13 ⟨rfl, rfl⟩))
                    go_roundw
                    case rel => exact ⟨k + 1, by omega, by omega, by first | rfl | go_num, ⟨⟨_, rfl⟩⟩⟩
                    case measure => simp [intOf]; omega
                  · obtain rfl : k = 6 := by omega
                    go_wp2
                    go_roundw
                    case rel => exact ⟨j + 1, lv2, by omega, by go_num, ⟨pw_below_drewN HB2.out _⟩, ⟨HS2.out⟩, ⟨HG2.out⟩, ⟨HM2.out⟩⟩
                    case measure => simp [intOf]; omega
          · have h1 : (j : Int) < (n1 : Int) := by omega
            have h2 : ¬ (j : Int) < 100 := by omega
            go_wp2_with (go_at_call 18; (with_reducible refine (works_c _).mono ?_); rintro e w5 ⟨rfl, hb5⟩; have HB5 := Bx.mk (next HB.out HS.out hb5); clear hb5)
            go_ret
            exact ⟨rfl, HB5.out⟩
        · have h1 : ¬ (j : Int) < (n1 : Int) := by omega
          go_wp2_with (go_at_call 18; (with_reducible refine (works_c _).mono ?_); rintro e w5 ⟨rfl, hb5⟩; have HB5 := Bx.mk (next HB.out HS.out hb5); clear hb5)
          go_ret
          exact ⟨rfl, HB5.out⟩
end Go.Proofs.Ytcfojkejajanlaa.Base
