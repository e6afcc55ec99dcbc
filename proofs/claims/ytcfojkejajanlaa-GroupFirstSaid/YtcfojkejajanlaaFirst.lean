/- Layer 10: GroupFirst's walk. -/
import Derived.Test.YtcfojkejajanlaaRows2
set_option linter.unusedVariables false
set_option linter.unusedSimpArgs false
namespace Go.Proofs.Ytcfojkejajanlaa.Base
open Go.RowKit Go.Proofs.YtcfojkejajanlaaW.PrintWords Go.Proofs.YtcfojkejajanlaaW.PrintLast Go.Proofs.YtcfojkejajanlaaW.PrintMore Go.Proofs.Ytcfojkejajanlaa.PGroupFirst

theorem w64 {n : Int} (h : -9223372036854775808 ≤ n ∧ n ≤ 9223372036854775807) : wrap64 n = n := by
  unfold wrap64; omega
theorem tmodNeg (a m : Int) (hm : 0 < m) (h : Int.tmod a m < 0) : Int.tmod a m + m = a % m := by
  have hmo := Int.tmod_eq_emod (a := a) (b := m)
  have e0 := Int.emod_nonneg a (b := m) (by omega)
  by_cases h : 0 ≤ a ∨ m ∣ a
  · rw [if_pos h] at hmo; omega
  · rw [if_neg h] at hmo
    have hn : ((m.natAbs : Nat) : Int) = m := by omega
    omega
theorem tmodPos (a m : Int) (hm : 0 < m) (h : ¬ Int.tmod a m < 0) : Int.tmod a m = a % m := by
  have hmo := Int.tmod_eq_emod (a := a) (b := m)
  have e1 := Int.emod_lt_of_pos a (b := m) hm
  by_cases h : 0 ≤ a ∨ m ∣ a
  · rw [if_pos h] at hmo; omega
  · rw [if_neg h] at hmo
    have hn : ((m.natAbs : Nat) : Int) = m := by omega
    omega
set_option maxHeartbeats 400000 in
theorem bring_c (a m : Int) (w : World) (hm : 0 < m) (hm' : m ≤ 1099511627776) :
    Calls Try.prog 20 #[.int .i64 a, .int .i64 m] w fun e w' => e = .returned (.int .i64 (a % m)) ∧ w = w' := by
  have hz : (m == 0) = false := by rw [beq_eq_false_iff_ne]; omega
  have e0 := Int.emod_nonneg a (b := m) (by omega)
  have e1 := Int.emod_lt_of_pos a (b := m) hm
  by_cases h : Int.tmod a m < 0
  · have hd : decide (Int.tmod a m < 0) = true := decide_eq_true h
    have ht := Bx.mk (tmodNeg a m hm h)
    clear h
    go_enter Try.func20, Try.ntmps20
    go_wp2
    go_ret
    exact ⟨retInt (by rw [ht.out]; exact w64 (by omega)), rfl⟩
  · have hd : decide (Int.tmod a m < 0) = false := decide_eq_false h
    have ht := Bx.mk (tmodPos a m hm h)
    clear h
    go_enter Try.func20, Try.ntmps20
    go_wp2
    go_ret
    exact ⟨retInt ht.out, rfl⟩

theorem idx_at (ps : List Int) (lv : Int → Bool) (t : Nat) (ht : t < ps.length) (h : ∀ j, j < t → lv (ps.getD j 0) = false) (hl : lv (ps.getD t 0) = true) : ps.findIdx lv = t ∧ firstV ps lv = (ps.getD t 0, true) := by
  have e : ps.getD t 0 = ps[t] := by simp [ht]
  rw [e] at hl ⊢
  have h' : ∀ j (hj : j < t), lv ps[j] = false := fun j hj => by have := h j hj; simpa [show j < ps.length by omega] using this
  refine ⟨(List.findIdx_eq ht).2 ⟨hl, h'⟩, ?_⟩
  have hf : ps.find? lv = some ps[t] := List.find?_eq_some_iff_getElem.2 ⟨hl, t, ht, rfl, fun j hj => by rw [h' j hj]; rfl⟩
  unfold firstV; rw [hf]
theorem idx_no (ps : List Int) (lv : Int → Bool) (h : ∀ j, j < ps.length → lv (ps.getD j 0) = false) : ps.findIdx lv = ps.length ∧ firstV ps lv = (0, false) := by
  have h' : ∀ x ∈ ps, lv x = false := fun x hx => by
    obtain ⟨j, hj, rfl⟩ := List.getElem_of_mem hx
    simpa [hj] using h j hj
  refine ⟨List.findIdx_eq_length.2 h', ?_⟩
  have hf : ps.find? lv = none := List.find?_eq_none.2 (fun x hx => by simp [h' x hx])
  unfold firstV; rw [hf]
theorem idx_stay (ps : List Int) (lv : Int → Bool) (k : Nat) (b : Bool) (hk : k < ps.length) (hn : ps.Nodup) (hg : ps.findIdx lv < k) : ps.findIdx (upd lv (ps.getD k 0) b) = ps.findIdx lv := by
  have hlt : ps.findIdx lv < ps.length := by omega
  have hl := List.findIdx_getElem (p := lv) (xs := ps) (w := hlt)
  have ek : ps.getD k 0 = ps[k] := by simp [hk]
  rw [ek, List.findIdx_eq hlt]
  have ne : ∀ j (hj : j < ps.length), j < k → ps[j] ≠ ps[k] := fun j hj hjk => List.pairwise_iff_getElem.1 hn j k hj hk hjk
  refine ⟨?_, fun j hj => ?_⟩
  · unfold upd; rw [if_neg (ne _ hlt hg)]; exact hl
  · unfold upd; rw [if_neg (ne j (by omega) (by omega))]
    exact List.not_of_lt_findIdx hj |> fun h => by simpa using h
theorem idx_start (ps : List Int) (h : 0 < ps.length) : ps.findIdx (inL ps) = 0 := by
  refine (idx_at ps (inL ps) 0 h (fun j hj => absurd hj (by omega)) ?_).1
  have e : ps.getD 0 0 = ps[0] := by simp [h]
  rw [e]; exact decide_eq_true (List.getElem_mem h)
/-- What is noted of the ports' lives is what the group holds. -/
def Same (ps : List Int) (lv : Int → Bool) (us : List Bool) : Prop := us.length = 4 ∧ ∀ j, j < ps.length → us.getD j false = lv (ps.getD j 0)
theorem Same.start (ps : List Int) : Same ps (inL ps) [true, true, true, true] ∨ 4 < ps.length := by
  by_cases h : ps.length ≤ 4
  · left
    refine ⟨rfl, fun j hj => ?_⟩
    have e : ps.getD j 0 = ps[j] := by simp [hj]
    have hm : ps[j] ∈ ps := List.getElem_mem hj
    rw [e]; unfold inL; rw [decide_eq_true hm]
    have h4 : j = 0 ∨ j = 1 ∨ j = 2 ∨ j = 3 := by omega
    rcases h4 with rfl | rfl | rfl | rfl <;> rfl
  · right; omega
theorem Same.set {ps : List Int} {lv : Int → Bool} {us : List Bool} (h : Same ps lv us) (k : Nat) (b : Bool) (hk : k < ps.length) (hl : ps.length ≤ 4) (hn : ps.Nodup) : Same ps (upd lv (ps.getD k 0) b) (us.set k b) := by
  refine ⟨by rw [List.length_set]; exact h.1, fun j hj => ?_⟩
  have ek : ps.getD k 0 = ps[k] := by simp [hk]
  have ej : ps.getD j 0 = ps[j] := by simp [hj]
  have hs := h.2 j hj
  have h4 := h.1
  rw [ej] at hs ⊢
  rw [ek]
  by_cases e : j = k
  · subst e
    unfold upd; rw [if_pos rfl]
    simp [show j < us.length by omega]
  · have hne : ps[j] ≠ ps[k] := by
      rcases Nat.lt_or_gt_of_ne e with h1 | h1
      · exact List.pairwise_iff_getElem.1 hn j k hj hk h1
      · exact (List.pairwise_iff_getElem.1 hn k j hk hj h1).symm
    unfold upd; rw [if_neg hne, ← hs]
    simp [List.getD, List.getElem?_set, Ne.symm e]
theorem boolCell {w : World} {A : Option Addr} {xs : List Bool} (h : Kd.bool.C w A xs.length xs) (i : Nat) (hi : i < xs.length) : ∃ ad, A = some ad ∧ w.cell? (ad.add i) = some (.bool (xs.getD i false)) := by
  obtain ⟨ad, c, rfl, hcl, hk, hcc⟩ := Kd.C_get h false (i : Int) (by omega) (by omega)
  have hk' : c = [Value.bool (xs.getD i false)] := by simpa [Kd.bool, Kd.scalar] using hk
  subst hk'
  refine ⟨ad, rfl, ?_⟩
  have := hcc 0 _ rfl
  simpa [Kd.bool, Kd.scalar, hi] using this
theorem ownCellB {w : World} {B b c : Nat} {xs : List Bool} (h : Kd.bool.R 4 w B (fun _ => True) (.slice (some ⟨b, 0, none⟩) 4 c) xs) (hn : xs.length = 4) (i : Nat) (hi : i < 4) :
    w.cell? ⟨b, i, none⟩ = some (.bool (xs.getD i false)) ∧ w.frozen? ⟨b, i, none⟩ = false := by
  obtain ⟨A, c', hv, _, hC⟩ := Kd.R_reads h
  injection hv with h1 h2 h3
  subst h1
  obtain ⟨ad, hA, hc⟩ := boolCell hC i (by omega)
  simp at hA; subst hA
  rw [add_plain] at hc
  refine ⟨hc, ?_⟩
  obtain ⟨inner, ho, _⟩ := h.2
  obtain ⟨cells, hcs⟩ := own_typed ho b rfl
  exact blk_frozen hcs i
theorem ownPutB {w : World} {B b c : Nat} {xs : List Bool} (h : Kd.bool.R 4 w B (fun _ => True) (.slice (some ⟨b, 0, none⟩) 4 c) xs) (hn : xs.length = 4) (i : Nat) (x : Bool) :
    Kd.bool.R 4 (w.setCell ⟨b, i, none⟩ (.bool x)) B (fun _ => True) (.slice (some ⟨b, 0, none⟩) 4 c) (xs.set i x) := by
  rw [← hn] at h ⊢
  exact (Kd.R_put h (i : Int) x).1
theorem upRow (W : World) (B : Nat) (hB : B ≤ W.heap.size) : Kd.bool.R 4 (W.alloc (.cells #[.bool true, .bool true, .bool true, .bool true] 4)) B (fun _ => True) (.slice (some ⟨W.heap.size, 0, none⟩) 4 4) [true, true, true, true] :=
  ⟨fun _ _ => trivial, OwnRow.lit W B (Kd.reps_scalar [true, true, true, true]) hB (by decide)⟩
theorem upBlock {w : World} {B b c : Nat} {xs : List Bool} (h : Kd.bool.R 4 w B (fun _ => True) (.slice (some ⟨b, 0, none⟩) 4 c) xs) : B ≤ b ∧ ∃ cells, w.heap[b]? = some (.cells cells 4 (0, 0)) := by
  obtain ⟨inner, ho, _⟩ := h.2
  exact ⟨own_base ho b rfl, own_typed ho b rfl⟩
theorem GA.upSet {w : World} {B B' g b c : Nat} {ps : List Int} {al lv : Int → Bool} {xs : List Bool} (h : GA w B g ps al lv) (hu : Kd.bool.R 4 w B' (fun _ => True) (.slice (some ⟨b, 0, none⟩) 4 c) xs) (i : Nat) (u : Value) : GA (w.setCell ⟨b, i, none⟩ u) B g ps al lv := by
  obtain ⟨_, cells, hb⟩ := upBlock hu
  exact h.move hb (by decide) (by decide) (fun k _ hk => Below.heap_setCell w _ u k hk)
theorem portsUpSet {w : World} {B B' b c : Nat} {v : Value} {ps : List Int} {xs : List Bool} (h : (Kd.int .i64).R 3 w B (fun _ => True) v ps) (hu : Kd.bool.R 4 w B' (fun _ => True) (.slice (some ⟨b, 0, none⟩) 4 c) xs) (i : Nat) (u : Value) : (Kd.int .i64).R 3 (w.setCell ⟨b, i, none⟩ u) B (fun _ => True) v ps := by
  obtain ⟨_, cells, hb⟩ := upBlock hu
  exact Kd.R_mono (Kd.R_set h hb (by simp [Kd.int, Kd.scalar]) i u) (fun _ _ => trivial)
theorem portCell {w : World} {B n c : Nat} {A : Option Addr} {ps : List Int} (h : (Kd.int .i64).R 3 w B (fun _ => True) (.slice A n c) ps) (i : Nat) (hi : i < ps.length) : ∃ ad, A = some ad ∧ w.cell? (ad.add i) = some (.int .i64 (ps.getD i 0)) := by
  obtain ⟨ad, hA, hc⟩ := intCell (readsOf h) i hi
  exact ⟨ad, hA, by rw [hc]; simp [hi]⟩
theorem portCellAt {w : World} {B n c : Nat} {ad : Addr} {ps : List Int} (h : (Kd.int .i64).R 3 w B (fun _ => True) (.slice (some ad) n c) ps) (i : Nat) (hi : i < ps.length) {p : Int} (hp : p = ps.getD i 0) : w.cell? (ad.add i) = some (.int .i64 p) := by
  obtain ⟨ad', hA, hc⟩ := portCell h i hi
  obtain rfl : ad = ad' := by simpa using hA
  rw [hp]; exact hc
theorem up_same {ps : List Int} {lv : Int → Bool} {us : List Bool} (h : Same ps lv us) {n : Nat} (hn : n < ps.length) : upV ps lv (ps.getD n 0) = us.getD n false := by
  rw [h.2 n hn]; unfold upV; rw [decide_eq_true (show ps.getD n 0 ∈ ps by simp [hn])]; rfl
/-- A row of the call's own, of another type than the group's, over a change of the group's block alone. -/
theorem R_onlyG {α : Type} {d : Kd α} {e : Nat} {w w' : World} {B B' g : Nat} {v : Value} {xs : List α} {ps : List Int} {al lv : Int → Bool} (h : d.R e w B (fun _ => True) v xs) (hg : GA w B' g ps al lv) (ho : Only g w w') (he : ∀ q, q ∈ e :: d.E → q ≠ 48) : d.R e w' B (fun _ => True) v xs := by
  obtain ⟨u, hb, _⟩ := hg
  exact Kd.R_mono (Kd.R_step (Kd.R_types h hb he) (fun k hk hlt => ho.block k hlt hk.2)) (fun _ _ => trivial)
set_option maxHeartbeats 4000000 in
set_option maxRecDepth 100000 in
theorem first_walk (t m : Int) (A1 : Option Addr) (n1 c1 : Nat) (ds : List (Int × Bool)) (w : World) (hD : DoRow w A1 n1 ds) :
    Calls Try.prog 4 #[.int .i64 t, .int .i64 m, .slice A1 n1 c1] w fun e w' => e = .returned (.bool true) ∧ Below w.heap.size w w' := by
  obtain ⟨ps, hf, hok, hl4⟩ := rows_ps t m
  have HD := Bx.mk hD
  have HO := Bx.mk hok
  clear hD hok
  go_enter Try.func4, Try.ntmps4
  go_wp2_with fail
  refine (works_c _).mono ?_
  rintro e w1 ⟨rfl, hb1⟩
  go_wp2_with fail
  refine (catenarylaw10_rows.calls 6 t m ps _ hf).mono ?_
  rintro e w2 ⟨v, rfl, hr, hb2⟩
  obtain ⟨A7, c7, rfl, hc7, _⟩ := Kd.R_reads hr
  have HR := Bx.mk (Kd.R_lower hr hb1.size)
  have HB := Bx.mk (next hb1 hb1.size hb2)
  have HS := Bx.mk (Nat.le_trans hb1.size hb2.size)
  clear hr hb1 hb2 hf
  go_wp2_with fail
  refine (new_yes _ ps _ _ HR.out (by omega) HO.out).mono ?_
  rintro e w3 ⟨g, rfl, hg, hb3⟩
  have HG := Bx.mk (hg.lower HS.out)
  have n0 := Bx.mk (Kd.R_below HR.out hb3)
  have n1 := Bx.mk (next HB.out HS.out hb3)
  have n2 := Bx.mk (Nat.le_trans HS.out hb3.size)
  clear HR HB HS hg hb3
  have HR := n0
  have HB := n1
  have HS := n2
  clear n0 n1 n2
  go_wp2_with fail
  obtain ⟨ub, hub⟩ : ∃ ub, ub = w3.heap.size := ⟨_, rfl⟩
  have HU := Bx.mk (upRow w3 w.heap.size HS.out)
  rw [← hub] at HU
  have n0 := Bx.mk (HG.out.below (below_alloc (Below.refl _ _) (.cells #[.bool true, .bool true, .bool true, .bool true] 4)))
  have n1 := Bx.mk (Kd.R_alloc HR.out (.cells #[.bool true, .bool true, .bool true, .bool true] 4))
  have n2 := Bx.mk (HB.out.alloc HS.out (.cells #[.bool true, .bool true, .bool true, .bool true] 4))
  have n3 := Bx.mk (show w.heap.size ≤ (w3.alloc (.cells #[.bool true, .bool true, .bool true, .bool true] 4)).heap.size by simp; have := HS.out; omega)
  have n4 := Bx.mk (Or.resolve_right (Same.start ps) (by omega))
  clear HG HR HB HS
  rw [← hub]
  clear hub
  go_loopw [11, 12] (fun v11 v12 wr => ∃ (j at_ : Nat) (lv : Int → Bool) (us : List Bool), j ≤ 100 ∧ v12 = .int .i64 j ∧ v11 = .int .i64 at_ ∧ Bx (0 < ps.length → at_ = ps.findIdx lv) ∧ Bx (Same ps lv us) ∧ Bx (GA wr w.heap.size g ps (inL ps) lv) ∧ Bx ((Kd.int .i64).R 3 wr w.heap.size (fun _ => True) (.slice A7 ps.length c7) ps) ∧ Bx (Kd.bool.R 4 wr w.heap.size (fun _ => True) (.slice (some ⟨ub, 0, none⟩) 4 4) us) ∧ Bx (Below w.heap.size w wr) ∧ Bx (w.heap.size ≤ wr.heap.size)) (fun _ v _ => 100 - (intOf v).toNat)
  case atStart => exact ⟨0, 0, inL ps, _, by omega, rfl, rfl, ⟨fun h => (idx_start ps h).symm⟩, n4, n0, n1, HU, n2, n3⟩
  case round =>
    clear n0 n1 n2 n3 n4 HU
    obtain ⟨j, at_, lv, us, hj, rfl, rfl, HAT, HSM, HG, HR, HU, HB, HS⟩ := hrel
    by_cases hgo : j < n1 ∧ j < 100 ∧ 0 < ps.length
    · obtain ⟨hjn, hj1, hlen⟩ := hgo
      obtain ⟨ad, q, b, rfl, CL0, CL1⟩ := HD.out.at0 j hjn
      have cl0 := pw_cell_below HB.out CL0.out
      have cl1 := pw_cell_below HB.out CL1.out
      have h0 : (0 : Int) ≤ (j : Int) := by omega
      have h1 : (j : Int) < (n1 : Int) := by omega
      have h2 : (j : Int) < 100 := by omega
      have h3 : (0 : Int) < (ps.length : Int) := by omega
      obtain ⟨k, hk⟩ : ∃ k : Nat, (k : Int) = q % (ps.length : Int) := ⟨(q % (ps.length : Int)).toNat, by have := Int.emod_nonneg q (b := (ps.length : Int)) (by omega); omega⟩
      have hkl : k < ps.length := by have := Int.emod_lt_of_pos q (b := (ps.length : Int)) (by omega); omega
      have HK := Bx.mk hk.symm
      clear hk
      have k0 : (0 : Int) ≤ (k : Int) := by omega
      have k1 : (k : Int) < (ps.length : Int) := by omega
      go_wp2_with (go_at_call 20; (with_reducible refine (bring_c _ _ _ (by omega) (by omega)).mono ?_); rw [HK.out]; rintro e w' ⟨rfl, rfl⟩)
      obtain ⟨adp, rfl, pc⟩ := portCell HR.out k hkl
      obtain ⟨p, hp⟩ : ∃ p, p = ps.getD k 0 := ⟨_, rfl⟩
      rw [← hp] at pc
      have HP := Bx.mk hp
      have HMEM := Bx.mk (show p ∈ ps by rw [hp]; simp [hkl])
      clear hp
      go_region_held3 (fun w' => w'.cell? (adp.add k) = some (.int .i64 p) ∧ w'.cell? ⟨(ad.add (j * 2)).block, (ad.add (j * 2)).off + 1, none⟩ = some (.bool b)) (first | exact ⟨pc, cl1⟩ | go_keep) (first | (go_at_call 10; (with_reducible refine (live_c g w.heap.size ps lv p b _ ?hg HO.out HMEM.out).mono ?_); (case hg => exact HG.out); rintro e w5 ⟨rfl, hg5, ho5⟩; have n0 := Bx.mk hg5; have n1 := Bx.mk (R_onlyG HR.out HG.out ⟨ho5.os, ho5.tape, ho5.output, ho5.size, ho5.block⟩ (by simp [Kd.int, Kd.scalar])); have n4 := Bx.mk (R_onlyG HU.out HG.out ⟨ho5.os, ho5.tape, ho5.output, ho5.size, ho5.block⟩ (by simp [Kd.bool, Kd.scalar])); have n2 := Bx.mk (Only.below (w := wr) ⟨ho5.os, ho5.tape, ho5.output, ho5.size, ho5.block⟩ HB.out HS.out HG.out.ge); have n3 := Bx.mk (Nat.le_trans HS.out ho5.size); clear HG HR HU HB HS cl0 cl1 pc hg5 ho5; have HG := n0; have HR := n1; have HU := n4; have HB := n2; have HS := n3; clear n0 n1 n2 n3 n4; have cl1 := pw_cell_below HB.out CL1.out; have pc := portCellAt HR.out k hkl HP.out))
      have HSM2 := Bx.mk (HSM.out.set k b hkl hl4 HO.out.2)
      have HST := Bx.mk (fun (h : at_ < k) => idx_stay ps lv k b hkl HO.out.2 (by rw [← HAT.out hlen]; exact h))
      rw [← HP.out] at HSM2 HST
      have HATX := Bx.mk (HAT.out hlen)
      obtain ⟨us2, hus2⟩ : ∃ u, u = us.set k b := ⟨_, rfl⟩
      obtain ⟨lv2, hlv2⟩ : ∃ f, f = upd lv p b := ⟨_, rfl⟩
      have k4 : (k : Int) < 4 := by omega
      obtain ⟨uc, uf⟩ := ownCellB HU.out HSM.out.1 k (by omega)
      have n0 := Bx.mk (GA.upSet HG.out HU.out k (.bool b))
      have n1 := Bx.mk (portsUpSet HR.out HU.out k (.bool b))
      have n2 := Bx.mk (ownPutB HU.out HSM.out.1 k b)
      have n3 := Bx.mk (HB.out.setCell (upBlock HU.out).1 (.bool b) (p := ⟨ub, k, none⟩))
      have n4 := Bx.mk (show w.heap.size ≤ (w5.setCell ⟨ub, k, none⟩ (.bool b)).heap.size by simp [World.setCell]; exact HS.out)
      rw [← hlv2] at n0 HSM2 HST
      rw [← hus2] at n2 HSM2
      clear HG HR HU HB HS HSM HAT cl1 pc hlv2 hus2
      go_wp2_with fail
      obtain ⟨wx, hwx⟩ : ∃ wx, wx = w5.setCell ⟨ub, k, none⟩ (.bool b) := ⟨_, rfl⟩
      rw [← hwx]
      rw [← hwx] at n0 n1 n2 n3 n4
      clear hwx uc uf CL0 CL1
      have HG := n0
      have HR := n1
      have HU := n2
      have HB := n3
      have HS := n4
      clear n0 n1 n2 n3 n4
      go_loop [14] (fun v => ∃ tt : Nat, tt ≤ ps.length ∧ v = .int .i64 tt ∧ Bx (∀ i, i < tt → lv2 (ps.getD i 0) = false)) (fun v => ps.length - (intOf v).toNat)
      case atStart => exact ⟨0, by omega, rfl, ⟨fun i hi => absurd hi (by omega)⟩⟩
      case round =>
        obtain ⟨tt, htt, rfl, HT⟩ := hrel
        by_cases h : tt < ps.length
        · have t0 : (0 : Int) ≤ (tt : Int) := by omega
          have t1 : (tt : Int) < (ps.length : Int) := by omega
          have t4 : (tt : Int) < 4 := by omega
          have uct := (ownCellB HU.out HSM2.out.1 tt (by omega)).1
          have HE := Bx.mk (HSM2.out.2 tt h)
          cases hl : lv2 (ps.getD tt 0)
          · rw [HE.out, hl] at uct
            have HN := Bx.mk (show ∀ i, i < tt + 1 → lv2 (ps.getD i 0) = false from fun i hi => by
              rcases Nat.lt_or_eq_of_le (Nat.le_of_lt_succ hi) with h1 | h1
              · exact HT.out i h1
              · rw [h1]; exact hl)
            clear hl
            go_wp2
            go_round
            case rel => exact ⟨tt + 1, by omega, by go_num, HN⟩
            case measure => simp [intOf]; omega
          · rw [HE.out, hl] at uct
            have tc := portCellAt HR.out tt h rfl
            obtain ⟨ef, ev⟩ := idx_at ps lv2 tt h HT.out hl
            obtain ⟨pt, hpt⟩ : ∃ pt, pt = ps.getD tt 0 := ⟨_, rfl⟩
            rw [← hpt] at tc ev
            have HF1 := Bx.mk (show (firstV ps lv2).1 = pt by rw [ev])
            have HF2 := Bx.mk (show (firstV ps lv2).2 = true by rw [ev])
            have HFI := Bx.mk ef
            clear hl hpt ef ev
            by_cases hka : at_ < k
            · have ett : tt = at_ := by rw [← HFI.out, HST.out hka, ← HATX.out]
              subst ett
              have a1 : (tt : Int) < (k : Int) := by omega
              go_wp2_with (go_at_call 12; (with_reducible refine (first_c g w.heap.size ps (inL ps) lv2 _ ?hg (HO.out.fit _) (by omega)).mono ?_); (case hg => exact HG.out); rw [HF1.out, HF2.out]; rintro e w7 ⟨rfl, hd⟩; obtain ⟨nd7, rfl⟩ := hd.out; clear hd)
              clear tc
              go_loopw [17] (fun v wr => ∃ n : Nat, n ≤ ps.length ∧ v = .int .i64 n ∧ Drawn0 wx wr) (fun v _ => ps.length - (intOf v).toNat)
              case atStart => exact ⟨0, by omega, rfl, ⟨⟨_, rfl⟩⟩⟩
              case round =>
                obtain ⟨n, hn, rfl, ⟨⟨nd, rfl⟩⟩⟩ := hrel
                by_cases h : n < ps.length
                · have n0 : (0 : Int) ≤ (n : Int) := by omega
                  have n1 : (n : Int) < (ps.length : Int) := by omega
                  have n4 : (n : Int) < 4 := by omega
                  have pcn := portCellAt HR.out n h rfl
                  have ucn := (ownCellB HU.out HSM2.out.1 n (by omega)).1
                  obtain ⟨pn, hpn⟩ : ∃ pn, pn = ps.getD n 0 := ⟨_, rfl⟩
                  have HE := Bx.mk (up_same HSM2.out h)
                  rw [← hpn] at pcn HE
                  clear hpn
                  generalize us2.getD n false = un at ucn HE
                  go_wp2_with fail
                  go_region_held3 (fun w' => w'.cell? (adp.add n) = some (.int .i64 pn) ∧ w'.cell? ⟨ub, n, none⟩ = some (.bool un)) (first | exact ⟨pcn, ucn⟩ | go_keep) (first | (go_at_call 16; (with_reducible refine (up_c g w.heap.size ps (inL ps) lv2 _ _ ?hg (HO.out.fit _)).mono ?_); (case hg => exact HG.out); rw [HE.out]; rintro e w8 ⟨rfl, hd⟩; obtain ⟨nd8, rfl⟩ := hd.out; clear hd))
                  go_wp2
                  go_roundw
                  case rel => exact ⟨n + 1, by omega, by go_num, ⟨⟨_, rfl⟩⟩⟩
                  case measure => simp [intOf]; omega
                · go_wp2
                  go_roundw
                  case rel => exact ⟨j + 1, tt, lv2, us2, by omega, by go_num, rfl, ⟨fun _ => HFI.out.symm⟩, HSM2, ⟨HG.out⟩, ⟨HR.out⟩, ⟨HU.out⟩, ⟨pw_below_drewN HB.out _⟩, ⟨HS.out⟩⟩
                  case measure => simp [intOf]; omega
            · have a1 : ¬ (at_ : Int) < (k : Int) := by omega
              go_wp2_with (go_at_call 12; (with_reducible refine (first_c g w.heap.size ps (inL ps) lv2 _ ?hg (HO.out.fit _) (by omega)).mono ?_); (case hg => exact HG.out); rw [HF1.out, HF2.out]; rintro e w7 ⟨rfl, hd⟩; obtain ⟨nd7, rfl⟩ := hd.out; clear hd)
              clear tc
              go_loopw [17] (fun v wr => ∃ n : Nat, n ≤ ps.length ∧ v = .int .i64 n ∧ Drawn0 wx wr) (fun v _ => ps.length - (intOf v).toNat)
              case atStart => exact ⟨0, by omega, rfl, ⟨⟨_, rfl⟩⟩⟩
              case round =>
                obtain ⟨n, hn, rfl, ⟨⟨nd, rfl⟩⟩⟩ := hrel
                by_cases h : n < ps.length
                · have n0 : (0 : Int) ≤ (n : Int) := by omega
                  have n1 : (n : Int) < (ps.length : Int) := by omega
                  have n4 : (n : Int) < 4 := by omega
                  have pcn := portCellAt HR.out n h rfl
                  have ucn := (ownCellB HU.out HSM2.out.1 n (by omega)).1
                  obtain ⟨pn, hpn⟩ : ∃ pn, pn = ps.getD n 0 := ⟨_, rfl⟩
                  have HE := Bx.mk (up_same HSM2.out h)
                  rw [← hpn] at pcn HE
                  clear hpn
                  generalize us2.getD n false = un at ucn HE
                  go_wp2_with fail
                  go_region_held3 (fun w' => w'.cell? (adp.add n) = some (.int .i64 pn) ∧ w'.cell? ⟨ub, n, none⟩ = some (.bool un)) (first | exact ⟨pcn, ucn⟩ | go_keep) (first | (go_at_call 16; (with_reducible refine (up_c g w.heap.size ps (inL ps) lv2 _ _ ?hg (HO.out.fit _)).mono ?_); (case hg => exact HG.out); rw [HE.out]; rintro e w8 ⟨rfl, hd⟩; obtain ⟨nd8, rfl⟩ := hd.out; clear hd))
                  go_wp2
                  go_roundw
                  case rel => exact ⟨n + 1, by omega, by go_num, ⟨⟨_, rfl⟩⟩⟩
                  case measure => simp [intOf]; omega
                · go_wp2
                  go_roundw
                  case rel => exact ⟨j + 1, tt, lv2, us2, by omega, by go_num, rfl, ⟨fun _ => HFI.out.symm⟩, HSM2, ⟨HG.out⟩, ⟨HR.out⟩, ⟨HU.out⟩, ⟨pw_below_drewN HB.out _⟩, ⟨HS.out⟩⟩
                  case measure => simp [intOf]; omega
        · obtain rfl : tt = ps.length := by omega
          obtain ⟨ef, ev⟩ := idx_no ps lv2 HT.out
          have HF1 := Bx.mk (show (firstV ps lv2).1 = 0 by rw [ev])
          have HF2 := Bx.mk (show (firstV ps lv2).2 = false by rw [ev])
          have HFI := Bx.mk ef
          clear ef ev
          have tc : True := trivial
          by_cases hka : at_ < k
          · have ett : ps.length = at_ := by rw [← HFI.out, HST.out hka, ← HATX.out]
            omega
          · have a1 : ¬ (at_ : Int) < (k : Int) := by omega
            go_wp2_with (go_at_call 12; (with_reducible refine (first_c g w.heap.size ps (inL ps) lv2 _ ?hg (HO.out.fit _) (by omega)).mono ?_); (case hg => exact HG.out); rw [HF1.out, HF2.out]; rintro e w7 ⟨rfl, hd⟩; obtain ⟨nd7, rfl⟩ := hd.out; clear hd)
            clear tc
            go_loopw [17] (fun v wr => ∃ n : Nat, n ≤ ps.length ∧ v = .int .i64 n ∧ Drawn0 wx wr) (fun v _ => ps.length - (intOf v).toNat)
            case atStart => exact ⟨0, by omega, rfl, ⟨⟨_, rfl⟩⟩⟩
            case round =>
              obtain ⟨n, hn, rfl, ⟨⟨nd, rfl⟩⟩⟩ := hrel
              by_cases h : n < ps.length
              · have n0 : (0 : Int) ≤ (n : Int) := by omega
                have n1 : (n : Int) < (ps.length : Int) := by omega
                have n4 : (n : Int) < 4 := by omega
                have pcn := portCellAt HR.out n h rfl
                have ucn := (ownCellB HU.out HSM2.out.1 n (by omega)).1
                obtain ⟨pn, hpn⟩ : ∃ pn, pn = ps.getD n 0 := ⟨_, rfl⟩
                have HE := Bx.mk (up_same HSM2.out h)
                rw [← hpn] at pcn HE
                clear hpn
                generalize us2.getD n false = un at ucn HE
                go_wp2_with fail
                go_region_held3 (fun w' => w'.cell? (adp.add n) = some (.int .i64 pn) ∧ w'.cell? ⟨ub, n, none⟩ = some (.bool un)) (first | exact ⟨pcn, ucn⟩ | go_keep) (first | (go_at_call 16; (with_reducible refine (up_c g w.heap.size ps (inL ps) lv2 _ _ ?hg (HO.out.fit _)).mono ?_); (case hg => exact HG.out); rw [HE.out]; rintro e w8 ⟨rfl, hd⟩; obtain ⟨nd8, rfl⟩ := hd.out; clear hd))
                go_wp2
                go_roundw
                case rel => exact ⟨n + 1, by omega, by go_num, ⟨⟨_, rfl⟩⟩⟩
                case measure => simp [intOf]; omega
              · go_wp2
                go_roundw
                case rel => exact ⟨j + 1, ps.length, lv2, us2, by omega, by go_num, rfl, ⟨fun _ => HFI.out.symm⟩, HSM2, ⟨HG.out⟩, ⟨HR.out⟩, ⟨HU.out⟩, ⟨pw_below_drewN HB.out _⟩, ⟨HS.out⟩⟩
                case measure => simp [intOf]; omega
    · clear HU HSM HAT
      by_cases hjn : j < n1
      · have h1 : (j : Int) < (n1 : Int) := by omega
        by_cases hj1 : j < 100
        · have h2 : (j : Int) < 100 := by omega
          have h3 : ¬ (0 : Int) < (ps.length : Int) := by omega
          clear hgo
          go_wp2_with fail
          refine (ports_c g w.heap.size ps (inL ps) lv wr HG.out (by omega)).mono ?_
          rintro e w9 ⟨v9, rfl, hr9, hb9⟩
          obtain ⟨A3, c3, rfl, hc3, hC3⟩ := Kd.R_reads hr9
          have HC3 := Bx.mk hC3
          have n0 := Bx.mk (Kd.R_below HR.out hb9)
          have n1 := Bx.mk (next HB.out HS.out hb9)
          have n2 := Bx.mk (Nat.le_trans HS.out hb9.size)
          clear hr9 hb9 hC3
          go_wp2_with fail
          refine (eq_c A3 A7 c3 c7 ps w9 HC3.out hc3 (readsOf n0.out) hc7 (by omega)).mono ?_
          rintro e w10 ⟨rfl, hb10⟩
          have n3 := Bx.mk (next n1.out n2.out hb10)
          clear hb10
          go_wp2
          go_ret
          exact ⟨rfl, n3.out⟩
        · have h2 : ¬ (j : Int) < 100 := by omega
          clear hgo
          go_wp2_with fail
          refine (ports_c g w.heap.size ps (inL ps) lv wr HG.out (by omega)).mono ?_
          rintro e w9 ⟨v9, rfl, hr9, hb9⟩
          obtain ⟨A3, c3, rfl, hc3, hC3⟩ := Kd.R_reads hr9
          have HC3 := Bx.mk hC3
          have n0 := Bx.mk (Kd.R_below HR.out hb9)
          have n1 := Bx.mk (next HB.out HS.out hb9)
          have n2 := Bx.mk (Nat.le_trans HS.out hb9.size)
          clear hr9 hb9 hC3
          go_wp2_with fail
          refine (eq_c A3 A7 c3 c7 ps w9 HC3.out hc3 (readsOf n0.out) hc7 (by omega)).mono ?_
          rintro e w10 ⟨rfl, hb10⟩
          have n3 := Bx.mk (next n1.out n2.out hb10)
          clear hb10
          go_wp2
          go_ret
          exact ⟨rfl, n3.out⟩
      · have h1 : ¬ (j : Int) < (n1 : Int) := by omega
        clear hgo
        go_wp2_with fail
        refine (ports_c g w.heap.size ps (inL ps) lv wr HG.out (by omega)).mono ?_
        rintro e w9 ⟨v9, rfl, hr9, hb9⟩
        obtain ⟨A3, c3, rfl, hc3, hC3⟩ := Kd.R_reads hr9
        have HC3 := Bx.mk hC3
        have n0 := Bx.mk (Kd.R_below HR.out hb9)
        have n1 := Bx.mk (next HB.out HS.out hb9)
        have n2 := Bx.mk (Nat.le_trans HS.out hb9.size)
        clear hr9 hb9 hC3
        go_wp2_with fail
        refine (eq_c A3 A7 c3 c7 ps w9 HC3.out hc3 (readsOf n0.out) hc7 (by omega)).mono ?_
        rintro e w10 ⟨rfl, hb10⟩
        have n3 := Bx.mk (next n1.out n2.out hb10)
        clear hb10
        go_wp2
        go_ret
        exact ⟨rfl, n3.out⟩
end Go.Proofs.Ytcfojkejajanlaa.Base
