/- Layer 13: the document's items, Fresh, Again, by their contracts. -/
import Derived.Test.YtbglagllgppggaaRput
import Derived.Test.YtbglagllgppggaaRheard
set_option linter.unusedVariables false
set_option linter.unusedSimpArgs false
namespace Go.Proofs.Ytbglagllgppggaa.Base
open Go.RowKit Go.Proofs.YtbglagllgppggaaW.PrintWords Go.Proofs.YtbglagllgppggaaW.PrintLast Go.Proofs.YtbglagllgppggaaW.PrintMore
open Go.Proofs.Ytbglagllgppggaa.Comm Go.Proofs.Ytbglagllgppggaa.PSenderPlays

theorem rplus_c (nx : Int) (i : Nat) (w : World) (h0 : 0 ≤ nx) (h1 : nx ≤ 65535) (hi : i ≤ 512) : Calls Try.prog 38 #[.int .i64 nx, .int .i64 (i : Int)] w fun e w' => e = .returned (.int .i64 ((nx + i) % 65536)) ∧ Drawn0 w w' :=
  catenaryref02_Plus.calls nx i ((nx + i) % 65536) w (by
    unfold catenaryref02_Plus.f
    rw [bringF _ _ (by decide) (by decide), Option.bind_some]
    have hi2 : (i : Int) % 65536 = i := by omega
    rw [hi2, w64 (by omega), Int.tmod_eq_emod_of_nonneg (by omega)])
section
variable {B : Nat} {M : Nat → Prop} {w w' : World} {r W : Nat} {nx : Int} {ms : List (List Int)} {sd al : Nat}
set_option maxRecDepth 100000 in
set_option maxHeartbeats 4000000 in
theorem ritems_c (a n : Nat) (h : RA B M w r W nx ms sd al) (hn : a + n ≤ ms.length) (h4 : n ≤ 4) :
    Calls Try.prog 36 #[.pointer (some ⟨r, 0, none⟩), .int .i64 (a : Int), .int .i64 ((a + n : Nat) : Int)] w fun e w' => ∃ v, e = .returned v ∧ k35.R 35 w' w.heap.size (fun _ => True) v (items nx ms a n) ∧ Below w.heap.size w w' := by
  have H := Bx.mk h
  have HN := Bx.mk (And.intro hn (And.intro h4 h.m5))
  obtain ⟨e, he⟩ : ∃ e, e = a + n := ⟨_, rfl⟩
  rw [← he]
  have HE := Bx.mk he
  clear h hn h4 he
  go_enter Try.func36, Try.ntmps36
  go_wp2_with fail
  go_loopw [7, 8] (fun v7 v8 wr => ∃ k : Nat, k ≤ n ∧ v8 = .int .i64 ((a + k : Nat) : Int) ∧ Bx (k35.R 35 wr w.heap.size (fun _ => True) v7 (items nx ms a k)) ∧ Bx (Below w.heap.size w wr)) (fun _ v _ => e - (intOf v).toNat)
  case atStart => exact ⟨0, by omega, by simp, ⟨Kd.R_nil _ _ _ _ _⟩, ⟨Below.refl _ _⟩⟩
  case round =>
    obtain ⟨k, hk, rfl, HR, HB⟩ := hrel
    have hlen := items_len nx ms a k
    obtain ⟨xs, hxs⟩ : ∃ xs, xs = items nx ms a k := ⟨_, rfl⟩
    rw [← hxs] at HR hlen
    obtain ⟨j, hj⟩ : ∃ j, j = a + k := ⟨_, rfl⟩
    rw [← hj]
    have HX := Bx.mk hxs
    have HXL := Bx.mk hlen
    have HJ := Bx.mk hj
    clear hxs hlen
    obtain ⟨A3, c3, rfl, hc3, hC3⟩ := Kd.R_reads HR.out
    clear hc3 hC3
    by_cases hks : k < n
    · have k0 : (0 : Int) ≤ (j : Int) := by omega
      have k1 : (j : Int) < (e : Int) := by have := HE.out; omega
      have k2 : (j : Int) < (ms.length : Int) := by have := HN.out; omega
      have HK := Bx.mk (show k < n ∧ j < ms.length by have := HN.out; omega)
      obtain ⟨A2, cc, hg, hQ, hl, hC2, c0, c1, c2, c3', c4⟩ := H.out.cells
      obtain ⟨ad, A', c', rfl, ci, hlc, hCm⟩ := rowCell hC2 j HK.out.2
      have hm := H.out.hm ms[j] (List.getElem_mem HK.out.2)
      have hme : ms.getD j [] = ms[j]'(HK.out.2) := by simp [List.getD, HK.out.2]
      obtain ⟨sq, hsq⟩ : ∃ sq, sq = (nx + (j : Int)) % 65536 := ⟨_, rfl⟩
      have hpl : ∀ w, Calls Try.prog 38 #[.int .i64 nx, .int .i64 (j : Int)] w fun e w' => e = .returned (.int .i64 sq) ∧ Drawn0 w w' := fun w => by
        rw [hsq]; exact rplus_c nx j w H.out.n0 H.out.n1 (by have h1 := HN.out.2.2; have h2 := HK.out.2; omega)
      obtain ⟨m, hmm⟩ : ∃ m, m = ms[j]'(HK.out.2) := ⟨_, rfl⟩
      rw [← hmm] at ci hlc hCm hm hme
      have HMM := Bx.mk (And.intro hme hsq)
      have HM := Bx.mk hm
      have HCM := Bx.mk (Kd.C_below hCm HB.out)
      have HLC := Bx.mk hlc
      have HPL := Bx.mk hpl
      have HBS := Bx.mk HB.out.size
      have D := Bx.mk (And.intro c1 (And.intro c2 ci))
      have c1 := pw_cell_below HB.out c1
      have c2 := pw_cell_below HB.out c2
      have ci := pw_cell_below HB.out ci
      clear hks hk hj hg hQ hl hC2 c0 c3' c4 hm hme hsq hpl hmm hCm hlc
      go_wp2_with fail
      go_region_held3 (fun w' => w'.cell? ⟨r, 1, none⟩ = some (.int .i64 nx) ∧ w'.cell? ⟨r, 2, none⟩ = some (.slice (some ad) ms.length cc) ∧ w'.cell? (ad.add j) = some (.slice A' m.length c')) (first | exact ⟨c1, c2, ci⟩ | go_keep) (first | ((refine Kd.R_append_step k35 (w0 := w) (W := _) w.heap.size (by rfl) (.tmp 15) (.tmp 31) 32 35 (.agg #[.int .i64 0, .slice none 0 0]) 32 rfl Try.underlying32 info35 rfl (by decide) (by omega) (.slice A3 xs.length c3) xs ⟨sq, m⟩ [.int .i64 sq, .slice A4 m.length c4] (fun _ => True) (fun j => wr.heap.size ≤ j) rfl rfl ?aP ?aK ?aF ?aQ ?aB ?aS ?aL ?_); (case aP => exact k35_mkM _ _ _ ⟨sq, m⟩ (Kd.R_mono (Kd.R_lower (Kd.R_bound (by first | exact n0.out | exact Kd.R_drewN n0.out _ | exact Kd.R_drewN (Kd.R_drew n0.out) _)) HBS.out) (fun j hj => hj.2.1))); (case aK => exact fun j hj => ⟨trivial, fun e => by have := Kd.R_lt HR.out j e.symm; omega⟩); (case aF => exact fun _ _ => trivial); (case aQ => first | exact Kd.R_below HR.out n1.out | exact Kd.R_drewN (Kd.R_below HR.out n1.out) _ | exact Kd.R_drewN (Kd.R_drew (Kd.R_below HR.out n1.out)) _); (case aB => first | exact HB.out.trans (n1.out.mono HBS.out) | exact pw_below_drewN (HB.out.trans (n1.out.mono HBS.out)) _); (case aS => exact Nat.le_trans HBS.out n1.out.size); (case aL => have h1 := HXL.out; have h2 := HK.out; have h3 := HN.out; omega); intro v1 w3 ho hb hg hat; have m0 := Bx.mk ho; have m1 := Bx.mk hb; have c1' := pw_cell_below hb D.out.1; have c2' := pw_cell_below hb D.out.2.1; have ci' := pw_cell_below hb D.out.2.2; clear ho hb hg hat c1 c2 ci; have c1 := c1'; have c2 := c2'; have ci := ci'; clear c1' c2' ci') | (go_at_call 38; (with_reducible refine (HPL.out _).mono ?_); rintro e w2 ⟨rfl, hd⟩; obtain ⟨nd, rfl⟩ := hd.out; clear hd) | (go_at_call 28; (with_reducible refine (copy_c A' c' m _ ?hc HLC.out ?hl).mono ?_); (case hc => first | exact Kd.C_drewN (Kd.C_drew HCM.out) _ | exact Kd.C_drewN HCM.out _ | exact HCM.out); (case hl => have := HM.out; omega); rintro e w2 ⟨v, rfl, hr, hb'⟩; obtain ⟨A4, c4, rfl, hc4, hC4⟩ := Kd.R_reads hr; clear hC4; have hb : Below wr.heap.size wr w2 := ⟨hb'.os, hb'.tape, hb'.output, hb'.size, hb'.block⟩; have n0 := Bx.mk hr; have n1 := Bx.mk hb; have c1' := pw_cell_below hb c1; have c2' := pw_cell_below hb c2; have ci' := pw_cell_below hb ci; clear hr hb hb' c1 c2 ci; have c1 := c1'; have c2 := c2'; have ci := ci'; clear c1' c2' ci'))
      clear c1 c2 ci
      go_wp2_with fail
      rw [show wrap64 ((j : Int) + 1) = ((a + (k + 1) : Nat) : Int) from by have h1 := HK.out; have h2 := HN.out; have h3 := HJ.out; unfold wrap64; omega]
      go_roundw
      case rel =>
        refine ⟨k + 1, by have := HK.out; omega, rfl, ⟨?_⟩, m1⟩
        rw [items_succ, ← HX.out, ← HJ.out, HMM.out.1, ← HMM.out.2]
        exact m0.out
      case measure => have h1 := HK.out; have h2 := HE.out; have h3 := HJ.out; simp only [intOf]; omega
    · obtain rfl : k = n := by omega
      have k1 : ¬ (j : Int) < (e : Int) := by have h1 := HE.out; have h2 := HJ.out; omega
      go_wp2_with fail
      go_ret
      exact ⟨_, rfl, by rw [← HX.out]; exact HR.out, HB.out⟩
theorem ragain_c (h : RA B M w r W nx ms sd al) :
    Calls Try.prog 32 #[.pointer (some ⟨r, 0, none⟩)] w fun e w' => ∃ v, e = .returned v ∧ k35.R 35 w' w.heap.size (fun _ => True) v (items nx ms 0 sd) ∧ Below w.heap.size w w' := by
  obtain ⟨_, _, _, _, _, _, c0, c1, c2, c3, c4⟩ := h.cells
  have hit := ritems_c 0 sd h (by have := h.s2; omega) (Nat.le_trans h.s1 h.w4)
  rw [Nat.zero_add] at hit
  have HI := Bx.mk hit
  clear h hit c0 c1 c2 c4
  go_enter Try.func32, Try.ntmps32
  go_wp2_with fail
  refine HI.out.mono ?_
  rintro e w1 ⟨v, rfl, hr, hb⟩
  have n0 := Bx.mk hr
  have n1 := Bx.mk hb
  clear hr hb HI c3
  go_wp2_with fail
  go_ret
  exact ⟨_, rfl, n0.out, n1.out⟩
set_option maxRecDepth 100000 in
set_option maxHeartbeats 4000000 in
theorem rfresh_c (h : RA B M w r W nx ms sd al) :
    Calls Try.prog 31 #[.pointer (some ⟨r, 0, none⟩)] w fun e w' => ∃ v, e = .returned v ∧ k35.R 35 w' w.heap.size (fun _ => True) v (items nx ms sd (min W ms.length - sd)) ∧ RA B M w' r W nx ms (min W ms.length) al ∧ Fr (fun j => j = r) w w' := by
  obtain ⟨A2, cc, hg, hQ, hl, hC2, c0, c1, c2, c3, c4⟩ := h.cells
  have f3 : w.frozen? ⟨r, 3, none⟩ = false := frozen_of_row w r 3 _ _ hg
  have H := Bx.mk h
  have HG := Bx.mk hg
  have HQ := Bx.mk hQ
  clear h hg hQ hl hC2 c1 c4
  go_enter Try.func31, Try.ntmps31
  go_wp2_with fail
  go_region
  have hmin : (if ms.length < W then (ms.length : Int) else (W : Int)) = ((min W ms.length : Nat) : Int) := by split <;> omega
  rw [hmin]
  obtain ⟨q, hq⟩ : ∃ q, q = min W ms.length := ⟨_, rfl⟩
  rw [← hq]
  have HQ1 := Bx.mk (show q ≤ W ∧ q ≤ ms.length ∧ sd ≤ q by have h1 := H.out.s1; have h2 := H.out.s2; omega)
  have HQE := Bx.mk hq
  clear c0 c2 c3 f3 hmin hq
  have hs1 := set_cells HG.out (i := 3) (u := .int .i64 (q : Int)) (ds := #[.int .i64 (W : Int), .int .i64 nx, .slice A2 ms.length cc, .int .i64 (q : Int), .int .i64 (al : Int)]) rfl
  have hM3 : Fr (fun j => j = r) w (w.setCell ⟨r, 3, none⟩ (.int .i64 (q : Int))) := Fr.set (fun j => j = r) w r 3 _ rfl
  have hQ5 := Kd.Q_far (p := ⟨r, 3, none⟩) HQ.out (fun k hk e => H.out.mr (by have e' : k = r := e; rw [← e']; exact hk)) (.int .i64 (q : Int))
  have hRA : RA B M (w.setCell ⟨r, 3, none⟩ (.int .i64 (q : Int))) r W nx ms q al := { H.out with hr := ⟨_, hs1, hQ5⟩, s1 := HQ1.out.1, s2 := HQ1.out.2.1 }
  have HRA := Bx.mk (hRA.below (w' := (w.setCell ⟨r, 3, none⟩ (.int .i64 (q : Int))).drew) (below_drew (Below.refl _ _)))
  have HF : Bx (Fr (fun j => j = r) w (w.setCell ⟨r, 3, none⟩ (.int .i64 (q : Int))).drew) := ⟨hM3.trans (Fr.of_below (below_drew (Below.refl _ _)))⟩
  clear hs1 hM3 hQ5 hRA
  generalize (w.setCell ⟨r, 3, none⟩ (.int .i64 (q : Int))).drew = w1 at *
  obtain ⟨_, _, _, _, _, _, _, _, _, c3, _⟩ := HRA.out.cells
  have hit := ritems_c sd (q - sd) HRA.out (by have := HQ1.out; omega) (by have h1 := HQ1.out; have h2 := H.out.w4; omega)
  rw [show sd + (q - sd) = q by have := HQ1.out; omega] at hit
  have HI := Bx.mk hit
  clear hit
  go_wp2_with fail
  refine HI.out.mono ?_
  rintro e w2 ⟨v, rfl, hr, hb⟩
  have n0 := Bx.mk (Kd.R_lower hr HF.out.size)
  have n1 := Bx.mk (HRA.out.below hb)
  have n2 := Bx.mk (HF.out.trans (Fr.of_below hb))
  clear hr hb HI c3
  go_wp2_with fail
  go_ret
  rw [← HQE.out]
  exact ⟨_, rfl, n0.out, n1.out, n2.out⟩
end
end Go.Proofs.Ytbglagllgppggaa.Base
