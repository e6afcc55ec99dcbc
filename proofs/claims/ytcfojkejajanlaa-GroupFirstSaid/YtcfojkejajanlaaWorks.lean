/- Layer 10: the chapter's groups ('works'), by its contract. -/
import Derived.Test.YtcfojkejajanlaaRnew
set_option linter.unusedVariables false
set_option linter.unusedSimpArgs false
namespace Go.Proofs.Ytcfojkejajanlaa.Base
open Go.RowKit Go.Proofs.YtcfojkejajanlaaW.PrintWords Go.Proofs.YtcfojkejajanlaaW.PrintLast Go.Proofs.YtcfojkejajanlaaW.PrintMore Go.Proofs.Ytcfojkejajanlaa.PGroupPlays

theorem new_ok (c : Nat) (a : Addr) (ps : List Int) (w : World) (hC : (Kd.int .i64).C w (some a) ps.length ps) (hl : ps.length ≤ 1000) (ho : okP ps) :
    Calls Try.prog 7 #[.slice (some a) ps.length c] w fun e w' => ∃ g, e = .returned (.tuple #[.pointer (some ⟨g, 0, none⟩), .int .i64 0]) ∧ GA w' w.heap.size g ps (inL ps) (inL ps) ∧ Below w.heap.size w w' :=
  (new_some c a ps w hC hl).mono fun e w' h => by
    rcases h with ⟨_, h⟩ | ⟨hn, _⟩
    · exact h
    · exact absurd ho hn
theorem new_bad (c : Nat) (a : Addr) (ps : List Int) (w : World) (hC : (Kd.int .i64).C w (some a) ps.length ps) (hl : ps.length ≤ 1000) (ho : ¬ okP ps) :
    Calls Try.prog 7 #[.slice (some a) ps.length c] w fun e w' => e = .returned (.tuple #[.pointer none, .int .i64 2]) ∧ Below w.heap.size w w' :=
  (new_some c a ps w hC hl).mono fun e w' h => by
    rcases h with ⟨hn, _⟩ | ⟨_, h⟩
    · exact absurd hn ho
    · exact h
theorem new_none (w : World) :
    Calls Try.prog 7 #[.slice none 0 0] w fun e w' => ∃ g, e = .returned (.tuple #[.pointer (some ⟨g, 0, none⟩), .int .i64 0]) ∧ GA w' w.heap.size g [] (inL []) (inL []) ∧ Below w.heap.size w w' :=
  (new_nil w).mono fun e w' h => by
    rcases h with ⟨_, h⟩ | ⟨hn, _⟩
    · exact h
    · exact absurd okP_nil hn
theorem okP.fit {ps : List Int} (h : okP ps) (lv : Int → Bool) : Fit ps (inL ps) lv := ⟨h.1, fun _ _ _ => rfl⟩
theorem live_c (g B : Nat) (ps : List Int) (lv : Int → Bool) (p : Int) (b : Bool) (w : World) (hG : GA w B g ps (inL ps) lv) (hP : okP ps) (hp : p ∈ ps) :
    Calls Try.prog 10 #[.pointer (some ⟨g, 0, none⟩), .int .i64 p, .bool b] w fun e w' => e = .returned (.int .i64 0) ∧ GA w' B g ps (inL ps) (upd lv p b) ∧ Only g w w' := by
  cases b
  · exact live_down g B ps _ lv p w hG (hP.fit lv) hp
  · exact live_up g B ps _ lv p w hG (hP.fit lv) hp
theorem litC (w : World) (xs : List Int) (b : Nat) (hb : w.heap[b]? = some (.cells (xs.map (Value.int .i64)).toArray 3 (0, 0))) (hl : xs.length ≤ 1000) : (Kd.int .i64).C w (some ⟨b, 0, none⟩) xs.length xs := by
  refine Kd.C_of_reads (d := (0 : Int)) (h1 := fun _ => rfl) ⟨rfl, by omega, fun _ => ⟨_, rfl, ?_⟩⟩
  intro j hj
  rw [add_plain, blk_cell hb]
  simp [hj]
set_option maxHeartbeats 400000 in
theorem first_yes (g B : Nat) (ps : List Int) (lv : Int → Bool) (want : Int) (y : Bool) (w : World) (hG : GA w B g ps (inL ps) lv) (hP : okP ps) (hl : ps.length ≤ 1000) (hv : firstV ps lv = (want, y)) (hy : (y == decide (0 < want)) = true) :
    Calls Try.prog 25 #[.pointer (some ⟨g, 0, none⟩), .int .i64 want] w fun e w' => e = .returned (.bool true) ∧ Drawn0 w w' := by
  have HG := Bx.mk hG
  have HP := Bx.mk hP
  have e0 := Bx.mk (show (firstV ps lv).1 = want by rw [hv])
  have e1 := Bx.mk (show (firstV ps lv).2 = y by rw [hv])
  clear hG hP hv
  go_enter Try.func25, Try.ntmps25
  go_wp2_with (go_at_call 12; (with_reducible refine (first_c _ B ps _ lv _ ?hg (HP.out.fit lv) hl).mono ?_); (case hg => exact HG.out); rw [e0.out, e1.out]; rintro e w1 ⟨rfl, hd⟩; obtain ⟨nd, rfl⟩ := hd.out)
  go_ret
  exact ⟨rfl, ⟨⟨_, rfl⟩⟩⟩
theorem Only.belowD {B g : Nat} {w0 w w' : World} (h : Only g w w') (hb : Below B w0 w) (hB : B ≤ w.heap.size) (hg : B ≤ g) : Below B w0 w' ∧ B ≤ w'.heap.size := ⟨h.below hb hB hg, Nat.le_trans hB h.size⟩
theorem GA.lower {w : World} {B B' g : Nat} {ps : List Int} {al lv : Int → Bool} (h : GA w B g ps al lv) (hB : B' ≤ B) : GA w B' g ps al lv := by
  obtain ⟨v, hg, hb, hr⟩ := h
  exact ⟨v, hg, Nat.le_trans hB hb, Kd.R_lower hr hB⟩
theorem GA.ge {w : World} {B g : Nat} {ps : List Int} {al lv : Int → Bool} (h : GA w B g ps al lv) : B ≤ g := by obtain ⟨v, _, h, _⟩ := h; exact h
theorem f1 : firstV [3, 1] (inL [3, 1]) = (3, true) := by decide
theorem f2 : firstV [3, 1] (upd (inL [3, 1]) 3 false) = (1, true) := by decide
theorem f3 : firstV [3, 1] (upd (upd (inL [3, 1]) 3 false) 1 false) = (0, false) := by decide
theorem f4 : firstV [3, 1] (upd (upd (upd (inL [3, 1]) 3 false) 1 false) 3 true) = (3, true) := by decide
theorem f5 : firstV [] (inL []) = (0, false) := by decide
theorem u1 : upV [3, 1] (upd (upd (upd (inL [3, 1]) 3 false) 1 false) 3 true) 1 = false := by decide
theorem ok31 : okP [3, 1] := ⟨by intro p hp; simp at hp; omega, by decide⟩
theorem ok11 : ¬ okP [1, 1] := fun h => by have := h.2; revert this; decide
theorem ok5 : ¬ okP [5] := fun h => by have := h.1 5 (by simp); omega
theorem viaAlloc {w w' : World} {o : Obj} {n : Nat} (h : Below ((w.drewN n).alloc o).heap.size ((w.drewN n).alloc o) w') : Below w.heap.size w w' :=
  ⟨h.os, h.tape, h.output, by have := h.size; simp at this; omega, fun k hk => (h.block k (by simp; omega)).trans (Below.heap_alloc (w.drewN n) o k hk)⟩
theorem viaAlloc0 {w w' : World} {o : Obj} (h : Below (w.alloc o).heap.size (w.alloc o) w') : Below w.heap.size w w' :=
  ⟨h.os, h.tape, h.output, by have := h.size; simp at this; omega, fun k hk => (h.block k (by simp; omega)).trans (Below.heap_alloc w o k hk)⟩
theorem GA.apart {w w' : World} {B B' g x : Nat} {ps ps' : List Int} {al lv al' lv' : Int → Bool} (h : GA w B g ps al lv) (h' : GA w B' x ps' al' lv') (hx : g ≠ x) (hk : ∀ k, k < w.heap.size → k ≠ x → w'.heap[k]? = w.heap[k]?) : GA w' B g ps al lv := by
  obtain ⟨u, hgx, _⟩ := h'
  obtain ⟨v, hg, hB, hr⟩ := h
  refine ⟨v, (hk g (blk_lt hg) hx).trans hg, hB, Kd.R_mono (Kd.R_move (Kd.R_bound hr) ?_) (fun _ _ => trivial)⟩
  rintro k ⟨_, _, hlt, q, hq, cells, hc⟩
  refine hk k hlt ?_
  rintro rfl
  rw [hc] at hgx; injection hgx with hgx; injection hgx with _ hgx
  simp [Kd.int, Kd.scalar] at hq
  rw [hq] at hgx; exact absurd hgx (by decide)
set_option maxHeartbeats 2000000 in
set_option maxRecDepth 100000 in
theorem works_c (w : World) : Calls Try.prog 18 #[] w fun e w' => e = .returned (.bool true) ∧ Below w.heap.size w w' := by
  go_enter Try.func18, Try.ntmps18
  go_wp2_with fail
  refine (new_ok _ _ [3, 1] _ (litC _ [3, 1] _ (heap_alloc_new _ _) (by decide)) (by decide) ok31).mono ?_
  rintro e w1 ⟨g, rfl, hg, hb⟩
  have HG := Bx.mk (hg.lower (B' := w.heap.size) (by simp))
  have HB := Bx.mk (((Below.refl w.heap.size w).alloc (Nat.le_refl _) _).trans (hb.mono (by simp)))
  have HS := Bx.mk (Nat.le_trans (by simp) hb.size : w.heap.size ≤ w1.heap.size)
  have HGE := Bx.mk (Nat.le_trans (by simp) hg.ge : w.heap.size ≤ g)
  clear hg hb
  go_wp2_with fail
  refine (first_yes g w.heap.size [3, 1] _ 3 true _ ?hg1 ok31 (by decide) f1 (by decide)).mono ?_
  case hg1 => exact HG.out
  rintro e w2 ⟨rfl, hd⟩
  obtain ⟨n1, rfl⟩ := hd.out
  clear hd
  go_wp2_with fail
  refine (live_c g w.heap.size [3, 1] (inL [3, 1]) 3 false _ ?hg2 ok31 (by decide)).mono ?_
  case hg2 => exact HG.out
  rintro e w3 ⟨rfl, hg, ho⟩
  have n0 := Bx.mk hg
  have n1 := Bx.mk (Only.below ho (pw_below_drewN HB.out _) HS.out HGE.out)
  have n2 := Bx.mk (Nat.le_trans HS.out ho.size)
  clear HG HB HS hg ho
  have HG := n0
  have HB := n1
  have HS := n2
  clear n0 n1 n2
  go_wp2_with fail
  refine (first_yes g w.heap.size [3, 1] _ 1 true _ ?hg3 ok31 (by decide) f2 (by decide)).mono ?_
  case hg3 => exact HG.out
  rintro e w2 ⟨rfl, hd⟩
  obtain ⟨n3, rfl⟩ := hd.out
  clear hd
  go_wp2_with fail
  refine (live_c g w.heap.size [3, 1] (upd (inL [3, 1]) 3 false) 1 false _ ?hg4 ok31 (by decide)).mono ?_
  case hg4 => exact HG.out
  rintro e w3 ⟨rfl, hg, ho⟩
  have n0 := Bx.mk hg
  have n1 := Bx.mk (Only.below ho (pw_below_drewN HB.out _) HS.out HGE.out)
  have n2 := Bx.mk (Nat.le_trans HS.out ho.size)
  clear HG HB HS hg ho
  have HG := n0
  have HB := n1
  have HS := n2
  clear n0 n1 n2
  go_wp2_with fail
  refine (first_yes g w.heap.size [3, 1] _ 0 false _ ?hg5 ok31 (by decide) f3 (by decide)).mono ?_
  case hg5 => exact HG.out
  rintro e w2 ⟨rfl, hd⟩
  obtain ⟨n5, rfl⟩ := hd.out
  clear hd
  go_wp2_with fail
  refine (new_bad _ _ [1, 1] _ (litC _ [1, 1] _ (heap_alloc_new _ _) (by decide)) (by decide) ok11).mono ?_
  rintro e w4 ⟨rfl, hb⟩
  have n0 := Bx.mk (HG.out.below (viaAlloc hb))
  have n1 := Bx.mk (next HB.out HS.out (viaAlloc hb))
  have n2 := Bx.mk (Nat.le_trans HS.out (viaAlloc hb).size)
  clear HG HB HS hb
  have HG := n0
  have HB := n1
  have HS := n2
  clear n0 n1 n2
  go_wp2_with fail
  refine (new_bad _ _ [5] _ (litC _ [5] _ (heap_alloc_new _ _) (by decide)) (by decide) ok5).mono ?_
  rintro e w5 ⟨rfl, hb⟩
  have n0 := Bx.mk (HG.out.below (viaAlloc0 hb))
  have n1 := Bx.mk (next HB.out HS.out (viaAlloc0 hb))
  have n2 := Bx.mk (Nat.le_trans HS.out (viaAlloc0 hb).size)
  clear HG HB HS hb
  have HG := n0
  have HB := n1
  have HS := n2
  clear n0 n1 n2
  go_wp2_with fail
  refine (new_none _).mono ?_
  rintro e w6 ⟨z, rfl, hz, hb⟩
  have HZ := Bx.mk hz
  have HGZ := Bx.mk (Nat.ne_of_lt (Nat.lt_of_lt_of_le HG.out.lt hz.ge))
  have n0 := Bx.mk (HG.out.below hb)
  have n1 := Bx.mk (next HB.out HS.out hb)
  have n2 := Bx.mk (Nat.le_trans HS.out hb.size)
  clear HG HB HS hb hz
  have HG := n0
  have HB := n1
  have HS := n2
  clear n0 n1 n2
  go_wp2_with fail
  refine (live_no g w.heap.size [3, 1] (inL [3, 1]) (upd (upd (inL [3, 1]) 3 false) 1 false) 2 true _ ?hg8 (okP.fit ok31 _) (by decide)).mono ?_
  case hg8 => exact HG.out
  rintro e w7 ⟨rfl, hd⟩
  obtain ⟨n7, rfl⟩ := hd.out
  clear hd
  go_wp2_with fail
  refine (live_c g w.heap.size [3, 1] (upd (upd (inL [3, 1]) 3 false) 1 false) 3 true _ ?hg9 ok31 (by decide)).mono ?_
  case hg9 => exact HG.out
  rintro e w8 ⟨rfl, hg, ho⟩
  have n3 := Bx.mk (GA.apart (w := w6) HZ.out HG.out (Ne.symm HGZ.out) (fun k hk hne => ho.block k hk hne))
  have n0 := Bx.mk hg
  have n1 := Bx.mk (Only.below ho (pw_below_drewN HB.out _) HS.out HGE.out)
  have n2 := Bx.mk (Nat.le_trans HS.out ho.size)
  clear HG HB HS hg ho HZ
  have HG := n0
  have HB := n1
  have HS := n2
  have HZ := n3
  clear n0 n1 n2 n3
  go_wp2_with fail
  refine (first_yes g w.heap.size [3, 1] _ 3 true _ ?hg10 ok31 (by decide) f4 (by decide)).mono ?_
  case hg10 => exact HG.out
  rintro e w2 ⟨rfl, hd⟩
  obtain ⟨n10, rfl⟩ := hd.out
  clear hd
  go_wp2_with fail
  refine (up_c g w.heap.size [3, 1] (inL [3, 1]) (upd (upd (upd (inL [3, 1]) 3 false) 1 false) 3 true) 1 _ ?hg11 (okP.fit ok31 _)).mono ?_
  case hg11 => exact HG.out
  rw [u1]
  rintro e w2 ⟨rfl, hd⟩
  obtain ⟨n11, rfl⟩ := hd.out
  clear hd
  go_wp2_with fail
  refine (first_yes z w5.heap.size [] _ 0 false _ ?hg12 okP_nil (by decide) f5 (by decide)).mono ?_
  case hg12 => exact HZ.out
  rintro e w2 ⟨rfl, hd⟩
  obtain ⟨n12, rfl⟩ := hd.out
  clear hd
  go_wp2
  go_ret
  exact ⟨rfl, pw_below_drewN HB.out _⟩
end Go.Proofs.Ytcfojkejajanlaa.Base
