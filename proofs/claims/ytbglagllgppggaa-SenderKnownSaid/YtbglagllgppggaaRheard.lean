/- Layer 13: the document's Heard, by its contract. -/
import Derived.Test.YtbglagllgppggaaRef
set_option linter.unusedVariables false
set_option linter.unusedSimpArgs false
namespace Go.Proofs.Ytbglagllgppggaa.Base
open Go.RowKit Go.Proofs.YtbglagllgppggaaW.PrintWords Go.Proofs.YtbglagllgppggaaW.PrintLast Go.Proofs.YtbglagllgppggaaW.PrintMore
open Go.Proofs.Ytbglagllgppggaa.Comm Go.Proofs.Ytbglagllgppggaa.PSenderPlays

theorem bringF (a m : Int) (hm : 0 < m) (hm' : m ≤ 1099511627776) : catenaryref00_Bring.f a m = some (a % m) := by
  unfold catenaryref00_Bring.f
  rw [if_neg (by omega)]
  by_cases h : Int.tmod a m < 0
  · rw [if_pos h, tmodNeg a m hm h]
    have e0 := Int.emod_nonneg a (b := m) (by omega)
    have e1 := Int.emod_lt_of_pos a (b := m) hm
    rw [w64 (by omega)]
  · rw [if_neg h, tmodPos a m hm h]
theorem ahead_c (nx ack : Int) (w : World) (h0 : 0 ≤ nx) (h1 : nx ≤ 65535) (a0 : 0 ≤ ack) (a1 : ack ≤ 65535) :
    Calls Try.prog 37 #[.int .i64 nx, .int .i64 ack] w fun e w' => e = .returned (.int .i64 (if (ack - nx) % 65536 ≥ 32768 then (ack - nx) % 65536 - 65536 else (ack - nx) % 65536)) ∧ Drawn0 w w' :=
  catenaryref02_Ahead.calls nx ack _ w (by
    unfold catenaryref02_Ahead.f
    rw [w64 (by omega), bringF _ _ (by decide) (by decide), Option.bind_some]
    split
    · rw [w64 (by omega)]
    · rfl)
theorem rahead_yes (nx ack : Int) (sd n : Nat) (w : World) (h0 : 0 ≤ nx) (h1 : nx ≤ 65535) (a0 : 0 ≤ ack) (a1 : ack ≤ 65535) (hs : sd ≤ 4) (hn : (ack - nx) % 65536 = n) (hns : n ≤ sd) :
    Calls Try.prog 37 #[.int .i64 nx, .int .i64 ack] w fun e w' => e = .returned (.int .i64 (n : Int)) ∧ Drawn0 w w' := by
  have h := ahead_c nx ack w h0 h1 a0 a1
  rw [hn, if_neg (by omega)] at h
  exact h
theorem rahead_no (nx ack : Int) (sd : Nat) (w : World) (h0 : 0 ≤ nx) (h1 : nx ≤ 65535) (a0 : 0 ≤ ack) (a1 : ack ≤ 65535) (hn : ¬ (ack - nx) % 65536 ≤ sd) :
    Calls Try.prog 37 #[.int .i64 nx, .int .i64 ack] w fun e w' => ∃ x : Int, e = .returned (.int .i64 x) ∧ (decide (x < 0) = true ∨ decide (x < 0) = false ∧ decide ((sd : Int) < x) = true) ∧ Drawn0 w w' := by
  refine (ahead_c nx ack w h0 h1 a0 a1).mono ?_
  rintro e w' ⟨rfl, hd⟩
  refine ⟨_, rfl, ?_, hd⟩
  split
  · exact .inl (decide_eq_true (by omega))
  · exact .inr ⟨decide_eq_false (by omega), decide_eq_true (by omega)⟩
section
variable {B : Nat} {M : Nat → Prop} {w w' : World} {r W : Nat} {nx : Int} {ms : List (List Int)} {sd al : Nat}
theorem rheard_bad (ack : Int) (h : RA B M w r W nx ms sd al) (hs : ¬ (0 ≤ ack ∧ ack ≤ 65535)) : Calls Try.prog 33 #[.pointer (some ⟨r, 0, none⟩), .int .i64 ack] w fun e w' => e = .returned (.tuple #[.int .i64 0, .int .i64 9]) ∧ w = w' := by
  clear h
  by_cases h1 : ack < 0
  · clear hs
    go_enter Try.func33, Try.ntmps33
    go_wp2
    go_ret2
    exact ⟨rfl, rfl⟩
  · have h2 : 65535 < ack := by omega
    clear hs
    go_enter Try.func33, Try.ntmps33
    go_wp2
    go_ret2
    exact ⟨rfl, rfl⟩
set_option maxRecDepth 100000 in
set_option maxHeartbeats 1000000 in
theorem rheard_far (ack : Int) (h : RA B M w r W nx ms sd al) (a0 : 0 ≤ ack) (a1 : ack ≤ 65535) (hn : ¬ (ack - nx) % 65536 ≤ sd) : Calls Try.prog 33 #[.pointer (some ⟨r, 0, none⟩), .int .i64 ack] w fun e w' => e = .returned (.tuple #[.int .i64 0, .int .i64 9]) ∧ Below w.heap.size w w' := by
  obtain ⟨_, _, _, _, _, _, c0, c1, c2, c3, c4⟩ := h.cells
  have hat := rahead_no nx ack sd w h.n0 h.n1 a0 a1 hn
  have b1 : ¬ ack < 0 := by omega
  have b2 : ¬ 65535 < ack := by omega
  clear h hn c0 c2 c4 a0 a1
  go_enter Try.func33, Try.ntmps33
  go_wp2_with fail
  refine hat.mono ?_
  rintro e w1 ⟨x, rfl, hx, nd, rfl⟩
  clear hat b1 b2
  have c3' : (w.drewN nd).cell? ⟨r, 3, none⟩ = some (.int .i64 (sd : Int)) := c3
  have HB := Bx.mk (pw_below_drewN (Below.refl w.heap.size w) nd)
  generalize w.drewN nd = w2 at *
  clear c1 c3
  rcases hx with hx | ⟨hx, hy⟩
  · go_wp2_with fail
    go_ret2
    exact ⟨rfl, HB.out⟩
  · go_wp2_with fail
    go_ret2
    exact ⟨rfl, HB.out⟩
set_option maxRecDepth 100000 in
set_option maxHeartbeats 1000000 in
theorem rheard_ok (ack : Int) (n : Nat) (h : RA B M w r W nx ms sd al) (a0 : 0 ≤ ack) (a1 : ack ≤ 65535) (hn : (ack - nx) % 65536 = n) (hns : n ≤ sd) : Calls Try.prog 33 #[.pointer (some ⟨r, 0, none⟩), .int .i64 ack] w fun e w' => e = .returned (.tuple #[.int .i64 (n : Int), .int .i64 0]) ∧ RA B M w' r W ack (ms.drop n) (sd - n) al ∧ Fr (fun j => j = r) w w' := by
  have H := Bx.mk h
  obtain ⟨_, _, _, _, _, _, _, c1, _, _, _⟩ := h.cells
  have hat := rahead_yes nx ack sd n w h.n0 h.n1 a0 a1 (Nat.le_trans h.s1 h.w4) hn hns
  have HNS := Bx.mk (And.intro hns (And.intro a0 a1))
  have b1 : ¬ ack < 0 := by omega
  have b2 : ¬ 65535 < ack := by omega
  clear h hn hns a0 a1
  go_enter Try.func33, Try.ntmps33
  go_wp2_with fail
  refine hat.mono ?_
  rintro e w1 ⟨rfl, nd, rfl⟩
  clear hat b1 b2 c1
  have HB := Bx.mk (pw_below_drewN (Below.refl w.heap.size w) nd)
  have HR := Bx.mk (H.out.below HB.out)
  generalize w.drewN nd = wr at *
  obtain ⟨A2, cc, hg, hQ, hl, hC2, c0, c1, c2, c3, c4⟩ := HR.out.cells
  have f1 : wr.frozen? ⟨r, 1, none⟩ = false := frozen_of_row wr r 1 _ _ hg
  have f2 : wr.frozen? ⟨r, 2, none⟩ = false := frozen_of_row wr r 2 _ _ hg
  have f3 : wr.frozen? ⟨r, 3, none⟩ = false := frozen_of_row wr r 3 _ _ hg
  have HG := Bx.mk hg
  have HQ := Bx.mk hQ
  have hn0 : ¬ ((n : Int) < 0) := by omega
  have hn1 : ¬ ((sd : Int) < (n : Int)) := by have := HNS.out.1; omega
  have k0 : (0 : Int) ≤ (n : Int) := by omega
  have k2 : (n : Int) ≤ (ms.length : Int) := by have h1 := HNS.out.1; have h2 := H.out.s2; omega
  have k3 : (ms.length : Int) ≤ (cc : Int) := by omega
  have k4 : (n : Int) ≤ (cc : Int) := by omega
  have hws : wrap64 ((sd : Int) - (n : Int)) = (sd : Int) - (n : Int) := by have h1 := HNS.out.1; have h3 := H.out.s1; have h4 := H.out.w4; unfold wrap64; omega
  have hQ2 := Kd.Q_drop HQ.out (k := n) (by have h1 := HNS.out.1; have h2 := H.out.s2; omega)
  have hfn : (fun x : Addr => x.add (n * bk.sz)) = fun x => x.add n := by funext x; show x.add (n * 1) = _; rw [Nat.mul_one]
  rw [hfn] at hQ2
  have HQ2 := Bx.mk hQ2
  clear hg hQ hl hC2 c0 c4 hQ2 hfn
  have fin : ∀ A3, bk.Q 31 wr B M (.slice A3 (ms.length - n) (cc - n)) (ms.drop n) → (RA B M (((wr.setCell ⟨r, 2, none⟩ (.slice A3 (ms.length - n) (cc - n))).setCell ⟨r, 3, none⟩ (.int .i64 ((sd : Int) - (n : Int)))).setCell ⟨r, 1, none⟩ (.int .i64 ack)) r W ack (ms.drop n) (sd - n) al ∧ Fr (fun j => j = r) w (((wr.setCell ⟨r, 2, none⟩ (.slice A3 (ms.length - n) (cc - n))).setCell ⟨r, 3, none⟩ (.int .i64 ((sd : Int) - (n : Int)))).setCell ⟨r, 1, none⟩ (.int .i64 ack))) := by
    intro A3 hQ2
    have hk1 := HNS.out.1
    have hsd : (sd : Int) - (n : Int) = ((sd - n : Nat) : Int) := by omega
    rw [hsd]
    have hs1 := set_cells HG.out (i := 2) (u := .slice A3 (ms.length - n) (cc - n)) (ds := #[.int .i64 (W : Int), .int .i64 nx, .slice A3 (ms.length - n) (cc - n), .int .i64 (sd : Int), .int .i64 (al : Int)]) rfl
    have hs2 := set_cells hs1 (i := 3) (u := .int .i64 ((sd - n : Nat) : Int)) (ds := #[.int .i64 (W : Int), .int .i64 nx, .slice A3 (ms.length - n) (cc - n), .int .i64 ((sd - n : Nat) : Int), .int .i64 (al : Int)]) rfl
    have hs3 := set_cells hs2 (i := 1) (u := .int .i64 ack) (ds := #[.int .i64 (W : Int), .int .i64 ack, .slice A3 (ms.length - n) (cc - n), .int .i64 ((sd - n : Nat) : Int), .int .i64 (al : Int)]) rfl
    have hM3 : Fr (fun j => j = r) wr (((wr.setCell ⟨r, 2, none⟩ (.slice A3 (ms.length - n) (cc - n))).setCell ⟨r, 3, none⟩ (.int .i64 ((sd - n : Nat) : Int))).setCell ⟨r, 1, none⟩ (.int .i64 ack)) := ((Fr.set (fun j => j = r) wr r 2 _ rfl).trans (Fr.set (fun j => j = r) _ r 3 _ rfl)).trans (Fr.set (fun j => j = r) _ r 1 _ rfl)
    generalize ((wr.setCell ⟨r, 2, none⟩ (.slice A3 (ms.length - n) (cc - n))).setCell ⟨r, 3, none⟩ (.int .i64 ((sd - n : Nat) : Int))).setCell ⟨r, 1, none⟩ (.int .i64 ack) = w5 at *
    have hQ5 : bk.Q 31 w5 B M (.slice A3 (ms.length - n) (cc - n)) (ms.drop n) := Kd.Q_step hQ2 (fun j hj hlt => hM3.block j hlt (fun e => H.out.mr (by have e' : j = r := e; rw [← e']; exact hj)))
    have hb : Below w.heap.size w wr := ⟨HB.out.os, HB.out.tape, HB.out.output, HB.out.size, HB.out.block⟩
    exact ⟨{ HR.out with hr := ⟨_, hs3, hQ5⟩, n0 := HNS.out.2.1, n1 := HNS.out.2.2, s1 := by have := H.out.s1; omega, s2 := by rw [List.length_drop]; have := H.out.s2; omega, m5 := by rw [List.length_drop]; have := H.out.m5; omega, hm := fun m hm => H.out.hm m (List.mem_of_mem_drop hm) }, (Fr.of_below hb).trans hM3⟩
  by_cases hcn : cc = n
  · have hce : (cc = n) = True := eq_true hcn
    have HCN := Bx.mk hcn
    clear hcn
    go_wp2_with fail
    go_ret2
    have := fin A2 (by have h := HQ2.out; rw [if_pos HCN.out] at h; exact h)
    exact ⟨rfl, this⟩
  · have hce : (cc = n) = False := eq_false hcn
    have HCN := Bx.mk hcn
    clear hcn
    go_wp2_with fail
    go_ret2
    have := fin (Option.map (fun x => x.add n) A2) (by have h := HQ2.out; rw [if_neg HCN.out] at h; exact h)
    exact ⟨rfl, this⟩
end
end Go.Proofs.Ytbglagllgppggaa.Base
