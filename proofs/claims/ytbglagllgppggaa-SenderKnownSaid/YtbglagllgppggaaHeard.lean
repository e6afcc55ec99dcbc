/- Layer 13: Heard, by its contract. -/
import Derived.Test.YtbglagllgppggaaFresh
import Derived.BigRegion
set_option linter.unusedVariables false
set_option linter.unusedSimpArgs false
namespace Go.Proofs.Ytbglagllgppggaa.Base
open Go.RowKit Go.Proofs.YtbglagllgppggaaW.PrintWords Go.Proofs.YtbglagllgppggaaW.PrintLast Go.Proofs.YtbglagllgppggaaW.PrintMore
open Go.Proofs.Ytbglagllgppggaa.Comm Go.Proofs.Ytbglagllgppggaa.PSenderPlays

theorem toks_cut (n : Nat) : (toks (n + 1)).extract 1 (toks (n + 1)).size = toks n := by
  apply Array.ext
  · simp [toks]
  · intro i h1 h2
    simp [toks]
theorem toks_head (n : Nat) : (toks (n + 1)).getD 0 undef = .agg #[] := by simp [toks]
theorem at_yes (nx ack : Int) (sd n : Nat) (w : World) (h0 : 0 ≤ nx) (h1 : nx ≤ 65535) (a0 : 0 ≤ ack) (a1 : ack ≤ 65535) (hs : sd ≤ 4) (hn : (ack - nx) % 65536 = n) (hns : n ≤ sd) :
    Calls Try.prog 27 #[.agg #[.int .u16 nx, .int .i64 ((sd : Int) + 1)], .int .u16 ack] w fun e w' => e = .returned (.int .i64 (n : Int)) ∧ Below w.heap.size w w' :=
  serial_Stretch_uint16_At.calls nx _ ack n w (by
    unfold serial_Stretch_uint16_At.f serial_Stretch_uint16_Has.f
    rw [wrapu16, hn, w64 (by omega), Option.bind_some, if_pos (by simp; omega)])
theorem at_no (nx ack : Int) (sd : Nat) (w : World) (h0 : 0 ≤ nx) (h1 : nx ≤ 65535) (a0 : 0 ≤ ack) (a1 : ack ≤ 65535) (hs : sd ≤ 4) (hn : ¬ (ack - nx) % 65536 ≤ sd) :
    Calls Try.prog 27 #[.agg #[.int .u16 nx, .int .i64 ((sd : Int) + 1)], .int .u16 ack] w fun e w' => e = .returned (.int .i64 (-1)) ∧ Below w.heap.size w w' :=
  serial_Stretch_uint16_At.calls nx _ ack (-1) w (by
    unfold serial_Stretch_uint16_At.f serial_Stretch_uint16_Has.f
    rw [wrapu16, w64 (by omega), Option.bind_some, if_neg (by simp; omega)])
section
variable {B : Nat} {M : Nat → Prop} {w w' : World} {g ch W : Nat} {nx : Int} {ms : List (List Int)} {sd al : Nat}
theorem heard_bad (ack : Int) (h : SA B M w g ch W nx ms sd al) (hs : ¬ (0 ≤ ack ∧ ack ≤ 65535)) : Calls Try.prog 13 #[.pointer (some ⟨g, 0, none⟩), .int .i64 ack] w fun e w' => e = .returned (.tuple #[.int .i64 0, .int .i64 9]) ∧ w = w' := by
  obtain ⟨_, _, _, _, _, _, c0, c1, c2, c3, c4⟩ := h.cells
  clear h
  by_cases h1 : ack < 0
  · clear hs
    go_enter Try.func13, Try.ntmps13
    go_wp2_with (go_at_call 24; (with_reducible refine (none_no _ ch _ ?hc).mono ?_); (case hc => exact c0); rintro e w' ⟨rfl, rfl⟩)
    go_ret2
    exact ⟨rfl, rfl⟩
  · have h2 : 65535 < ack := by omega
    clear hs
    go_enter Try.func13, Try.ntmps13
    go_wp2_with (go_at_call 24; (with_reducible refine (none_no _ ch _ ?hc).mono ?_); (case hc => exact c0); rintro e w' ⟨rfl, rfl⟩)
    go_ret2
    exact ⟨rfl, rfl⟩
set_option maxRecDepth 100000 in
set_option maxHeartbeats 1000000 in
theorem heard_far (ack : Int) (h : SA B M w g ch W nx ms sd al) (a0 : 0 ≤ ack) (a1 : ack ≤ 65535) (hn : ¬ (ack - nx) % 65536 ≤ sd) : Calls Try.prog 13 #[.pointer (some ⟨g, 0, none⟩), .int .i64 ack] w fun e w' => e = .returned (.tuple #[.int .i64 0, .int .i64 9]) ∧ Below w.heap.size w w' := by
  obtain ⟨_, _, _, _, _, _, c0, c1, c2, c3, c4⟩ := h.cells
  have hat := Bx.mk (fun w => at_no nx ack sd w h.n0 h.n1 a0 a1 (Nat.le_trans h.s1 h.w4) hn)
  have hr : IntKind.u16.wrap ack = ack := by rw [wrapu16]; omega
  have hw : IntKind.i64.wrap ((sd : Int) + 1) = (sd : Int) + 1 := by have h1 := h.s1; have h2 := h.w4; simp [IntKind.wrap, IntKind.signed, IntKind.bits]; omega
  clear h hn c2 c4
  go_enter Try.func13, Try.ntmps13
  go_wp2_with (go_at_call 24; (with_reducible refine (none_no _ ch _ ?hc).mono ?_); (case hc => exact c0); rintro e w' ⟨rfl, rfl⟩)
  clear c0
  go_region_held3 (fun w' => w'.cell? ⟨g, 1, none⟩ = some (.int .u16 nx) ∧ w'.cell? ⟨g, 3, none⟩ = some (.int .i64 (sd : Int))) (first | exact ⟨c1, c3⟩ | go_keep) (first | (go_at_call 27; (with_reducible refine (hat.out _).mono ?_); rintro e w2 ⟨rfl, hb'⟩; have hb : Below w.heap.size w w2 := ⟨hb'.os, hb'.tape, hb'.output, hb'.size, hb'.block⟩; have n1 := Bx.mk hb; have c1' := pw_cell_below hb c1; have c3' := pw_cell_below hb c3; clear hb hb' c1 c3; have c1 := c1'; have c3 := c3'; clear c1' c3'))
  go_wp2_with fail
  go_ret2
  exact ⟨rfl, n1.out⟩
set_option maxRecDepth 100000 in
set_option maxHeartbeats 1000000 in
theorem heard_ok (ack : Int) (n : Nat) (h : SA B M w g ch W nx ms sd al) (a0 : 0 ≤ ack) (a1 : ack ≤ 65535) (hn : (ack - nx) % 65536 = n) (hns : n ≤ sd) : Calls Try.prog 13 #[.pointer (some ⟨g, 0, none⟩), .int .i64 ack] w fun e w' => e = .returned (.tuple #[.int .i64 (n : Int), .int .i64 0]) ∧ SA B M w' g ch W ack (ms.drop n) (sd - n) al ∧ Fr (fun j => j = g ∨ j = ch) w w' := by
  obtain ⟨_, _, _, _, _, _, c0, c1, c2, c3, c4⟩ := h.cells
  have H := Bx.mk h.tight
  have HM := Bx.mk (And.intro h.mg (And.intro h.mc h.bM))
  have hat := Bx.mk (fun w => at_yes nx ack sd n w h.n0 h.n1 a0 a1 (Nat.le_trans h.s1 h.w4) hn hns)
  have hr : IntKind.u16.wrap ack = ack := by rw [wrapu16]; omega
  have hw : IntKind.i64.wrap ((sd : Int) + 1) = (sd : Int) + 1 := by have h1 := h.s1; have h2 := h.w4; simp [IntKind.wrap, IntKind.signed, IntKind.bits]; omega
  have HNS := Bx.mk (And.intro hns (And.intro a0 a1))
  have hn0 : ¬ ((n : Int) < 0) := by omega
  clear h hn c2 c4 hns
  go_enter Try.func13, Try.ntmps13
  go_wp2_with (go_at_call 24; (with_reducible refine (none_no _ ch _ ?hc).mono ?_); (case hc => exact c0); rintro e w' ⟨rfl, rfl⟩)
  clear c0
  go_region_held3 (fun w' => w'.cell? ⟨g, 1, none⟩ = some (.int .u16 nx) ∧ w'.cell? ⟨g, 3, none⟩ = some (.int .i64 (sd : Int))) (first | exact ⟨c1, c3⟩ | go_keep) (first | (go_at_call 27; (with_reducible refine (hat.out _).mono ?_); rintro e w2 ⟨rfl, hb'⟩; have hb : Below w.heap.size w w2 := ⟨hb'.os, hb'.tape, hb'.output, hb'.size, hb'.block⟩; have n1 := Bx.mk hb; have c1' := pw_cell_below hb c1; have c3' := pw_cell_below hb c3; clear hb hb' c1 c3; have c1 := c1'; have c3 := c3'; clear c1' c3'))
  have HA := Bx.mk (H.out.below n1.out)
  clear c1 c3
  go_wp2_with fail
  have HW := Bx.mk HA.out.s1
  have HCE := Bx.mk HA.out.cells
  go_loopw [32] (fun v32 wr => ∃ k : Nat, k ≤ n ∧ v32 = .int .i64 (k : Int) ∧ Bx (∃ s r, wr.heap[ch]? = some (.chan W (toks (sd - k)) false s r false)) ∧ Bx (Fr (fun j => j = ch) w2 wr)) (fun v _ => n - (intOf v).toNat)
  case atStart => exact ⟨0, by omega, rfl, ⟨HA.out.hc⟩, ⟨Fr.refl _ _⟩⟩
  case round =>
    obtain ⟨k, hk, rfl, HC, HF⟩ := hrel
    obtain ⟨A2, cc, hg, hQ, hl, hC2, _, _, _, _, _⟩ := HCE.out
    have hgr := (HF.out.block g HA.out.glt HA.out.ne).trans hg
    have c0 : wr.cell? ⟨g, 0, none⟩ = some (.chan (some ch)) := cell_of_row wr g 0 _ _ (0, 0) hgr
    have HGR := Bx.mk hgr
    have HQ := Bx.mk hQ
    have HL := Bx.mk hl
    clear hg hQ hl hC2 hgr
    by_cases hkn : k < n
    · have k1 : (k : Int) < (n : Int) := by omega
      obtain ⟨j, hj⟩ : ∃ j, sd - k = j + 1 := ⟨sd - k - 1, by have := HNS.out; omega⟩
      have HJ := Bx.mk (show sd - (k + 1) = j ∧ k < n by omega)
      obtain ⟨s, r, hch⟩ := HC.out
      rw [hj] at hch
      have HCH := Bx.mk hch
      clear hch hj hkn hk
      go_wp2_with ((with_reducible refine pause 33 ?hd ?_); (case hd => rfl))
      intro _
      go_step
      go_step
      go_step
      go_step
      go_step
      go_step
      go_step
      go_step
      go_step
      go_step
      go_step
      go_step
      go_step
      refine region_recv (c := ch) (buf := toks (j + 1)) (v0 := .pointer (some ⟨g, 0, none⟩)) (v1 := .pointer (some ⟨g, 0, none⟩)) (v2 := .pointer (some ⟨g, 0, none⟩)) (v3 := .chan (some ch)) (z := .agg #[]) rfl rfl rfl rfl rfl ?h0 ?h1 ?h2 ?h3 ?hr HCH.out ?hs ?_
      case h0 => go_simp
      case h1 => go_simp
      case h2 => go_simp
      case h3 => go_simp
      case hr => simp [go_sem, execOp, Go.Conc.rcase, Act.eval]
      case hs => rw [toks_size]; omega
      rw [toks_cut, toks_head]
      have hf : Fr (fun j => j = ch) w2 (wr.setChan ch W (toks j) false s (r + 1) false) := HF.out.trans (Fr.chan _ wr ch W _ false s (r + 1) false rfl)
      have hc := Go.Conc.heap_setChan wr ch W (toks j) false s (r + 1) false (blk_lt HCH.out)
      have HF2 := Bx.mk hf
      have HC2 := Bx.mk hc
      clear hf hc c0
      generalize wr.setChan ch W (toks j) false s (r + 1) false = w3 at *
      go_wp2_with fail
      have hwk : wrap64 ((k : Int) + 1) = ((k + 1 : Nat) : Int) := by have h1 := HJ.out.2; have h2 := HNS.out.1; have h3 := HW.out; have h4 := HA.out.w4; unfold wrap64; omega
      rw [hwk]
      go_roundw
      case rel => exact ⟨k + 1, by have := HJ.out; omega, rfl, ⟨s, r + 1, by rw [HJ.out.1]; exact HC2.out⟩, HF2⟩
      case measure => have := HJ.out; simp only [intOf]; omega
    · obtain rfl : k = n := by omega
      have k1 : ¬ ((k : Int) < (k : Int)) := by omega
      have c1 : wr.cell? ⟨g, 1, none⟩ = some (.int .u16 nx) := cell_of_row wr g 1 _ _ (0, 0) HGR.out
      have c2 : wr.cell? ⟨g, 2, none⟩ = some (.slice A2 ms.length cc) := cell_of_row wr g 2 _ _ (0, 0) HGR.out
      have c3 : wr.cell? ⟨g, 3, none⟩ = some (.int .i64 (sd : Int)) := cell_of_row wr g 3 _ _ (0, 0) HGR.out
      have f1 : wr.frozen? ⟨g, 1, none⟩ = false := frozen_of_row wr g 1 _ _ HGR.out
      have f2 : wr.frozen? ⟨g, 2, none⟩ = false := frozen_of_row wr g 2 _ _ HGR.out
      have f3 : wr.frozen? ⟨g, 3, none⟩ = false := frozen_of_row wr g 3 _ _ HGR.out
      have k0 : (0 : Int) ≤ (k : Int) := by omega
      have k2 : (k : Int) ≤ (ms.length : Int) := by have h1 := HNS.out.1; have h2 := HA.out.s2; omega
      have k3 : (ms.length : Int) ≤ (cc : Int) := by have := HL.out; omega
      have k4 : (k : Int) ≤ (cc : Int) := by omega
      have hws : IntKind.i64.wrap ((sd : Int) - (k : Int)) = (sd : Int) - (k : Int) := by have h1 := HNS.out.1; have h3 := HW.out; have h4 := HA.out.w4; simp [IntKind.wrap, IntKind.signed, IntKind.bits]; omega
      clear c0 hk hkn
      go_wp2_with fail
      go_region
      have hk1 := HNS.out.1
      have hk2 := HA.out.s2
      have hsd : (sd : Int) - (k : Int) = ((sd - k : Nat) : Int) := by omega
      rw [hsd]
      have hQ2 := Kd.Q_drop HQ.out (k := k) (by omega)
      have hfn : (fun x : Addr => x.add (k * bk.sz)) = fun x => x.add k := by funext x; show x.add (k * 1) = _; rw [Nat.mul_one]
      rw [hfn] at hQ2
      generalize hA3 : (if cc = k then A2 else Option.map (fun x => x.add k) A2) = A3 at *
      have hs1 := set_cells HGR.out (i := 2) (u := .slice A3 (ms.length - k) (cc - k)) (ds := #[.chan (some ch), .int .u16 nx, .slice A3 (ms.length - k) (cc - k), .int .i64 (sd : Int), .int .i64 (al : Int)]) rfl
      have hs2 := set_cells hs1 (i := 3) (u := .int .i64 ((sd - k : Nat) : Int)) (ds := #[.chan (some ch), .int .u16 nx, .slice A3 (ms.length - k) (cc - k), .int .i64 ((sd - k : Nat) : Int), .int .i64 (al : Int)]) rfl
      have hs3 := set_cells hs2 (i := 1) (u := .int .u16 ack) (ds := #[.chan (some ch), .int .u16 ack, .slice A3 (ms.length - k) (cc - k), .int .i64 ((sd - k : Nat) : Int), .int .i64 (al : Int)]) rfl
      have hM3 : Fr (fun j => j = g) wr (((wr.setCell ⟨g, 2, none⟩ (.slice A3 (ms.length - k) (cc - k))).setCell ⟨g, 3, none⟩ (.int .i64 ((sd - k : Nat) : Int))).setCell ⟨g, 1, none⟩ (.int .u16 ack)) := ((Fr.set (fun j => j = g) wr g 2 _ rfl).trans (Fr.set (fun j => j = g) _ g 3 _ rfl)).trans (Fr.set (fun j => j = g) _ g 1 _ rfl)
      generalize ((wr.setCell ⟨g, 2, none⟩ (.slice A3 (ms.length - k) (cc - k))).setCell ⟨g, 3, none⟩ (.int .i64 ((sd - k : Nat) : Int))).setCell ⟨g, 1, none⟩ (.int .u16 ack) = w5 at *
      have hne : ch ≠ g := HA.out.ne.symm
      have hQ5 : bk.Q 31 w5 B (fun j => M j ∧ j < w.heap.size) (.slice A3 (ms.length - k) (cc - k)) (ms.drop k) := Kd.Q_step hQ2 (fun j hj hlt => (hM3.block j (Nat.lt_of_lt_of_le hlt HF.out.size) (fun e => HM.out.1 (by have e' : j = g := e; rw [← e']; exact hj.1))).trans (HF.out.block j hlt (fun e => HM.out.2.1 (by have e' : j = ch := e; rw [← e']; exact hj.1))))
      obtain ⟨s, r, hch⟩ := HC.out
      have hch5 := (hM3.block ch (blk_lt hch) hne).trans hch
      have hSA : SA B (fun j => M j ∧ j < w.heap.size) w5 g ch W ack (ms.drop k) (sd - k) al :=
        { HA.out with hg := ⟨_, hs3, hQ5⟩, hc := ⟨s, r, hch5⟩, n0 := HNS.out.2.1, n1 := HNS.out.2.2, s1 := by have := HW.out; omega, s2 := by rw [List.length_drop]; omega, m5 := by rw [List.length_drop]; have := HA.out.m5; omega, hm := fun m hm => HA.out.hm m (List.mem_of_mem_drop hm) }
      have HSA := Bx.mk ((hSA.mono (fun _ h => h.1) HM.out.1 HM.out.2.1 HM.out.2.2).below (w' := w5.drew) (below_drew (Below.refl _ _)))
      have HFF : Bx (Fr (fun j => j = g ∨ j = ch) w w5.drew) := ⟨(((Fr.of_below n1.out).trans (HF.out.mono (fun _ h => .inr h))).trans (hM3.mono (fun _ h => .inl h))).trans (Fr.of_below (below_drew (Below.refl _ _)))⟩
      clear hs1 hs2 hs3 hQ2 hQ5 hM3 hch hch5 hSA c1 c2 c3 f1 f2 f3 hk1 hk2
      go_wp2_with fail
      go_ret2
      exact ⟨rfl, HSA.out, HFF.out⟩
end
end Go.Proofs.Ytbglagllgppggaa.Base
