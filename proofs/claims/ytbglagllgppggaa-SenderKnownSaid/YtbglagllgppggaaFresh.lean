/- Layer 13: Fresh, by its contract. -/
import Derived.Test.YtbglagllgppggaaAgain
set_option linter.unusedVariables false
set_option linter.unusedSimpArgs false
namespace Go.Proofs.Ytbglagllgppggaa.Base
open Go.RowKit Go.Proofs.YtbglagllgppggaaW.PrintWords Go.Proofs.YtbglagllgppggaaW.PrintLast Go.Proofs.YtbglagllgppggaaW.PrintMore
open Go.Proofs.Ytbglagllgppggaa.Comm Go.Proofs.Ytbglagllgppggaa.PSenderPlays

def lenOf : Value → Nat
  | .slice _ n _ => n
  | _ => 0
theorem lenR {α : Type} {d : Kd α} {e : Nat} {w : World} {B : Nat} {ok : Nat → Prop} {v : Value} {xs : List α} (h : d.R e w B ok v xs) : lenOf v = xs.length := by
  obtain ⟨A, c, rfl, _⟩ := Kd.R_reads h
  rfl
/-- A place to stand still at: ahead of an operation; the walk goes into no '∀'. -/
theorem pause {P : Program} {ops : Array Oper} {Q : Exit → Act → World → Prop} {o : Oper} {l : List Oper} {a : Act} {w : World} (n : Nat) (hd : (o.dst == some n) = true) (h : ∀ _ : Unit, wpList P ops Q (o :: l) a w) : wpList P ops Q (o :: l) a w := h ()
theorem R_fr {α : Type} {d : Kd α} {e base : Nat} {w w' : World} {S : Nat → Prop} {v : Value} {xs : List α} (h : d.R e w base (fun _ => True) v xs) (hf : Fr S w w') (hS : ∀ k, S k → k < base) : d.R e w' base (fun _ => True) v xs :=
  Kd.R_mono (Kd.R_move (Kd.R_bound h) (fun k hk => hf.block k hk.2.2.1 (fun hs => by have := hS k hs; have := hk.2.1; omega))) (fun _ _ => trivial)
theorem toks_size (n : Nat) : (toks n).size = n := by simp [toks]
theorem toks_push (n : Nat) : (toks n).push (.agg #[]) = toks (n + 1) := by
  simp [toks, Array.replicate_succ]
theorem Fr.chan (S : Nat → Prop) (w : World) (c cap : Nat) (buf : Array Value) (cl : Bool) (s r : Nat) (tm : Bool) (hc : S c) : Fr S w (w.setChan c cap buf cl s r tm) :=
  ⟨rfl, rfl, rfl, by simp [World.setChan], fun k _ hk => by
    have hne : c ≠ k := fun e => hk (by rw [← e]; exact hc)
    simp only [World.setChan]; rw [Array.getElem?_setIfInBounds_ne hne]⟩
section
variable {B : Nat} {M : Nat → Prop} {w w' : World} {g ch W : Nat} {nx : Int} {ms : List (List Int)} {sd al : Nat}
theorem SA.tight (h : SA B M w g ch W nx ms sd al) : SA B (fun k => M k ∧ k < w.heap.size) w g ch W nx ms sd al := by
  obtain ⟨v, h1, h2⟩ := h.hg
  exact { h with hg := ⟨v, h1, Kd.Q_mono (Kd.Q_bound h2) (fun k hk => ⟨hk.1, hk.2.2.1⟩)⟩, mg := fun hk => h.mg hk.1, mc := fun hk => h.mc hk.1, bM := fun k hk => h.bM k hk.1 }
set_option maxRecDepth 100000 in
set_option maxHeartbeats 4000000 in
theorem fresh_c (h : SA B M w g ch W nx ms sd al) :
    Calls Try.prog 11 #[.pointer (some ⟨g, 0, none⟩)] w fun e w' => ∃ v, e = .returned v ∧ k35.R 35 w' w.heap.size (fun _ => True) v (items nx ms sd (min W ms.length - sd)) ∧ SA B M w' g ch W nx ms (min W ms.length) al ∧ Fr (fun j => j = g ∨ j = ch) w w' := by
  obtain ⟨A2, cc, hg, hQ, hl, hC2, c0, c1, c2, c3, c4⟩ := h.cells
  have H := Bx.mk h.tight
  have HM := Bx.mk (And.intro h.mg (And.intro h.mc h.bM))
  have HGC := Bx.mk (And.intro h.glt h.clt)
  have HNE := Bx.mk h.ne
  clear h hg hQ hl hC2 c1 c2 c4
  have hu57 := Try.underlying57
  go_enter Try.func11, Try.ntmps11
  go_wp2_with (go_at_call 24; (with_reducible refine (none_no _ ch _ ?hc).mono ?_); (case hc => exact c0); rintro e w' ⟨rfl, rfl⟩)
  clear c0 c3
  go_loopw [2] (fun v2 wr => ∃ k : Nat, Bx (k35.R 35 wr w.heap.size (fun _ => True) v2 (items nx ms sd k)) ∧ Bx (SA B (fun k => M k ∧ k < w.heap.size) wr g ch W nx ms (sd + k) al) ∧ Bx (Fr (fun j => j = g ∨ j = ch) w wr)) (fun v _ => 4 - lenOf v)
  case atStart => exact ⟨0, ⟨Kd.R_nil _ _ _ _ _⟩, H, ⟨Fr.refl _ _⟩⟩
  case round =>
    clear H
    obtain ⟨k, HR, HA, HF⟩ := hrel
    have hlen := items_len nx ms sd k
    obtain ⟨xs, hxs⟩ : ∃ xs, xs = items nx ms sd k := ⟨_, rfl⟩
    rw [← hxs] at HR hlen
    have HX := Bx.mk hxs
    have HXL := Bx.mk hlen
    clear hxs hlen
    obtain ⟨A3, c3, rfl, hc3, hC3⟩ := Kd.R_reads HR.out
    clear hc3 hC3
    have hb := HA.out.s1
    have hb2 := HA.out.s2
    have hw4 := HA.out.w4
    obtain ⟨j, hj⟩ : ∃ j, j = sd + k := ⟨_, rfl⟩
    rw [← hj] at HA hb hb2
    obtain ⟨A2, cc, hg, hQ, hl, hC2, c0, c1, c2, c3', c4⟩ := HA.out.cells
    clear hg hQ hl hC2 c1 c4
    have HJ := Bx.mk hj
    have HBB := Bx.mk (And.intro hb (And.intro hb2 hw4))
    clear hj hw4
    by_cases hlt : j < ms.length
    · have k1 : (j : Int) < (ms.length : Int) := by omega
      have HLT := Bx.mk hlt
      clear hlt hb hb2
      by_cases hroom : j < W
      · have HRM := Bx.mk hroom
        clear hroom
        go_wp2_with fail
        go_quiet (fail)
        go_wp2_with ((with_reducible refine pause 19 ?hd ?_); (case hd => rfl))
        intro _
        go_step
        go_step
        go_step
        go_step
        go_step
        go_step
        go_step
        have hdn : Below wr.heap.size wr (wr.drewN nq) := pw_below_drewN (Below.refl _ _) nq
        have KR := Bx.mk (Kd.R_below HR.out hdn)
        have KA := Bx.mk (HA.out.below hdn)
        have KF := Bx.mk (HF.out.trans (Fr.of_below hdn))
        clear HR HA HF hdn
        clear c0 c2 c3'
        generalize wr.drewN nq = w1 at *
        obtain ⟨A2, cc, hg, hQ, hl, hC2, c0, c1, c2, c3', c4⟩ := KA.out.cells
        obtain ⟨s, r, hch⟩ := KA.out.hc
        have HG1 := Bx.mk hg
        have HQ1 := Bx.mk hQ
        have HCH := Bx.mk hch
        clear hg hQ hl hC2 c1 c4 hch
        refine region_room (c := ch) (v := .agg #[]) (z := .agg #[]) rfl ?hr HCH.out ?hm ?_
        case hr => simp [go_sem, execOp, Go.Conc.scase, Act.eval]
        case hm => rw [toks_size]; exact HRM.out
        rw [toks_push]
        have hfc : Fr (fun j => j = ch) w1 (w1.setChan ch W (toks (j + 1)) false (s + 1) r false) := Fr.chan _ w1 ch W _ false (s + 1) r false rfl
        have hgg := (hfc.block g KA.out.glt HNE.out).trans HG1.out
        have L0 := Bx.mk (R_fr KR.out hfc (fun k e => by have e' : k = ch := e; rw [e']; exact HGC.out.2))
        have L1 := Bx.mk hgg
        have L2 := Bx.mk (Kd.Q_step HQ1.out (fun k hk hlt => hfc.block k hlt (fun e => HM.out.2.1 (by have e' : k = ch := e; rw [← e']; exact hk.1))))
        have L3 := Bx.mk (Go.Conc.heap_setChan w1 ch W (toks (j + 1)) false (s + 1) r false KA.out.clt)
        have L4 := Bx.mk (KF.out.trans (hfc.mono (fun _ e => .inr e)))
        have SD := Bx.mk (And.intro KA.out.n0 (And.intro KA.out.n1 (And.intro KA.out.m5 KA.out.hm)))
        clear hfc hgg c0 c2 c3'
        generalize w1.setChan ch W (toks (j + 1)) false (s + 1) r false = w2 at *
        have c1 : w2.cell? ⟨g, 1, none⟩ = some (.int .u16 nx) := cell_of_row w2 g 1 _ _ (0, 0) L1.out
        have c2 : w2.cell? ⟨g, 2, none⟩ = some (.slice A2 ms.length cc) := cell_of_row w2 g 2 _ _ (0, 0) L1.out
        have c3' : w2.cell? ⟨g, 3, none⟩ = some (.int .i64 (j : Int)) := cell_of_row w2 g 3 _ _ (0, 0) L1.out
        have hit := item_x j A2 cc c1 c2 (Kd.Q_reads' L2.out).2.2 SD.out.1 SD.out.2.1 SD.out.2.2.1 SD.out.2.2.2 HLT.out
        have hgd : ms.getD j [] = ms[j]'(HLT.out) := by simp [List.getD, HLT.out]
        rw [← hgd] at hit
        obtain ⟨m, hm⟩ : ∃ m, m = ms.getD j [] := ⟨_, rfl⟩
        obtain ⟨sq, hsq⟩ : ∃ sq, sq = (nx + (j : Int)) % 65536 := ⟨_, rfl⟩
        rw [← hm, ← hsq] at hit
        have HMM := Bx.mk (And.intro hm hsq)
        clear hm hsq hgd c1 c2
        go_wp2_with fail
        refine hit.mono ?_
        rintro e w3 ⟨A4, c4, rfl, hr, hb⟩
        have HR4 := Bx.mk hr
        have HRW := Bx.mk (Kd.R_below L0.out hb)
        have HG3 := Bx.mk ((hb.block g (blk_lt L1.out)).trans L1.out)
        have HQ3 := Bx.mk (Kd.Q_below L2.out hb)
        have HC3 := Bx.mk ((hb.block ch (blk_lt L3.out)).trans L3.out)
        have HF3 := Bx.mk (L4.out.trans (Fr.of_below hb))
        have HRN := Bx.mk (Kd.R_lt L0.out)
        have HWS := Bx.mk L4.out.size
        clear hr hb hit L0 L1 L2 L3 L4 c3'
        go_wp2_with (at_builtin; (refine Kd.R_append k35 (w0 := w3) (W := w3) w.heap.size rfl (.tmp 24) (.tmp 31) 32 35 (.agg #[.int .i64 0, .slice none 0 0]) 32 rfl Try.underlying32 info35 rfl (by decide) (by omega) (.slice A3 xs.length c3) xs ⟨sq, m⟩ [.int .i64 sq, .slice A4 m.length c4] (fun _ => True) (fun j => w2.heap.size ≤ j) rfl rfl ?aP ?aK ?aF ?aQ ?aB ?aS ?aL ?_; (case aP => exact k35_mkM _ _ _ ⟨sq, m⟩ (Kd.R_mono (Kd.R_lower (Kd.R_bound HR4.out) HWS.out) (fun j hj => hj.2.1))); (case aK => exact fun j hj => ⟨trivial, fun e => by have := HRN.out j e.symm; omega⟩); (case aF => exact fun _ _ => trivial); (case aQ => exact HRW.out); (case aB => exact Below.refl _ _); (case aS => exact HF3.out.size); (case aL => have h1 := HXL.out; have h2 := HJ.out; have h3 := HBB.out; omega); intro v1 w4 ho hb hg hat; have n0 := Bx.mk ho; have n1 := Bx.mk hb; have hg4 := (hb.block g HGC.out.1).trans HG3.out; have c3y : w4.cell? ⟨g, 3, none⟩ = some (.int .i64 (j : Int)) := cell_of_row w4 g 3 _ _ (0, 0) hg4; have f3y : w4.frozen? ⟨g, 3, none⟩ = false := frozen_of_row w4 g 3 _ _ hg4; have HG4 := Bx.mk hg4; clear ho hb hg hat hg4))
        have hwj : wrap64 ((j : Int) + 1) = ((j + 1 : Nat) : Int) := by have := HBB.out; unfold wrap64; omega
        rw [hwj]
        clear hwj
        have hg5 := set_cells HG4.out (i := 3) (u := .int .i64 ((j + 1 : Nat) : Int)) (ds := #[.chan (some ch), .int .u16 nx, .slice A2 ms.length cc, .int .i64 ((j + 1 : Nat) : Int), .int .i64 (al : Int)]) rfl
        have hQ4 := Kd.Q_far (p := ⟨g, 3, none⟩) (Kd.Q_step HQ3.out (fun k hk _ => n1.out.block k hk.2)) (fun k hk e => HM.out.1 (by have e' : k = g := e; rw [← e']; exact hk.1)) (.int .i64 ((j + 1 : Nat) : Int))
        have hC4 := (Below.heap_setCell w4 ⟨g, 3, none⟩ (.int .i64 ((j + 1 : Nat) : Int)) ch HNE.out.symm).trans ((n1.out.block ch HGC.out.2).trans HC3.out)
        have hR4 := R_fr n0.out (Fr.set (fun k => k = g) w4 g 3 (.int .i64 ((j + 1 : Nat) : Int)) rfl) (fun k e => by have e' : k = g := e; rw [e']; exact HGC.out.1)
        have hF4 : Fr (fun j => j = g ∨ j = ch) w (w4.setCell ⟨g, 3, none⟩ (.int .i64 ((j + 1 : Nat) : Int))) := Fr.trans (v := w4) ⟨n1.out.os.trans HF3.out.os, n1.out.tape.trans HF3.out.tape, n1.out.output.trans HF3.out.output, Nat.le_trans HF3.out.size n1.out.size, fun k hk hn => (n1.out.block k hk).trans (HF3.out.block k hk hn)⟩ (Fr.set _ w4 g 3 _ (.inl rfl))
        go_roundw
        case rel =>
          refine ⟨k + 1, ⟨?_⟩, ⟨?_⟩, ⟨hF4⟩⟩
          · rw [items_succ, ← HX.out, ← HJ.out, ← HMM.out.1, ← HMM.out.2]; exact hR4
          · rw [← Nat.add_assoc, ← HJ.out]
            exact { KA.out with hg := ⟨_, hg5, hQ4⟩, hc := ⟨s + 1, r, hC4⟩, s1 := HRM.out, s2 := HLT.out }
        case measure =>
          have e1 := lenR hR4
          have e2 := HXL.out
          have e3 := HJ.out
          have e4 := HRM.out
          have e5 := HBB.out
          simp only [List.length_append, List.length_singleton] at e1
          show 4 - lenOf v1 < 4 - xs.length
          omega
      · have HRM := Bx.mk hroom
        clear hroom
        go_wp2_with fail
        go_quiet (fail)
        go_wp2_with ((with_reducible refine pause 19 ?hd ?_); (case hd => rfl))
        intro _
        go_step
        go_step
        go_step
        go_step
        go_step
        go_step
        go_step
        have hdn : Below wr.heap.size wr (wr.drewN nq) := pw_below_drewN (Below.refl _ _) nq
        have KR := Bx.mk (Kd.R_below HR.out hdn)
        have KA := Bx.mk (HA.out.below hdn)
        have KF := Bx.mk (HF.out.trans (Fr.of_below hdn))
        clear HR HA HF hdn
        clear c0 c2 c3'
        generalize wr.drewN nq = w1 at *
        obtain ⟨A2, cc, hg, hQ, hl, hC2, c0, c1, c2, c3', c4⟩ := KA.out.cells
        obtain ⟨s, r, hch⟩ := KA.out.hc
        have HG1 := Bx.mk hg
        have HQ1 := Bx.mk hQ
        have HCH := Bx.mk hch
        clear hg hQ hl hC2 c1 c4 hch
        refine region_full (c := ch) (v := .agg #[]) (z := .agg #[]) rfl ?hr HCH.out ?hm ?_
        case hr => simp [go_sem, execOp, Go.Conc.scase, Act.eval]
        case hm => rw [toks_size]; have := HRM.out; omega
        clear c0 c2 c3'
        go_wp2_with fail
        go_ret
        have hmin : min W ms.length = j := by have h1 := HRM.out; have h2 := HBB.out; omega
        rw [hmin]
        have hjk : j - sd = k := by have := HJ.out; omega
        rw [hjk, ← HX.out]
        exact ⟨_, rfl, KR.out, KA.out.mono (fun _ h => h.1) HM.out.1 HM.out.2.1 HM.out.2.2, KF.out⟩
    · have k1 : ¬ (j : Int) < (ms.length : Int) := by omega
      go_wp2_with fail
      go_quiet (fail)
      have hdn : Below wr.heap.size wr (wr.drewN nq) := pw_below_drewN (Below.refl _ _) nq
      have KR := Bx.mk (Kd.R_below HR.out hdn)
      have KA := Bx.mk (HA.out.below hdn)
      have KF := Bx.mk (HF.out.trans (Fr.of_below hdn))
      clear HR HA HF hdn
      clear c0 c2 c3'
      generalize wr.drewN nq = w1 at *
      obtain ⟨A2, cc, hg, hQ, hl, hC2, c0, c1, c2, c3', c4⟩ := KA.out.cells
      obtain ⟨s, r, hch⟩ := KA.out.hc
      have HG1 := Bx.mk hg
      have HQ1 := Bx.mk hQ
      have HCH := Bx.mk hch
      clear hg hQ hl hC2 c1 c4 hch
      clear c0 c2 c3'
      go_wp2_with fail
      go_ret
      have hmin : min W ms.length = j := by have h2 := HBB.out; omega
      rw [hmin]
      have hjk : j - sd = k := by have := HJ.out; omega
      rw [hjk, ← HX.out]
      exact ⟨_, rfl, KR.out, KA.out.mono (fun _ h => h.1) HM.out.1 HM.out.2.1 HM.out.2.2, KF.out⟩
end
end Go.Proofs.Ytbglagllgppggaa.Base
