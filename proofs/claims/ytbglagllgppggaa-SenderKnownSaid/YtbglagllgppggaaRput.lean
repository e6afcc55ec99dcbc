/- Layer 13: the document's Put, by its contract. -/
import Derived.Test.YtbglagllgppggaaRef
set_option linter.unusedVariables false
set_option linter.unusedSimpArgs false
namespace Go.Proofs.Ytbglagllgppggaa.Base
open Go.RowKit Go.Proofs.YtbglagllgppggaaW.PrintWords Go.Proofs.YtbglagllgppggaaW.PrintLast Go.Proofs.YtbglagllgppggaaW.PrintMore
open Go.Proofs.Ytbglagllgppggaa.Comm Go.Proofs.Ytbglagllgppggaa.PSenderPlays

section
variable {B : Nat} {M : Nat → Prop} {w w' : World} {r W : Nat} {nx : Int} {ms : List (List Int)} {sd al : Nat}
set_option maxRecDepth 100000 in
set_option maxHeartbeats 4000000 in
theorem rput_ok (A : Option Addr) (bs : List Int) (c : Nat) (h : RA B M w r W nx ms sd al) (hC : (Kd.int .u8).C w A bs.length bs) (hcc : bs.length ≤ c) (h1 : 1 ≤ bs.length) (h2 : bs.length ≤ 256) (h3 : al < 20000) (h4 : ms.length < 512) :
    Calls Try.prog 29 #[.pointer (some ⟨r, 0, none⟩), .slice A bs.length c] w fun e w' => e = .returned (.int .i64 0) ∧ RA B (fun k => M k ∨ w.heap.size ≤ k) w' r W nx (ms ++ [bs]) sd (al + 1) ∧ Fr (fun k => M k ∨ k = r) w w' := by
  obtain ⟨A2, cc, hg, hQ, hl, hC2, c0, c1, c2, c3, c4⟩ := h.cells
  have H := Bx.mk h
  have HQ := Bx.mk hQ
  have HC := Bx.mk hC
  have HG := Bx.mk hg
  have HBS := Bx.mk (show B ≤ w.heap.size from Nat.le_of_lt (Nat.lt_of_le_of_lt h.br h.rlt))
  clear h hQ hC hC2 hg c0 c1 c3
  have p1 : ¬ (bs.length : Int) < 1 := by omega
  have p2 : ¬ (256 : Int) < (bs.length : Int) := by omega
  have p3 : decide ((20000 : Int) ≤ (al : Int)) = false := decide_eq_false (by omega)
  have p4 : decide ((512 : Int) ≤ (ms.length : Int)) = false := decide_eq_false (by omega)
  have HN := Bx.mk (show 1 ≤ bs.length ∧ bs.length ≤ 256 ∧ al < 20000 ∧ ms.length < 512 from ⟨h1, h2, h3, h4⟩)
  clear h1 h2 h3 h4
  go_enter Try.func29, Try.ntmps29
  go_wp2_with fail
  have HL := Bx.mk hl
  have HCC := Bx.mk hcc
  clear hl hcc
  go_region_law (first | ((refine Kd.Q_append_step bk (w0 := w) (W := w1) B (by rfl) (.tmp 28) (.tmp 31) 43 31 (.slice none 0 0) 24 rfl Try.underlying43 infoR rfl (by decide) (by omega) (.slice A2 ms.length cc) ms bs [.slice A3 bs.length c3] (fun k => M k ∨ w.heap.size ≤ k) (fun k => w.heap.size ≤ k) rfl rfl ?aP ?aK ?aF ?aQ ?aB ?aS ?aL ?_; (case aP => exact ⟨_, rfl, Kd.R_mono (Kd.R_lower (Kd.R_bound n0.out) HBS.out) (fun k hk => hk.2.1)⟩); (case aK => exact fun k hk => ⟨.inr hk, fun e => by have := Kd.Q_lt HQ.out k e.symm; omega⟩); (case aF => exact fun k hk => .inr (Nat.le_trans n1.out.size hk)); (case aQ => exact Kd.Q_mono (Kd.Q_below HQ.out n1.out) (fun _ hk => .inl hk)); (case aB => exact n1.out.mono HBS.out); (case aS => exact Nat.le_trans HBS.out n1.out.size); (case aL => have := HN.out; omega); intro v1 w2 ho hb hg hat; obtain ⟨A4, c4', rfl, hc4, _⟩ := Kd.Q_reads ho; have m0 := Bx.mk ho; have m1 : Bx (Fr M w w2) := ⟨(Fr.of_below n1.out).trans (Fr.grown hg (fun k e => HQ.out.1 k e))⟩; have hg2 := (m1.out.block r H.out.rlt H.out.mr).trans HG.out; have c2'' : w2.cell? ⟨r, 2, none⟩ = some (.slice A2 ms.length cc) := cell_of_row w2 r 2 _ _ (0, 0) hg2; have f2'' : w2.frozen? ⟨r, 2, none⟩ = false := frozen_of_row w2 r 2 _ _ hg2; have HG2 := Bx.mk hg2; clear ho hb hg hat hg2)) | (go_simp; go_at_call 28; (with_reducible refine (copy_c A c bs _ ?hc HCC.out ?hl).mono ?_); (case hc => exact HC.out); (case hl => have := HN.out; omega); rintro e w1 ⟨v, rfl, hr, hb'⟩; obtain ⟨A3, c3, rfl, hc3, hC3⟩ := Kd.R_reads hr; clear hC3; have hb : Below w.heap.size w w1 := ⟨hb'.os, hb'.tape, hb'.output, hb'.size, hb'.block⟩; have n0 := Bx.mk hr; have n1 := Bx.mk hb; have c2' := pw_cell_below hb c2; have c2a : ∀ o, (w1.alloc o).cell? ⟨r, 2, none⟩ = some (.slice A2 ms.length cc) := fun o => pw_cell_below ((Below.refl _ w1).alloc (Nat.le_refl _) o) c2'; clear hr hb hb'))
  all_goals
    have hg3 := set_cells HG2.out (i := 2) (u := .slice A4 (ms.length + 1) c4') (ds := #[.int .i64 (W : Int), .int .i64 nx, .slice A4 (ms.length + 1) c4', .int .i64 (sd : Int), .int .i64 (al : Int)]) rfl
    have m3 : Bx (Fr (fun k => M k ∨ k = r) w (w2.setCell ⟨r, 2, none⟩ (.slice A4 (ms.length + 1) c4'))) := ⟨(m1.out.mono (fun _ h => .inl h)).trans (Fr.set _ w2 r 2 _ (.inr rfl))⟩
    have m4 : Bx (bk.Q 31 (w2.setCell ⟨r, 2, none⟩ (.slice A4 (ms.length + 1) c4')) B (fun k => M k ∨ w.heap.size ≤ k) (.slice A4 (ms.length + 1) c4') (ms ++ [bs])) := ⟨by
      have h := Kd.Q_far (p := ⟨r, 2, none⟩) m0.out (fun k hk => by
        rcases hk with hk | hk
        · intro e; rw [e] at hk; exact H.out.mr hk
        · have := H.out.rlt; show k ≠ r; omega) (.slice A4 (ms.length + 1) c4')
      simpa using h⟩
    generalize w2.setCell ⟨r, 2, none⟩ (.slice A4 (ms.length + 1) c4') = w4 at *
    have c4x : w4.cell? ⟨r, 4, none⟩ = some (.int .i64 (al : Int)) := by rw [blk_cell hg3]; rfl
    have f4x : w4.frozen? ⟨r, 4, none⟩ = false := frozen_of_row w4 r 4 _ _ hg3
    have HG3 := Bx.mk hg3
    clear hg3 m0 m1
    go_wp2_with fail
    go_ret
    have hw : wrap64 ((al : Int) + 1) = ((al + 1 : Nat) : Int) := by have := HN.out; unfold wrap64; omega
    rw [hw]
    have hg5 := set_cells HG3.out (i := 4) (u := .int .i64 ((al + 1 : Nat) : Int)) (ds := #[.int .i64 (W : Int), .int .i64 nx, .slice A4 (ms.length + 1) c4', .int .i64 (sd : Int), .int .i64 ((al + 1 : Nat) : Int)]) rfl
    have hng : ¬ (M r ∨ w.heap.size ≤ r) := by
      rintro (h | h)
      · exact H.out.mr h
      · have := H.out.rlt; omega
    refine ⟨rfl, { H.out with hr := ⟨_, hg5, Kd.Q_far (p := ⟨r, 4, none⟩) m4.out (fun k hk e => hng (by have e' : k = r := e; rw [← e']; exact hk)) _⟩, s2 := ?_, m5 := ?_, a1 := ?_, hm := ?_, mr := hng, bM := ?_ }, m3.out.trans (Fr.set _ w4 r 4 _ (.inr rfl))⟩
    · have := H.out.s2; simp; omega
    · have := HN.out; simp; omega
    · have := HN.out; omega
    · intro m hmm
      rcases List.mem_append.1 hmm with hmm | hmm
      · exact H.out.hm m hmm
      · obtain rfl : m = bs := by simpa using hmm
        exact ⟨HN.out.1, HN.out.2.1⟩
    · rintro k (hk | hk)
      · exact H.out.bM k hk
      · exact Nat.le_trans HBS.out hk
end
end Go.Proofs.Ytbglagllgppggaa.Base
