/- Layer 13: Clone, Put, by their contracts. -/
import Derived.Test.YtbglagllgppggaaBase
import Derived.Lib.SliceRun
import Derived.Deep.RegionLaw
set_option linter.unusedVariables false
set_option linter.unusedSimpArgs false
namespace Go.Proofs.Ytbglagllgppggaa.Base
open Go.RowKit Go.Proofs.YtbglagllgppggaaW.PrintWords Go.Proofs.YtbglagllgppggaaW.PrintLast Go.Proofs.YtbglagllgppggaaW.PrintMore
open Go.Proofs.Ytbglagllgppggaa.Comm Go.Proofs.Ytbglagllgppggaa.PSenderPlays

theorem infoB : (Try.prog.info? 5).map (fun i => (i.zero, i.size, i.bytes)) = some (some (.int .u8 0), 1, 1) := by kernel_rfl
theorem infoR : (Try.prog.info? 31).map (fun i => (i.zero, i.size, i.bytes)) = some (some (.slice none 0 0), 1, 24) := by kernel_rfl
theorem set_cells {w : World} {q : Nat} {t : TypeId} {cs ds : Array Value} (h : w.heap[q]? = some (.cells cs t (0, 0))) (i : Nat) (u : Value) (e : cs.setIfInBounds i u = ds) : (w.setCell ⟨q, i, none⟩ u).heap[q]? = some (.cells ds t (0, 0)) := e ▸ blk_set h i u
theorem emptyR (W : World) : (Kd.int .u8).R 5 (W.alloc (.cells #[] 5)) W.heap.size (fun _ => True) (.slice (some ⟨W.heap.size, 0, none⟩) 0 0) ([] : List Int) := by
  refine ⟨fun _ _ => trivial, [], ?_, Reps.none _ _⟩
  exact ⟨rfl, .inr ⟨W.heap.size, 0, #[], rfl, Nat.le_refl _, heap_alloc_new W _, by simp, by simp [maxLen], rfl, rfl⟩⟩
theorem clone_c (A : Option Addr) (c : Nat) (bs : List Int) (w : World) (hC : (Kd.int .u8).C w A bs.length bs) (hc : bs.length ≤ c) (h1 : 1 ≤ bs.length) (h2 : bs.length ≤ 256) :
    Calls Try.prog 25 #[.slice A bs.length c] w fun e w' => ∃ v, e = .returned v ∧ (Kd.int .u8).R 5 w' w.heap.size (fun _ => True) v bs ∧ Below w.heap.size w w' := by
  obtain ⟨ad, rfl, _⟩ := hC.2.2 (by omega)
  have HC := Bx.mk hC
  clear hC
  have hq : ∀ (w : World) (n c : Nat), (binOp .eql 31 (.slice (some ad) n c) (.slice none 0 0)).run Try.prog w = .ok (.bool false) w := fun w n c => Go.Lib.run_eql_slice_nil w _ _ _ _ _ _ _ Try.underlying31
  go_enter Try.func25, Try.ntmps25
  go_wp2_with (at_builtin; go_loud (refine Kd.R_append_rows (Kd.int .u8) (w0 := w) w.heap.size rfl (.tmp 5) (.tmp 6) 31 5 (.int .u8 0) 1 rfl Try.underlying31 infoB rfl (by decide) (by omega) (.slice (some ⟨w.heap.size, 0, none⟩) 0 0) [] bs _ _ _ (fun _ => True) (fun _ => False) rfl rfl ?aO ?aR (fun _ _ h => h) (fun _ h => h.elim) ?aF ?aB ?aS ?aL ?_; (case aO => exact emptyR w); (case aR => exact Kd.C_alloc HC.out _); (case aF => exact fun _ _ => trivial); (case aB => exact (Below.refl _ _).alloc (Nat.le_refl _) _); (case aS => simp); (case aL => simp; omega); intro v1 w1 ho hb hg hat; have n0 := Bx.mk ho; have n1 := Bx.mk hb; clear ho hb hg hat))
  go_ret
  exact ⟨v1, rfl, n0.out, n1.out⟩
section
variable {B : Nat} {M : Nat → Prop} {w w' : World} {g ch W : Nat} {nx : Int} {ms : List (List Int)} {sd al : Nat}
theorem put_arg (A : Option Addr) (n c : Nat) (h : SA B M w g ch W nx ms sd al) (hn : n < 1 ∨ 256 < n) : Calls Try.prog 10 #[.pointer (some ⟨g, 0, none⟩), .slice A n c] w fun e w' => e = .returned (.int .i64 2) ∧ w = w' := by
  obtain ⟨_, _, _, _, _, _, c0, c1, c2, c3, c4⟩ := h.cells
  clear h
  by_cases h1 : n < 1
  · have p1 : (n : Int) < 1 := by omega
    clear hn
    go_enter Try.func10, Try.ntmps10
    go_wp2_with (go_at_call 24; (with_reducible refine (none_no _ ch _ ?hc).mono ?_); (case hc => exact c0); rintro e w' ⟨rfl, rfl⟩)
    go_ret
    exact ⟨rfl, rfl⟩
  · have p1 : ¬ (n : Int) < 1 := by omega
    have p2 : (256 : Int) < (n : Int) := by omega
    clear hn
    go_enter Try.func10, Try.ntmps10
    go_wp2_with (go_at_call 24; (with_reducible refine (none_no _ ch _ ?hc).mono ?_); (case hc => exact c0); rintro e w' ⟨rfl, rfl⟩)
    go_ret
    exact ⟨rfl, rfl⟩
set_option maxRecDepth 100000 in
theorem put_limit (A : Option Addr) (n c : Nat) (h : SA B M w g ch W nx ms sd al) (h1 : 1 ≤ n) (h2 : n ≤ 256) (h3 : 20000 ≤ al) : Calls Try.prog 10 #[.pointer (some ⟨g, 0, none⟩), .slice A n c] w fun e w' => e = .returned (.int .i64 5) ∧ w = w' := by
  obtain ⟨_, _, _, _, _, _, c0, c1, c2, c3, c4⟩ := h.cells
  clear h
  have p1 : ¬ (n : Int) < 1 := by omega
  have p2 : ¬ (256 : Int) < (n : Int) := by omega
  have p3 : decide ((20000 : Int) ≤ (al : Int)) = true := decide_eq_true (by omega)
  clear h1 h2 h3
  go_enter Try.func10, Try.ntmps10
  go_wp2_with (go_at_call 24; (with_reducible refine (none_no _ ch _ ?hc).mono ?_); (case hc => exact c0); rintro e w' ⟨rfl, rfl⟩)
  go_ret
  exact ⟨rfl, rfl⟩
set_option maxRecDepth 100000 in
theorem put_full (A : Option Addr) (n c : Nat) (h : SA B M w g ch W nx ms sd al) (h1 : 1 ≤ n) (h2 : n ≤ 256) (h3 : al < 20000) (h4 : 512 ≤ ms.length) : Calls Try.prog 10 #[.pointer (some ⟨g, 0, none⟩), .slice A n c] w fun e w' => e = .returned (.int .i64 7) ∧ w = w' := by
  obtain ⟨_, _, _, _, _, _, c0, c1, c2, c3, c4⟩ := h.cells
  clear h
  have p1 : ¬ (n : Int) < 1 := by omega
  have p2 : ¬ (256 : Int) < (n : Int) := by omega
  have p3 : decide ((20000 : Int) ≤ (al : Int)) = false := decide_eq_false (by omega)
  have p4 : decide ((512 : Int) ≤ (ms.length : Int)) = true := decide_eq_true (by omega)
  clear h1 h2 h3 h4
  go_enter Try.func10, Try.ntmps10
  go_wp2_with (go_at_call 24; (with_reducible refine (none_no _ ch _ ?hc).mono ?_); (case hc => exact c0); rintro e w' ⟨rfl, rfl⟩)
  go_ret
  exact ⟨rfl, rfl⟩
set_option maxRecDepth 100000 in
set_option maxHeartbeats 4000000 in
theorem put_ok (A : Option Addr) (bs : List Int) (c : Nat) (h : SA B M w g ch W nx ms sd al) (hC : (Kd.int .u8).C w A bs.length bs) (hcc : bs.length ≤ c) (h1 : 1 ≤ bs.length) (h2 : bs.length ≤ 256) (h3 : al < 20000) (h4 : ms.length < 512) :
    Calls Try.prog 10 #[.pointer (some ⟨g, 0, none⟩), .slice A bs.length c] w fun e w' => e = .returned (.int .i64 0) ∧ SA B (fun k => M k ∨ w.heap.size ≤ k) w' g ch W nx (ms ++ [bs]) sd (al + 1) ∧ Fr (fun k => M k ∨ k = g) w w' := by
  obtain ⟨A2, cc, hg, hQ, hl, hC2, c0, c1, c2, c3, c4⟩ := h.cells
  have H := Bx.mk h
  have HQ := Bx.mk hQ
  have HC := Bx.mk hC
  have HG := Bx.mk hg
  have HBS := Bx.mk (show B ≤ w.heap.size from Nat.le_of_lt (Nat.lt_of_le_of_lt h.bg h.glt))
  clear h hQ hC hC2 hg
  have p1 : ¬ (bs.length : Int) < 1 := by omega
  have p2 : ¬ (256 : Int) < (bs.length : Int) := by omega
  have p3 : decide ((20000 : Int) ≤ (al : Int)) = false := decide_eq_false (by omega)
  have p4 : decide ((512 : Int) ≤ (ms.length : Int)) = false := decide_eq_false (by omega)
  have HN := Bx.mk (show 1 ≤ bs.length ∧ bs.length ≤ 256 ∧ al < 20000 ∧ ms.length < 512 from ⟨h1, h2, h3, h4⟩)
  clear h1 h2 h3 h4
  go_enter Try.func10, Try.ntmps10
  go_wp2_with (go_at_call 24; (with_reducible refine (none_no _ ch _ ?hc).mono ?_); (case hc => exact c0); rintro e w' ⟨rfl, rfl⟩)
  have HL := Bx.mk hl
  have HCC := Bx.mk hcc
  clear hl hcc
  go_region_law (first | ((refine Kd.Q_append_step bk (w0 := w) (W := w1) B (by rfl) (.tmp 34) (.tmp 37) 43 31 (.slice none 0 0) 24 rfl Try.underlying43 infoR rfl (by decide) (by omega) (.slice A2 ms.length cc) ms bs [.slice A3 bs.length c3] (fun k => M k ∨ w.heap.size ≤ k) (fun k => w.heap.size ≤ k) rfl rfl ?aP ?aK ?aF ?aQ ?aB ?aS ?aL ?_; (case aP => exact ⟨_, rfl, Kd.R_mono (Kd.R_lower (Kd.R_bound n0.out) HBS.out) (fun k hk => hk.2.1)⟩); (case aK => exact fun k hk => ⟨.inr hk, fun e => by have := Kd.Q_lt HQ.out k e.symm; omega⟩); (case aF => exact fun k hk => .inr (Nat.le_trans n1.out.size hk)); (case aQ => exact Kd.Q_mono (Kd.Q_below HQ.out n1.out) (fun _ hk => .inl hk)); (case aB => exact n1.out.mono HBS.out); (case aS => exact Nat.le_trans HBS.out n1.out.size); (case aL => have := HN.out; omega); intro v1 w2 ho hb hg hat; obtain ⟨A4, c4', rfl, hc4, _⟩ := Kd.Q_reads ho; have m0 := Bx.mk ho; have m1 : Bx (Fr M w w2) := ⟨(Fr.of_below n1.out).trans (Fr.grown hg (fun k e => HQ.out.1 k e))⟩; have hg2 := (m1.out.block g H.out.glt H.out.mg).trans HG.out; have c2'' : w2.cell? ⟨g, 2, none⟩ = some (.slice A2 ms.length cc) := cell_of_row w2 g 2 _ _ (0, 0) hg2; have f2'' : w2.frozen? ⟨g, 2, none⟩ = false := frozen_of_row w2 g 2 _ _ hg2; have HG2 := Bx.mk hg2; clear ho hb hg hat hg2)) | (go_simp; go_at_call 25; (with_reducible refine (clone_c A c bs _ ?hc HCC.out HN.out.1 HN.out.2.1).mono ?_); (case hc => exact HC.out); rintro e w1 ⟨v, rfl, hr, hb'⟩; obtain ⟨A3, c3, rfl, hc3, hC3⟩ := Kd.R_reads hr; clear hC3; have hb : Below w.heap.size w w1 := ⟨hb'.os, hb'.tape, hb'.output, hb'.size, hb'.block⟩; have n0 := Bx.mk hr; have n1 := Bx.mk hb; have c2' := pw_cell_below hb c2; have c2a : ∀ o, (w1.alloc o).cell? ⟨g, 2, none⟩ = some (.slice A2 ms.length cc) := fun o => pw_cell_below ((Below.refl _ w1).alloc (Nat.le_refl _) o) c2'; clear hr hb hb'))
  all_goals
    have hg3 := set_cells HG2.out (i := 2) (u := .slice A4 (ms.length + 1) c4') (ds := #[.chan (some ch), .int .u16 nx, .slice A4 (ms.length + 1) c4', .int .i64 (sd : Int), .int .i64 (al : Int)]) rfl
    have m2 := m1.out.trans ((Fr.refl M w2))
    have m3 : Bx (Fr (fun k => M k ∨ k = g) w (w2.setCell ⟨g, 2, none⟩ (.slice A4 (ms.length + 1) c4'))) := ⟨(m1.out.mono (fun _ h => .inl h)).trans (Fr.set _ w2 g 2 _ (.inr rfl))⟩
    have m4 : Bx (bk.Q 31 (w2.setCell ⟨g, 2, none⟩ (.slice A4 (ms.length + 1) c4')) B (fun k => M k ∨ w.heap.size ≤ k) (.slice A4 (ms.length + 1) c4') (ms ++ [bs])) := ⟨by
      have h := Kd.Q_far (p := ⟨g, 2, none⟩) m0.out (fun k hk => by
        rcases hk with hk | hk
        · intro e; rw [e] at hk; exact H.out.mg hk
        · have := H.out.glt; show k ≠ g; omega) (.slice A4 (ms.length + 1) c4')
      simpa using h⟩
    have hch : (w2.setCell ⟨g, 2, none⟩ (.slice A4 (ms.length + 1) c4')).heap[ch]? = w.heap[ch]? := m3.out.block ch H.out.clt (by
      rintro (h | h)
      · exact H.out.mc h
      · exact H.out.ne h.symm)
    have HCH := Bx.mk hch
    generalize w2.setCell ⟨g, 2, none⟩ (.slice A4 (ms.length + 1) c4') = w4 at *
    have c4x : w4.cell? ⟨g, 4, none⟩ = some (.int .i64 (al : Int)) := by rw [blk_cell hg3]; rfl
    have f4x : w4.frozen? ⟨g, 4, none⟩ = false := frozen_of_row w4 g 4 _ _ hg3
    have HG3 := Bx.mk hg3
    clear hg3 m0 m1 m2 hch
    go_wp2_with fail
    go_ret
    have hw : wrap64 ((al : Int) + 1) = ((al + 1 : Nat) : Int) := by have := HN.out; unfold wrap64; omega
    rw [hw]
    have hg5 := set_cells HG3.out (i := 4) (u := .int .i64 ((al + 1 : Nat) : Int)) (ds := #[.chan (some ch), .int .u16 nx, .slice A4 (ms.length + 1) c4', .int .i64 (sd : Int), .int .i64 ((al + 1 : Nat) : Int)]) rfl
    have hng : ¬ (M g ∨ w.heap.size ≤ g) := by
      rintro (h | h)
      · exact H.out.mg h
      · have := H.out.glt; omega
    have hnc : ¬ (M ch ∨ w.heap.size ≤ ch) := by
      rintro (h | h)
      · exact H.out.mc h
      · have := H.out.clt; omega
    refine ⟨rfl, { H.out with hg := ⟨_, hg5, Kd.Q_far (p := ⟨g, 4, none⟩) m4.out (fun k hk e => hng (by have e' : k = g := e; rw [← e']; exact hk)) _⟩, hc := ?_, s2 := ?_, m5 := ?_, a1 := ?_, hm := ?_, mg := hng, mc := hnc, bM := ?_ }, m3.out.trans (Fr.set _ w4 g 4 _ (.inr rfl))⟩
    · obtain ⟨s, r, hc⟩ := H.out.hc
      exact ⟨s, r, (Below.heap_setCell w4 ⟨g, 4, none⟩ _ ch H.out.ne.symm).trans (HCH.out.trans hc)⟩
    · have := H.out.s2; simp; omega
    · have := HN.out; simp; omega
    · have := HN.out; omega
    · intro m hmm
      rcases List.mem_append.1 hmm with hmm | hmm
      · exact H.out.hm m hmm
      · obtain rfl : m = bs := by simpa using hmm
        exact ⟨HN.out.1, HN.out.2.1⟩
    · rintro k (hk | hk)
      · exact H.out.bM k hk
      · exact Nat.le_trans HBS.out hk
end
end Go.Proofs.Ytbglagllgppggaa.Base
