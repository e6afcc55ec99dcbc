/- Layer 13: item, Again, by their contracts. -/
import Derived.Test.YtbglagllgppggaaPut
set_option linter.unusedVariables false
set_option linter.unusedSimpArgs false
namespace Go.Proofs.Ytbglagllgppggaa.Base
open Go.RowKit Go.Proofs.YtbglagllgppggaaW.PrintWords Go.Proofs.YtbglagllgppggaaW.PrintLast Go.Proofs.YtbglagllgppggaaW.PrintMore
open Go.Proofs.Ytbglagllgppggaa.Comm Go.Proofs.Ytbglagllgppggaa.PSenderPlays

theorem rowCell {w : World} {A : Option Addr} {ms : List (List Int)} (h : bk.C w A ms.length ms) (i : Nat) (hi : i < ms.length) : ∃ ad A' c', A = some ad ∧ w.cell? (ad.add i) = some (.slice A' (ms[i]).length c') ∧ (ms[i]).length ≤ c' ∧ (Kd.int .u8).C w A' (ms[i]).length ms[i] := by
  obtain ⟨ad, e, hcell⟩ := h.2.2 (by omega)
  obtain ⟨cs, h1, ⟨A', c', h2, h3, h4⟩, h5⟩ := hcell i ms[i] (by simp [hi])
  subst h2
  have h6 := h5 0 _ rfl
  have e1 : i * bk.sz + 0 = i := by show i * 1 + 0 = i; omega
  rw [e1] at h6
  exact ⟨ad, A', c', e, h6, h3, h4⟩
theorem plus_c (nx : Int) (i : Nat) (w : World) (h0 : 0 ≤ nx) (h1 : nx ≤ 65535) (hi : i ≤ 512) : Calls Try.prog 34 #[.int .u16 nx, .int .i64 (i : Int)] w fun e w' => e = .returned (.int .u16 ((nx + i) % 65536)) ∧ Drawn0 w w' :=
  serial_Plus_uint16.calls nx i ((nx + i) % 65536) w (by
    unfold serial_Plus_uint16.f
    rw [wrapu16, wrapu16]
    congr 1
    omega)
theorem far2 {X : World} {p : Addr} {u v v2 : Value} {b : Nat} (h : X.cell? p = some u) (hp : p.block ≠ b) : ((X.setCell ⟨b, 0, none⟩ v).setCell ⟨b, 1, none⟩ v2).cell? p = some u := by
  rw [World.cell?_of_block (Below.heap_setCell _ ⟨b, 1, none⟩ _ _ hp), World.cell?_of_block (Below.heap_setCell _ ⟨b, 0, none⟩ _ _ hp)]; exact h
section
variable {B : Nat} {M : Nat → Prop} {w w' : World} {g ch W : Nat} {nx : Int} {ms : List (List Int)} {sd al : Nat}
set_option maxRecDepth 100000 in
set_option maxHeartbeats 4000000 in
theorem item_x (i : Nat) (A2 : Option Addr) (cc : Nat) (c1 : w.cell? ⟨g, 1, none⟩ = some (.int .u16 nx)) (c2 : w.cell? ⟨g, 2, none⟩ = some (.slice A2 ms.length cc)) (hC2 : bk.C w A2 ms.length ms) (n0 : 0 ≤ nx) (n1 : nx ≤ 65535) (m5 : ms.length ≤ 512) (hmm : ∀ m ∈ ms, 1 ≤ m.length ∧ m.length ≤ 256) (hi : i < ms.length) :
    Calls Try.prog 26 #[.pointer (some ⟨g, 0, none⟩), .int .i64 (i : Int)] w fun e w' => ∃ A c, e = .returned (.agg #[.int .i64 ((nx + i) % 65536), .slice A (ms[i]).length c]) ∧ (Kd.int .u8).R 5 w' w.heap.size (fun _ => True) (.slice A (ms[i]).length c) ms[i] ∧ Below w.heap.size w w' := by
  obtain ⟨ad, A', c', rfl, ci, hlc, hCm⟩ := rowCell hC2 i hi
  have hm := hmm ms[i] (List.getElem_mem hi)
  have hpl := plus_c nx i
  have HPL := Bx.mk (fun w => hpl w n0 n1 (by omega))
  have hsq : IntKind.i64.wrap ((nx + i) % 65536) = (nx + i) % 65536 := by simp [IntKind.wrap, IntKind.signed, IntKind.bits]; omega
  have i0 : (0 : Int) ≤ (i : Int) := by omega
  have i1 : (i : Int) < (ms.length : Int) := by omega
  have hu35 := Try.underlying35
  generalize ms[i] = m at *
  have HM := Bx.mk hm
  have HC := Bx.mk hCm
  have HLC := Bx.mk hlc
  clear hm hCm hlc hC2 hpl hmm n0 n1 m5 hi
  obtain ⟨sq, hsqq⟩ : ∃ sq, sq = (nx + i) % 65536 := ⟨_, rfl⟩
  rw [← hsqq] at hsq HPL ⊢
  clear hsqq
  go_enter Try.func26, Try.ntmps26
  go_wp2_with fail
  have hbl := (Below.refl w.heap.size w).alloc (Nat.le_refl _) (.cells #[.int .i64 0, .slice none 0 0] 35)
  have hnew := heap_alloc_new w (.cells #[.int .i64 0, .slice none 0 0] 35)
  have hsz : (w.alloc (.cells #[.int .i64 0, .slice none 0 0] 35)).heap.size = w.heap.size + 1 := by simp
  have e1 := pw_cell_below hbl c1
  have e2 := pw_cell_below hbl c2
  have ei := pw_cell_below hbl ci
  have HC1 := Bx.mk (Kd.C_below HC.out hbl)
  generalize w.alloc (.cells #[.int .i64 0, .slice none 0 0] 35) = w1 at *
  have r0 : w1.cell? ⟨w.heap.size, 0, none⟩ = some (.int .i64 0) := by rw [blk_cell hnew]; rfl
  have r1 : w1.cell? ⟨w.heap.size, 1, none⟩ = some (.slice none 0 0) := by rw [blk_cell hnew]; rfl
  have z0 : w1.frozen? ⟨w.heap.size, 0, none⟩ = false := frozen_of_row w1 _ 0 _ _ hnew
  have z1 : w1.frozen? ⟨w.heap.size, 1, none⟩ = false := frozen_of_row w1 _ 1 _ _ hnew
  have HNEW := Bx.mk hnew
  have HBL := Bx.mk hbl
  have HSZ := Bx.mk hsz
  obtain ⟨bq, hbq⟩ : ∃ bq, bq = w.heap.size := ⟨_, rfl⟩
  rw [← hbq] at r0 r1 z0 z1 HNEW HSZ ⊢
  have ng : g ≠ bq := by rw [hbq]; exact Nat.ne_of_lt (World.block_lt_of_cell? w _ c1)
  have na : (ad.add i).block ≠ bq := by rw [hbq]; exact Nat.ne_of_lt (World.block_lt_of_cell? w _ ci)
  have NG := Bx.mk ng
  have NA := Bx.mk na
  have HBQ := Bx.mk hbq
  clear hbl hnew hsz c1 c2 ci HC hbq ng na
  go_region_held3 (fun w' => w'.cell? ⟨g, 1, none⟩ = some (.int .u16 nx) ∧ w'.cell? ⟨g, 2, none⟩ = some (.slice (some ad) ms.length cc) ∧ w'.cell? (ad.add i) = some (.slice A' m.length c')) (first | exact ⟨e1, e2, ei⟩ | exact ⟨far2 e1 NG.out, far2 e2 NG.out, far2 ei NA.out⟩ | go_keep) (first | (go_at_call 34; (with_reducible refine (HPL.out _).mono ?_); rintro e w2 ⟨rfl, hd⟩; obtain ⟨nd, rfl⟩ := hd.out; clear hd) | (go_at_call 25; (with_reducible refine (clone_c A' c' m _ ?hc HLC.out HM.out.1 HM.out.2).mono ?_); (case hc => first | exact Kd.C_drewN (Kd.C_drew HC1.out) _ | exact Kd.C_drewN HC1.out _ | exact HC1.out); rintro e w2 ⟨v, rfl, hr, hb'⟩; obtain ⟨A3, c3, rfl, hc3, hC3⟩ := Kd.R_reads hr; clear hC3; have hb : Below w1.heap.size w1 w2 := ⟨hb'.os, hb'.tape, hb'.output, hb'.size, hb'.block⟩; have n0 := Bx.mk hr; have n1 := Bx.mk hb; have e1' := pw_cell_below hb e1; have e2' := pw_cell_below hb e2; have ei' := pw_cell_below hb ei; have r0' := pw_cell_below hb r0; have r1' := pw_cell_below hb r1; have hn2 := (hb.block bq (by have := HSZ.out; omega)).trans HNEW.out; have z0' : w2.frozen? ⟨bq, 0, none⟩ = false := frozen_of_row w2 _ 0 _ _ hn2; have z1' : w2.frozen? ⟨bq, 1, none⟩ = false := frozen_of_row w2 _ 1 _ _ hn2; have N2 := Bx.mk hn2; clear hr hb hb' e1 e2 ei r0 r1 z0 z1 hn2; have e1 := e1'; have e2 := e2'; have ei := ei'; have r0 := r0'; have r1 := r1'; have z0 := z0'; have z1 := z1'; clear e1' e2' ei' r0' r1' z0' z1'))
  have hfin := set_cells (set_cells N2.out (i := 0) (u := .int .i64 sq) (ds := #[.int .i64 sq, .slice none 0 0]) rfl) (i := 1) (u := .slice A3 m.length c3) (ds := #[.int .i64 sq, .slice A3 m.length c3]) rfl
  have hR := Kd.R_far (p := ⟨bq, 1, none⟩) (Kd.R_far (p := ⟨bq, 0, none⟩) (Kd.R_bound n0.out) (fun k hk => by have h1 := hk.2.1; have h2 := HSZ.out; simp at h1; show k ≠ bq; omega) (.int .i64 sq)) (fun k hk => by have h1 := hk.2.1; have h2 := HSZ.out; simp at h1; show k ≠ bq; omega) (.slice A3 m.length c3)
  have hB : Below bq w ((w2.setCell ⟨bq, 0, none⟩ (.int .i64 sq)).setCell ⟨bq, 1, none⟩ (.slice A3 m.length c3)) := by
    rw [HBQ.out]
    refine (HBL.out.trans (n1.out.mono (by have := HSZ.out; have := HBQ.out; omega))).trans ⟨rfl, rfl, rfl, by simp [World.setCell], fun k hk => ?_⟩
    have h2 : k ≠ w.heap.size := by omega
    exact (Below.heap_setCell _ ⟨w.heap.size, 1, none⟩ _ k h2).trans (Below.heap_setCell _ ⟨w.heap.size, 0, none⟩ _ k h2)
  have HFIN := Bx.mk hfin
  have HR := Bx.mk hR
  have HB := Bx.mk hB
  clear hfin hR hB e1 e2 ei r0 r1 z0 z1
  go_wp2_with fail
  refine bodyPost_ret (v := .agg #[.int .i64 sq, .slice A3 m.length c3]) ?_ rfl ⟨A3, c3, rfl, ?_, ?_⟩
  · exact results_cell_row (fn := Try.f26) (p := 4) (ty := 35) rfl _ _ bq 35 #[.int .i64 sq, .slice A3 m.length c3] (0, 0) _ rfl HFIN.out hu35 rfl (by kernel_rfl)
  · exact Kd.R_mono (Kd.R_lower HR.out (by have := HSZ.out; have := HBQ.out; simp; omega)) (fun _ _ => trivial)
  · rw [← HBQ.out]; exact HB.out
theorem item_c (i : Nat) (h : SA B M w g ch W nx ms sd al) (hi : i < ms.length) :
    Calls Try.prog 26 #[.pointer (some ⟨g, 0, none⟩), .int .i64 (i : Int)] w fun e w' => ∃ A c, e = .returned (.agg #[.int .i64 ((nx + i) % 65536), .slice A (ms[i]).length c]) ∧ (Kd.int .u8).R 5 w' w.heap.size (fun _ => True) (.slice A (ms[i]).length c) ms[i] ∧ Below w.heap.size w w' := by
  obtain ⟨A2, cc, hg, hQ, hl, hC2, c0, c1, c2, c3, c4⟩ := h.cells
  exact item_x i A2 cc c1 c2 hC2 h.n0 h.n1 h.m5 h.hm hi
end
end Go.Proofs.Ytbglagllgppggaa.Base
