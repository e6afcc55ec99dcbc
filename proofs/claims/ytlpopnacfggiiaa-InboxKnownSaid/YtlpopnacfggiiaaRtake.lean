/- Layer 14: the document's Take, by its contract. -/
import Derived.Test.YtlpopnacfggiiaaRef
import Derived.Test.YtlpopnacfggiiaaOrder
set_option linter.unusedVariables false
set_option linter.unusedSimpArgs false
namespace Go.Proofs.Ytlpopnacfggiiaa.Ref
open Go.RowKit Go.Proofs.Ytlpopnacfggiiaa.Base Go.Proofs.Ytlpopnacfggiiaa.Byt Go.Proofs.YtlpopnacfggiiaaW.PrintWords Go.Proofs.YtlpopnacfggiiaaW.PrintLast Go.Proofs.YtlpopnacfggiiaaW.PrintMore
open Go.Proofs.Ytlpopnacfggiiaa.Order (tmodNeg tmodPos w64)
open Go.Proofs.Ytlpopnacfggiiaa.PInboxKnown

theorem bring_f (x : Int) (h : -9223372036854775808 ≤ x ∧ x ≤ 9223372036854775807) : catenaryref00_Bring.f x 65536 = some (x % 65536) := by
  have e0 := Int.emod_nonneg x (b := 65536) (by decide)
  have e1 := Int.emod_lt_of_pos x (b := 65536) (by decide)
  unfold catenaryref00_Bring.f
  rw [if_neg (by decide)]
  by_cases h1 : Int.tmod x 65536 < 0
  · rw [if_pos h1, tmodNeg x 65536 (by decide) h1, w64 (by omega)]
  · rw [if_neg h1, tmodPos x 65536 (by decide) h1]
theorem ahead_near (nx seq : Int) (d : Nat) (w : World) (h0 : 0 ≤ nx) (h1 : nx ≤ 65535) (s0 : 0 ≤ seq) (s1 : seq ≤ 65535) (hd : (seq - nx) % 65536 = d) (hd4 : d < 4) : Calls Try.prog 26 #[.int .i64 nx, .int .i64 seq] w fun e w' => e = .returned (.int .i64 (d : Int)) ∧ Drawn0 w w' :=
  catenaryref02_Ahead.calls nx seq (d : Int) w (by
    unfold catenaryref02_Ahead.f
    rw [w64 (by omega), bring_f _ (by omega), hd, Option.bind_some, if_neg (by omega)])
theorem ahead_far (nx seq : Int) (w : World) (h0 : 0 ≤ nx) (h1 : nx ≤ 65535) (s0 : 0 ≤ seq) (s1 : seq ≤ 65535) (hd : ¬ (seq - nx) % 65536 < 4) : ∃ r : Int, (r < 0 ∨ 3 < r) ∧ Calls Try.prog 26 #[.int .i64 nx, .int .i64 seq] w fun e w' => e = .returned (.int .i64 r) ∧ Drawn0 w w' := by
  by_cases h : (seq - nx) % 65536 ≥ 32768
  · refine ⟨(seq - nx) % 65536 - 65536, by omega, catenaryref02_Ahead.calls nx seq _ w ?_⟩
    unfold catenaryref02_Ahead.f
    rw [w64 (by omega), bring_f _ (by omega), Option.bind_some, if_pos h, w64 (by omega)]
  · refine ⟨(seq - nx) % 65536, by omega, catenaryref02_Ahead.calls nx seq _ w ?_⟩
    unfold catenaryref02_Ahead.f
    rw [w64 (by omega), bring_f _ (by omega), Option.bind_some, if_neg h]
theorem take_bad (q : Nat) (nx seq : Int) (rs : List (Option Sl)) (v : Sl) (w : World) (h : QA w q nx rs) (hs : ¬ (0 ≤ seq ∧ seq ≤ 65535)) :
    Calls Try.prog 12 #[.pointer (some ⟨q, 0, none⟩), .int .i64 seq, enc v] w fun e w' => e = .returned (.tuple #[.slice none 0 0, .int .i64 2]) ∧ w = w' := by
  clear h
  by_cases h1 : seq < 0
  · clear hs
    go_enter Try.func12, Try.ntmps12
    go_wp2
    go_ret2
    exact ⟨rfl, rfl⟩
  · have h2 : 65535 < seq := by omega
    clear hs
    go_enter Try.func12, Try.ntmps12
    go_wp2
    go_ret2
    exact ⟨rfl, rfl⟩
theorem take_far (q : Nat) (nx seq : Int) (rs : List (Option Sl)) (v : Sl) (w : World) (h : QA w q nx rs) (s0 : 0 ≤ seq) (s1 : seq ≤ 65535) (hd : ¬ (seq - nx) % 65536 < 4) :
    Calls Try.prog 12 #[.pointer (some ⟨q, 0, none⟩), .int .i64 seq, enc v] w fun e w' => e = .returned (.tuple #[.slice none 0 0, .int .i64 9]) ∧ Drawn0 w w' := by
  have c0 : w.cell? ⟨q, 0, none⟩ = some (.int .i64 nx) := h.cell 0
  obtain ⟨r, hr, hc⟩ := ahead_far nx seq w h.h0 h.h1 s0 s1 hd
  clear h hd
  go_enter Try.func12, Try.ntmps12
  go_wp2_with fail
  refine hc.mono ?_
  rintro e w1 ⟨rfl, hdr⟩
  obtain ⟨nd, rfl⟩ := hdr.out
  clear hdr hc c0
  by_cases h1 : r < 0
  · clear hr
    go_wp2_with fail
    go_ret2
    exact ⟨rfl, ⟨⟨nd, rfl⟩⟩⟩
  · have h2 : 3 < r := by omega
    clear hr
    go_wp2_with fail
    go_ret2
    exact ⟨rfl, ⟨⟨nd, rfl⟩⟩⟩
structure At (w : World) (s : Sl) (bs : List Int) : Prop where
  hn : s.n = bs.length
  hc : s.n ≤ s.c
  hC : (Kd.int .u8).C w s.A bs.length bs
def inB (s : Sl) (ok : Nat → Prop) : Prop := ∀ ad, s.A = some ad → ok ad.block
theorem C_kept {w w' : World} {A : Option Addr} {n : Nat} {bs : List Int} (h : (Kd.int .u8).C w A n bs) (hk : ∀ ad, A = some ad → 0 < n → w'.heap[ad.block]? = w.heap[ad.block]?) : (Kd.int .u8).C w' A n bs := by
  refine ⟨h.1, h.2.1, fun hp => ?_⟩
  obtain ⟨ad, e, hcell⟩ := h.2.2 hp
  refine ⟨ad, e, fun j p hj => ?_⟩
  obtain ⟨cs, h1, h2, h3⟩ := hcell j p hj
  refine ⟨cs, h1, h2, fun i u hu => ?_⟩
  have hb : ∀ k, (ad.add k).block = ad.block := fun k => by unfold Addr.add; split <;> rfl
  have hr := h3 i u hu
  unfold World.cell? at hr ⊢
  rw [hb] at hr ⊢
  rw [hk ad e hp]; exact hr
theorem At.kept {w w' : World} {s : Sl} {bs : List Int} (h : At w s bs) (hk : ∀ ad, s.A = some ad → w'.heap[ad.block]? = w.heap[ad.block]?) : At w' s bs := ⟨h.hn, h.hc, C_kept h.hC (fun ad e _ => hk ad e)⟩
theorem only_ret {g : Nat} {w w' : World} (h : Drawn0 w w') : Only g w w' := by
  obtain ⟨nd, rfl⟩ := h.out
  exact ⟨rfl, rfl, rfl, Nat.le_refl _, fun _ _ _ => rfl⟩
theorem only_low {q : Nat} {u v w : World} (h : Only q u v) (k : Below u.heap.size v w) : Only q u w :=
  ⟨k.os.trans h.os, k.tape.trans h.tape, k.output.trans h.output, Nat.le_trans h.size k.size, fun i hi h1 => (k.block i hi).trans (h.block i hi h1)⟩
theorem four {rs : List (Option Sl)} (h : rs.length = 4) : ∃ a b c e, rs = [a, b, c, e] := by
  match rs, h with
  | [a, b, c, e], _ => exact ⟨a, b, c, e, rfl⟩
theorem qc_flag {nx : Int} {rs : List (Option Sl)} {d : Nat} (h : rs.length = 4) (hd : d < 4) : (qc nx rs)[1 + d]? = some (.bool (rs.getD d none).isSome) := by
  obtain ⟨a, b, c, e, rfl⟩ := four h
  have : d = 0 ∨ d = 1 ∨ d = 2 ∨ d = 3 := by omega
  rcases this with rfl | rfl | rfl | rfl <;> rfl
theorem qc_slice {nx : Int} {rs : List (Option Sl)} {d : Nat} (h : rs.length = 4) (hd : d < 4) : (qc nx rs)[5 + d]? = some (enc ((rs.getD d none).getD nils)) := by
  obtain ⟨a, b, c, e, rfl⟩ := four h
  have : d = 0 ∨ d = 1 ∨ d = 2 ∨ d = 3 := by omega
  rcases this with rfl | rfl | rfl | rfl <;> rfl
theorem qc_flag_slice {nx : Int} {rs : List (Option Sl)} {d : Nat} (h : rs.length = 4) (hd : d < 4) : ((qc nx rs).setIfInBounds (1 + d) (.bool true))[5 + d]? = some (enc ((rs.getD d none).getD nils)) := by
  obtain ⟨a, b, c, e, rfl⟩ := four h
  have : d = 0 ∨ d = 1 ∨ d = 2 ∨ d = 3 := by omega
  rcases this with rfl | rfl | rfl | rfl <;> rfl
theorem qc_set {nx : Int} {rs : List (Option Sl)} {d : Nat} (h : rs.length = 4) (hd : d < 4) (x : Sl) : ((qc nx rs).setIfInBounds (1 + d) (.bool true)).setIfInBounds (5 + d) (enc x) = qc nx (rs.set d (some x)) := by
  obtain ⟨a, b, c, e, rfl⟩ := four h
  have : d = 0 ∨ d = 1 ∨ d = 2 ∨ d = 3 := by omega
  rcases this with rfl | rfl | rfl | rfl <;> rfl
set_option maxRecDepth 100000 in
set_option maxHeartbeats 4000000 in
theorem take_near (q : Nat) (nx seq : Int) (rs : List (Option Sl)) (d : Nat) (A : Option Addr) (bs : List Int) (c : Nat) (w : World) (h : QA w q nx rs) (s0 : 0 ≤ seq) (s1 : seq ≤ 65535) (hd : (seq - nx) % 65536 = d) (hd4 : d < 4)
    (hv : (Kd.int .u8).C w A bs.length bs) (hc : bs.length ≤ c) (hl : bs.length < 140737488355328) (hA : ∀ ad, A = some ad → 0 < bs.length → ad.block ≠ q) :
    Calls Try.prog 12 #[.pointer (some ⟨q, 0, none⟩), .int .i64 seq, .slice A bs.length c] w fun e w' => ∃ vv x, e = .returned (.tuple #[vv, .int .i64 0]) ∧ kd.R 27 w' w.heap.size (fun _ => True) vv (told (came rs d x)) ∧
      QA w' q ((nx + (lead (came rs d x) : Nat)) % 65536) (rest (came rs d x)) ∧ Only q w w' ∧ (rs.getD d none = none → At w' x bs ∧ inB x (fun k => w.heap.size ≤ k ∧ k < w'.heap.size)) := by
  have c0 : w.cell? ⟨q, 0, none⟩ = some (.int .i64 nx) := h.cell 0
  have c1 : w.cell? ⟨q, 1 + d, none⟩ = some (.bool (rs.getD d none).isSome) := (h.cell _).trans (qc_flag h.hl hd4)
  have hA1 := ahead_near nx seq d w h.h0 h.h1 s0 s1 hd hd4
  have d0 : (0 : Int) ≤ (d : Int) := by omega
  have d1 : (d : Int) < 4 := by omega
  have d2 : ¬ (3 : Int) < (d : Int) := by omega
  have H := Bx.mk h
  have HV := Bx.mk hv
  have HL := Bx.mk hl
  have HAQ := Bx.mk hA
  have HD4 := Bx.mk hd4
  clear h hv hl hA hd hd4
  go_enter Try.func12, Try.ntmps12
  go_wp2_with fail
  refine hA1.mono ?_
  rintro e w1 ⟨rfl, hdr⟩
  obtain ⟨nd, rfl⟩ := hdr.out
  clear hdr hA1 c0
  have K1 := Bx.mk (H.out.kept (w' := w.drewN nd) rfl)
  have V1 := Bx.mk (C_kept (w' := w.drewN nd) HV.out (fun _ _ _ => rfl))
  have O1 : Bx (Only q w (w.drewN nd)) := ⟨⟨rfl, rfl, rfl, Nat.le_refl _, fun _ _ _ => rfl⟩⟩
  have c1 : (w.drewN nd).cell? ⟨q, 1 + d, none⟩ = some (.bool (rs.getD d none).isSome) := c1
  have HQW := Bx.mk H.out.lt
  generalize w.drewN nd = w1 at *
  have H := K1
  have HV := V1
  clear K1 V1
  cases hx : rs.getD d none with
  | none =>
    rw [hx] at c1
    have f1 : w1.frozen? ⟨q, 1 + d, none⟩ = false := frozen_of_row w1 q (1 + d) _ _ H.out.hq
    have HS2 : Bx ((w1.setCell ⟨q, 1 + d, none⟩ (.bool true)).heap[q]? = some (.cells ((qc nx rs).setIfInBounds (1 + d) (.bool true)) 59 (0, 0))) := ⟨blk_set H.out.hq (1 + d) (.bool true)⟩
    have HO2 : Bx (Only q w (w1.setCell ⟨q, 1 + d, none⟩ (.bool true))) := ⟨only_trans O1.out ⟨rfl, rfl, rfl, by simp [World.setCell], fun k _ hk => Below.heap_setCell w1 ⟨q, 1 + d, none⟩ _ k hk⟩⟩
    have HV2 : Bx ((Kd.int .u8).C (w1.setCell ⟨q, 1 + d, none⟩ (.bool true)) A bs.length bs) := ⟨C_kept HV.out (fun ad e hp => Below.heap_setCell w1 ⟨q, 1 + d, none⟩ _ _ (HAQ.out ad e hp))⟩
    have hf : catenaryref00_CopyBytes.f bs = some bs := by
      unfold catenaryref00_CopyBytes.f
      rw [if_pos (by have := HL.out; simp; omega)]; rfl
    have HF := Bx.mk hf
    clear hf
    go_wp2_with fail
    clear f1 c1
    have hsz2 : Bx (q < (w1.setCell ⟨q, 1 + d, none⟩ (.bool true)).heap.size) := ⟨by simp [World.setCell]; exact H.out.lt⟩
    generalize w1.setCell ⟨q, 1 + d, none⟩ (.bool true) = w2 at *
    have c5 : w2.cell? ⟨q, 5 + d, none⟩ = some (.slice none 0 0) := by rw [blk_cell HS2.out, qc_flag_slice H.out.hl HD4.out, hx]; rfl
    have f5 : w2.frozen? ⟨q, 5 + d, none⟩ = false := frozen_of_row w2 q (5 + d) _ _ HS2.out
    go_region_held3 (fun _ => True) (first | exact trivial | go_keep) (first | (go_at_call 27; (with_reducible refine (catenaryref00_CopyBytes.calls A c bs bs _ ?hv hc HF.out).mono ?_); (case hv => exact C_kept HV2.out (fun _ _ _ => rfl)); rintro e w3 ⟨x0, rfl, hr, hb'⟩; have hb : Below w2.heap.size w2 w3 := ⟨hb'.os, hb'.tape, hb'.output, hb'.size, hb'.block⟩; clear hb'; have n0 := Bx.mk hr; have n1 := Bx.mk hb; have c5' := pw_cell_below hb c5; have f5' : w3.frozen? ⟨q, 5 + d, none⟩ = false := frozen_of_row w3 q (5 + d) _ _ ((hb.block q hsz2.out).trans HS2.out); clear hr hb c5 f5; have c5 := c5'; have f5 := f5'; clear c5' f5'; obtain ⟨A3, c3, rfl, hc3, hC3⟩ := Kd.R_reads n0.out))
    have hq3 : w3.heap[q]? = some (.cells ((qc nx rs).setIfInBounds (1 + d) (.bool true)) 59 (0, 0)) := (n1.out.block q hsz2.out).trans HS2.out
    have hq4 := blk_set hq3 (5 + d) (.slice A3 bs.length c3)
    have hes := qc_set (nx := nx) H.out.hl HD4.out ⟨A3, bs.length, c3⟩
    rw [show enc ⟨A3, bs.length, c3⟩ = .slice A3 bs.length c3 from rfl] at hes
    rw [hes] at hq4
    have hset : Only q w3 (w3.setCell ⟨q, 5 + d, none⟩ (.slice A3 bs.length c3)) := ⟨rfl, rfl, rfl, by simp [World.setCell], fun k _ hk => Below.heap_setCell w3 ⟨q, 5 + d, none⟩ _ k hk⟩
    have O4 : Bx (Only q w (w3.setCell ⟨q, 5 + d, none⟩ (.slice A3 bs.length c3))) := ⟨only_trans (only_low HO2.out (n1.out.mono HO2.out.size)) hset⟩
    obtain ⟨x, hxx⟩ : ∃ x : Sl, x = ⟨A3, bs.length, c3⟩ := ⟨_, rfl⟩
    have X4 : Bx (rs.getD d none = none → At (w3.setCell ⟨q, 5 + d, none⟩ (.slice A3 bs.length c3)) x bs ∧ inB x (fun k => w.heap.size ≤ k ∧ k < (w3.setCell ⟨q, 5 + d, none⟩ (.slice A3 bs.length c3)).heap.size ∧ k ≠ q)) := ⟨fun _ => by
      subst hxx
      have hbs : ∀ ad, A3 = some ad → w2.heap.size ≤ ad.block ∧ ad.block < w3.heap.size := fun ad e => by
        subst e
        exact ⟨Kd.R_base n0.out ad.block rfl, Kd.R_lt n0.out ad.block rfl⟩
      refine ⟨⟨rfl, hc3, C_kept hC3 (fun ad e _ => Below.heap_setCell w3 ⟨q, 5 + d, none⟩ _ _ ?_)⟩, fun ad e => ?_⟩
      · have := hbs ad e; have := hsz2.out; show ad.block ≠ q; omega
      · have h1 := hbs ad e; have h2 := hsz2.out; have h3 := HO2.out.size
        simp [World.setCell]; omega⟩
    have H4 : Bx (QA (w3.setCell ⟨q, 5 + d, none⟩ (.slice A3 bs.length c3)) q nx (came rs d x)) := ⟨by
      have e1 : came rs d x = rs.set d (some x) := by unfold came; rw [hx]; rfl
      rw [e1, hxx]
      exact ⟨hq4, H.out.h0, H.out.h1, by rw [List.length_set]; exact H.out.hl⟩⟩
    clear hq3 hq4 hes hset hxx hC3 hc3 c5 f5 n0 n1 hsz2 HV2 HO2 HS2 O1 H HV hx HF HL HAQ
    obtain ⟨a1, ha1⟩ : ∃ a1, a1 = came rs d x := ⟨_, rfl⟩
    rw [← ha1] at H4
    have HA1 := Bx.mk ha1
    clear ha1
    generalize w3.setCell ⟨q, 5 + d, none⟩ (.slice A3 bs.length c3) = w4 at *
    go_wp2_with fail
    go_loopw [9] (fun v9 wr => ∃ (us : List Sl) (mx : Int) (a2 : List (Option Sl)), Bx (kd.R 27 wr w4.heap.size (fun _ => True) v9 us) ∧ Bx (QA wr q mx a2) ∧ Bx (Only q w4 wr) ∧ Bx (us ++ told a2 = told a1) ∧ Bx ((mx + (lead a2 : Nat)) % 65536 = (nx + (lead a1 : Nat)) % 65536) ∧ Bx (rest a2 = rest a1)) (fun v9 _ => 4 - lenOf v9)
    case atStart => exact ⟨[], nx, a1, ⟨Kd.R_nil _ _ _ _ _⟩, ⟨H4.out.kept rfl⟩, ⟨⟨rfl, rfl, rfl, Nat.le_refl _, fun _ _ _ => rfl⟩⟩, ⟨rfl⟩, ⟨rfl⟩, ⟨rfl⟩⟩
    case round =>
      have HL1 := Bx.mk (show (told a1).length ≤ 4 by rw [lead_told, ← H4.out.hl]; exact lead_le _)
      have HQ4 := Bx.mk H4.out.lt
      clear H4
      obtain ⟨us, mx, a2, HR, HA, HO, HU, HM, HRE⟩ := hrel
      obtain ⟨A9, c9, rfl, hc9, hC9⟩ := Kd.R_reads HR.out
      clear hc9 hC9
      obtain ⟨a, b, cc, ee, rfl⟩ := four HA.out.hl
      cases a with
      | none =>
        have c1 : wr.cell? ⟨q, 1, none⟩ = some (.bool false) := HA.out.cell 1
        go_wp2_with fail
        go_ret2
        refine ⟨.slice A9 us.length c9, x, rfl, ?_, ?_, only_trans O4.out HO.out, fun hn => ?_⟩
        · have e1 := HU.out
          rw [told_none, List.append_nil] at e1
          rw [← HA1.out, ← e1]
          exact Kd.R_lower HR.out O4.out.size
        · have hm := HM.out
          rw [lead_none] at hm
          have hmx : mx % 65536 = mx := by have := HA.out.h0; have := HA.out.h1; omega
          rw [← HA1.out, ← hm, ← HRE.out, rest_none]
          simp only [Int.natCast_zero, Int.add_zero, hmx]
          exact HA.out
        · obtain ⟨h1, h2⟩ := X4.out hn
          exact ⟨h1.kept (fun ad e => HO.out.block _ (h2 ad e).2.1 (h2 ad e).2.2), fun ad e => ⟨(h2 ad e).1, Nat.lt_of_lt_of_le (h2 ad e).2.1 HO.out.size⟩⟩
      | some u =>
        have c1 : wr.cell? ⟨q, 1, none⟩ = some (.bool true) := HA.out.cell 1
        have c5 : wr.cell? ⟨q, 5, none⟩ = some (.slice u.A u.n u.c) := HA.out.cell 5
        have HLU : Bx (us.length + 1 ≤ 4) := ⟨by
          have := congrArg List.length HU.out
          rw [told_some, List.length_append, List.length_cons] at this
          have := HL1.out
          omega⟩
        go_wp2_with (at_builtin; go_must (refine Kd.R_append_rows kd (w0 := wr) w4.heap.size rfl (.tmp 52) (.tmp 58) 35 27 (.slice none 0 0) 24 rfl Try.underlying35 Byt.infoE rfl (by decide) (by omega) (.slice A9 us.length c9) us [u] _ _ _ (fun _ => True) (fun _ => False) rfl rfl ?aO ?aR (fun _ _ h => h) (fun _ h => h.elim) ?aF ?aB ?aS ?aL ?_; (case aO => exact Kd.R_alloc HR.out _); (case aR => exact one_C _ u _ rfl); (case aF => exact fun _ _ => trivial); (case aB => exact (Below.refl _ _).alloc HO.out.size _); (case aS => simp; have := HO.out.size; omega); (case aL => have := HLU.out; simp; omega); intro v1 w5 ho hb hg hat; have n0 := Bx.mk ho; have n1 := Bx.mk (HA.out.kept (hb.block q HQ4.out)); have n2 := Bx.mk (only_low HO.out hb); clear ho hb hg hat))
        clear HA HO HR
        refine (on_c q mx (some u) b cc ee _ n1.out).mono ?_
        rintro e w6 ⟨rfl, hq6, ho6⟩
        have m0 := Bx.mk (R_two n0.out (Two.of_only (g := q) ho6) HQ4.out HQ4.out)
        have m1 := Bx.mk hq6
        have m2 := Bx.mk (only_trans n2.out ho6)
        clear n0 n1 n2 hq6 ho6 c1 c5
        go_wp2_with fail
        go_roundw
        case rel =>
          refine ⟨us ++ [u], (mx + 1) % 65536, [b, cc, ee, none], m0, m1, m2, ⟨?_⟩, ⟨?_⟩, ⟨?_⟩⟩
          · have e1 := HU.out
            rw [told_some] at e1
            rw [show [b, cc, ee, none] = [b, cc, ee] ++ [none] from rfl, told_snoc, ← e1]; simp
          · have e1 := HM.out
            rw [lead_some] at e1
            rw [show [b, cc, ee, none] = [b, cc, ee] ++ [none] from rfl, lead_snoc, ← e1]; omega
          · have e1 := HRE.out
            rw [← e1, show [b, cc, ee, none] = [b, cc, ee] ++ [none] from rfl, rest_next]
        case measure =>
          have e1 := lenR m0.out
          have e2 := HLU.out
          simp only [List.length_append, List.length_singleton] at e1
          show 4 - lenOf v1 < 4 - us.length
          omega
  | some u =>
    rw [hx] at c1
    go_wp2_with fail
    obtain ⟨x, hxx⟩ : ∃ x : Sl, x = nils := ⟨_, rfl⟩
    have H4 : Bx (QA w1 q nx (came rs d x)) := ⟨by
      have e1 : came rs d x = rs := by unfold came; rw [hx]; rfl
      rw [e1]; exact H.out⟩
    have X4 : Bx (rs.getD d none = none → At w1 x bs ∧ inB x (fun k => w.heap.size ≤ k ∧ k < w1.heap.size ∧ k ≠ q)) := ⟨fun hn => by rw [hx] at hn; cases hn⟩
    have O4 := O1
    clear O1 H HV hx hxx HL HAQ c1
    obtain ⟨a1, ha1⟩ : ∃ a1, a1 = came rs d x := ⟨_, rfl⟩
    rw [← ha1] at H4
    have HA1 := Bx.mk ha1
    clear ha1
    generalize w1 = w4 at *
    go_wp2_with fail
    go_loopw [9] (fun v9 wr => ∃ (us : List Sl) (mx : Int) (a2 : List (Option Sl)), Bx (kd.R 27 wr w4.heap.size (fun _ => True) v9 us) ∧ Bx (QA wr q mx a2) ∧ Bx (Only q w4 wr) ∧ Bx (us ++ told a2 = told a1) ∧ Bx ((mx + (lead a2 : Nat)) % 65536 = (nx + (lead a1 : Nat)) % 65536) ∧ Bx (rest a2 = rest a1)) (fun v9 _ => 4 - lenOf v9)
    case atStart => exact ⟨[], nx, a1, ⟨Kd.R_nil _ _ _ _ _⟩, ⟨H4.out.kept rfl⟩, ⟨⟨rfl, rfl, rfl, Nat.le_refl _, fun _ _ _ => rfl⟩⟩, ⟨rfl⟩, ⟨rfl⟩, ⟨rfl⟩⟩
    case round =>
      have HL1 := Bx.mk (show (told a1).length ≤ 4 by rw [lead_told, ← H4.out.hl]; exact lead_le _)
      have HQ4 := Bx.mk H4.out.lt
      clear H4
      obtain ⟨us, mx, a2, HR, HA, HO, HU, HM, HRE⟩ := hrel
      obtain ⟨A9, c9, rfl, hc9, hC9⟩ := Kd.R_reads HR.out
      clear hc9 hC9
      obtain ⟨a, b, cc, ee, rfl⟩ := four HA.out.hl
      cases a with
      | none =>
        have c1 : wr.cell? ⟨q, 1, none⟩ = some (.bool false) := HA.out.cell 1
        go_wp2_with fail
        go_ret2
        refine ⟨.slice A9 us.length c9, x, rfl, ?_, ?_, only_trans O4.out HO.out, fun hn => ?_⟩
        · have e1 := HU.out
          rw [told_none, List.append_nil] at e1
          rw [← HA1.out, ← e1]
          exact Kd.R_lower HR.out O4.out.size
        · have hm := HM.out
          rw [lead_none] at hm
          have hmx : mx % 65536 = mx := by have := HA.out.h0; have := HA.out.h1; omega
          rw [← HA1.out, ← hm, ← HRE.out, rest_none]
          simp only [Int.natCast_zero, Int.add_zero, hmx]
          exact HA.out
        · obtain ⟨h1, h2⟩ := X4.out hn
          exact ⟨h1.kept (fun ad e => HO.out.block _ (h2 ad e).2.1 (h2 ad e).2.2), fun ad e => ⟨(h2 ad e).1, Nat.lt_of_lt_of_le (h2 ad e).2.1 HO.out.size⟩⟩
      | some u =>
        have c1 : wr.cell? ⟨q, 1, none⟩ = some (.bool true) := HA.out.cell 1
        have c5 : wr.cell? ⟨q, 5, none⟩ = some (.slice u.A u.n u.c) := HA.out.cell 5
        have HLU : Bx (us.length + 1 ≤ 4) := ⟨by
          have := congrArg List.length HU.out
          rw [told_some, List.length_append, List.length_cons] at this
          have := HL1.out
          omega⟩
        go_wp2_with (at_builtin; go_must (refine Kd.R_append_rows kd (w0 := wr) w4.heap.size rfl (.tmp 52) (.tmp 58) 35 27 (.slice none 0 0) 24 rfl Try.underlying35 Byt.infoE rfl (by decide) (by omega) (.slice A9 us.length c9) us [u] _ _ _ (fun _ => True) (fun _ => False) rfl rfl ?aO ?aR (fun _ _ h => h) (fun _ h => h.elim) ?aF ?aB ?aS ?aL ?_; (case aO => exact Kd.R_alloc HR.out _); (case aR => exact one_C _ u _ rfl); (case aF => exact fun _ _ => trivial); (case aB => exact (Below.refl _ _).alloc HO.out.size _); (case aS => simp; have := HO.out.size; omega); (case aL => have := HLU.out; simp; omega); intro v1 w5 ho hb hg hat; have n0 := Bx.mk ho; have n1 := Bx.mk (HA.out.kept (hb.block q HQ4.out)); have n2 := Bx.mk (only_low HO.out hb); clear ho hb hg hat))
        clear HA HO HR
        refine (on_c q mx (some u) b cc ee _ n1.out).mono ?_
        rintro e w6 ⟨rfl, hq6, ho6⟩
        have m0 := Bx.mk (R_two n0.out (Two.of_only (g := q) ho6) HQ4.out HQ4.out)
        have m1 := Bx.mk hq6
        have m2 := Bx.mk (only_trans n2.out ho6)
        clear n0 n1 n2 hq6 ho6 c1 c5
        go_wp2_with fail
        go_roundw
        case rel =>
          refine ⟨us ++ [u], (mx + 1) % 65536, [b, cc, ee, none], m0, m1, m2, ⟨?_⟩, ⟨?_⟩, ⟨?_⟩⟩
          · have e1 := HU.out
            rw [told_some] at e1
            rw [show [b, cc, ee, none] = [b, cc, ee] ++ [none] from rfl, told_snoc, ← e1]; simp
          · have e1 := HM.out
            rw [lead_some] at e1
            rw [show [b, cc, ee, none] = [b, cc, ee] ++ [none] from rfl, lead_snoc, ← e1]; omega
          · have e1 := HRE.out
            rw [← e1, show [b, cc, ee, none] = [b, cc, ee] ++ [none] from rfl, rest_next]
        case measure =>
          have e1 := lenR m0.out
          have e2 := HLU.out
          simp only [List.length_append, List.length_singleton] at e1
          show 4 - lenOf v1 < 4 - us.length
          omega
end Go.Proofs.Ytlpopnacfggiiaa.Ref
