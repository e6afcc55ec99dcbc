/- Layer 14: the inbox's methods at string, by their contracts. (Printed by wip/tools/mkinbox.py string.) -/
import Derived.Test.YtlpopnacfggiiaaView
import Derived.Deep.QuietTactic
import Derived.BigQuiet
import Derived.StillTailTactics
set_option linter.unusedVariables false
set_option linter.unusedSimpArgs false
namespace Go.Proofs.Ytlpopnacfggiiaa.Str
open Go.RowKit Go.Proofs.Ytlpopnacfggiiaa.Base Go.Proofs.YtlpopnacfggiiaaW.PrintWords Go.Proofs.YtlpopnacfggiiaaW.PrintLast Go.Proofs.YtlpopnacfggiiaaW.PrintMore

theorem cells2 {w : World} {g : Nat} {a b : Value} {t : TypeId} (h : w.heap[g]? = some (.cells #[a, b] t (0, 0))) : w.cell? ⟨g, 0, none⟩ = some a ∧ w.cell? ⟨g, 1, none⟩ = some b :=
  ⟨cell_of_row w g 0 _ t (0, 0) h, cell_of_row w g 1 _ t (0, 0) h⟩
/-- An inbox of this type. -/
abbrev Is (w : World) (g b : Nat) (nx : Int) (a : List (Option ByteArray)) : Prop := IA Value.string 74 w g b nx a
theorem none_no (g b : Nat) (w : World) (h : w.cell? ⟨g, 1, none⟩ = some (.map (some b))) : Calls Try.prog 37 #[.pointer (some ⟨g, 0, none⟩)] w fun e w' => e = .returned (.bool false) ∧ w = w' := by
  have hq : ∀ (w : World) (r : Option Nat), (binOp .eql 72 (.map r) (.map none)).run Try.prog w = .ok (.bool r.isNone) w := fun w r => run_eql_map_nil w _ _ _ r Try.underlying72
  go_enter Try.func37, Try.ntmps37
  go_wp2
  go_ret
  exact ⟨rfl, rfl⟩
theorem none_nil (w : World) : Calls Try.prog 37 #[.pointer none] w fun e w' => e = .returned (.bool true) ∧ w = w' := by
  go_enter Try.func37, Try.ntmps37
  go_wp2
  go_ret
  exact ⟨rfl, rfl⟩
theorem none_zero (g : Nat) (w : World) (h : w.cell? ⟨g, 1, none⟩ = some (.map none)) : Calls Try.prog 37 #[.pointer (some ⟨g, 0, none⟩)] w fun e w' => e = .returned (.bool true) ∧ w = w' := by
  have hq : ∀ (w : World) (r : Option Nat), (binOp .eql 72 (.map r) (.map none)).run Try.prog w = .ok (.bool r.isNone) w := fun w r => run_eql_map_nil w _ _ _ r Try.underlying72
  go_enter Try.func37, Try.ntmps37
  go_wp2
  go_ret
  exact ⟨rfl, rfl⟩
theorem new_yes (nx : Int) (w : World) (h0 : 0 ≤ nx) (h1 : nx ≤ 65535) : Calls Try.prog 29 #[.int .i64 nx] w fun e w' => e = .returned (.tuple #[.pointer (some ⟨w.heap.size + 1, 0, none⟩), .int .i64 0]) ∧ Is w' (w.heap.size + 1) w.heap.size nx [none, none, none, none] ∧ Below w.heap.size w w' := by
  have hu := Try.underlying74
  have hmm := @run_makeMap Try.prog
  have hr : IntKind.u16.wrap nx = nx := by rw [u16w]; omega
  go_enter Try.func29, Try.ntmps29
  go_wp2
  go_ret2
  refine ⟨rfl, ⟨?_, ?_, h0, h1, rfl⟩, ((Below.refl _ w).alloc (Nat.le_refl _) _).alloc (by simp) _⟩
  · have := heap_alloc_new (w.alloc (.map #[] 0)) (.cells #[.int .u16 nx, .map (some w.heap.size)] 74)
    rwa [World.size_alloc] at this
  · refine MapIs.congr ((MapIs.made w).below ((Below.refl _ _).alloc (Nat.le_refl _) _)) rfl (fun k _ _ => (view_none _ _).symm)
theorem new_no (nx : Int) (w : World) (h : ¬ (0 ≤ nx ∧ nx ≤ 65535)) : Calls Try.prog 29 #[.int .i64 nx] w fun e w' => e = .returned (.tuple #[.pointer none, .int .i64 2]) ∧ w = w' := by
  by_cases h1 : nx < 0
  · clear h
    go_enter Try.func29, Try.ntmps29
    go_wp2
    go_ret2
    exact ⟨rfl, rfl⟩
  have h4 : 65535 < nx := by omega
  clear h
  go_enter Try.func29, Try.ntmps29
  go_wp2
  go_ret2
  exact ⟨rfl, rfl⟩
theorem ack_c (g b : Nat) (nx : Int) (a : List (Option ByteArray)) (w : World) (h : Is w g b nx a) : Calls Try.prog 31 #[.pointer (some ⟨g, 0, none⟩)] w fun e w' => e = .returned (.int .i64 nx) ∧ w = w' := by
  obtain ⟨c0, c1⟩ := cells2 h.hg
  have h0 := h.h0
  have h1 := h.h1
  have hr : wrap64 nx = nx := by unfold wrap64; omega
  clear h
  go_enter Try.func31, Try.ntmps31
  go_wp2_with (go_at_call 37; (with_reducible refine (none_no _ b _ ?hc).mono ?_); (case hc => exact c1); rintro e w' ⟨rfl, rfl⟩)
  go_ret
  exact ⟨rfl, rfl⟩
theorem waits_c (g b : Nat) (nx : Int) (a : List (Option ByteArray)) (w : World) (h : Is w g b nx a) : Calls Try.prog 32 #[.pointer (some ⟨g, 0, none⟩)] w fun e w' => e = .returned (.int .i64 (cnt a : Int)) ∧ w = w' := by
  obtain ⟨c0, c1⟩ := cells2 h.hg
  have hlen := fun ty => h.hm.len Try.underlying72 ty
  clear h
  go_enter Try.func32, Try.ntmps32
  go_wp2_with (go_at_call 37; (with_reducible refine (none_no _ b _ ?hc).mono ?_); (case hc => exact c1); rintro e w' ⟨rfl, rfl⟩)
  go_ret
  exact ⟨rfl, rfl⟩
theorem ahead_c (g : Nat) (nx : Int) (w : World) (c0 : w.cell? ⟨g, 0, none⟩ = some (.int .u16 nx)) : Calls Try.prog 38 #[.pointer (some ⟨g, 0, none⟩)] w fun e w' => e = .returned (.agg #[.int .u16 nx, .int .i64 4]) ∧ Below w.heap.size w w' := by
  have hu61 := Try.underlying61
  have c0' := pw_cell_below ((Below.refl _ w).alloc (Nat.le_refl _) (.cells #[.int .u16 0, .int .i64 0] 61)) c0
  clear c0
  go_enter Try.func38, Try.ntmps38
  go_wp2
  refine bodyPost_ret (v := .agg #[.int .u16 nx, .int .i64 4]) ?_ rfl ⟨rfl, (Below.refl _ _).alloc (Nat.le_refl _) _⟩
  exact results_cell_row (fn := Try.f38) (p := 2) (ty := 61) rfl _ _ w.heap.size 61 #[.int .u16 nx, .int .i64 4] (0, 0) _ rfl (heap_alloc_new w _) hu61 rfl (by kernel_rfl)
theorem zero_e (w : World) : (zeroValue 9).run Try.prog w = .ok (.string ByteArray.empty) w := by kernel_rfl
theorem infoE : (Try.prog.info? 9).map (fun i => (i.zero, i.size, i.bytes)) = some (some (.string ByteArray.empty), 1, 16) := by kernel_rfl
theorem one_C (W : World) (u : ByteArray) (b : Nat) (hb : W.heap.size = b) : Kd.string.C (W.alloc (.cells #[Value.string u] 9)) (some ⟨b, 0, none⟩) 1 [u] := by
  subst hb
  have hg := heap_alloc_new W (.cells #[Value.string u] 9)
  refine ⟨rfl, by omega, fun _ => ⟨_, rfl, ?_⟩⟩
  intro j p hj
  refine ⟨[Value.string p], rfl, rfl, ?_⟩
  intro i q hu
  rw [add_plain, blk_cell hg]
  have hj3 : j = 0 := by
    have := (List.getElem?_eq_some_iff.1 hj).1; simp at this; omega
  have hi2 : i = 0 := by
    have := (List.getElem?_eq_some_iff.1 hu).1; simp at this; omega
  subst hj3 hi2
  simp at hj hu; subst hj hu; rfl
set_option maxRecDepth 100000 in
set_option maxHeartbeats 4000000 in
theorem take_c (g b : Nat) (nx seq : Int) (a : List (Option ByteArray)) (d : Nat) (v : ByteArray) (w : World) (h : Is w g b nx a) (s0 : 0 ≤ seq) (s1 : seq ≤ 65535) (hd : (seq - nx) % 65536 = d) (hd4 : d < 4) :
    Calls Try.prog 36 #[.pointer (some ⟨g, 0, none⟩), .int .i64 seq, Value.string v] w fun e w' => ∃ vv, e = .returned (.tuple #[vv, .int .i64 0]) ∧ Kd.string.R 9 w' w.heap.size (fun _ => True) vv (told (came a d v)) ∧
      Is w' g b ((nx + (lead (came a d v) : Nat)) % 65536) (rest (came a d v)) ∧ Two g b w w' := by
  have H := Bx.mk h
  obtain ⟨c0, c1⟩ := cells2 h.hg
  have HN := Bx.mk h.ne
  have HG := Bx.mk (show g < w.heap.size from (Array.getElem?_eq_some_iff.1 h.hg).1)
  have HBB := Bx.mk h.hm.lt
  have hr : IntKind.u16.wrap seq = seq := by rw [u16w]; omega
  clear h
  go_enter Try.func36, Try.ntmps36
  go_wp2_with (go_at_call 37; (with_reducible refine (none_no _ b _ ?hc).mono ?_); (case hc => exact c1); rintro e w' ⟨rfl, rfl⟩)
  refine (ahead_c g nx _ c0).mono ?_
  rintro e w1 ⟨rfl, hb1⟩
  have n0 := Bx.mk (H.out.below hb1)
  have n1 := Bx.mk hb1
  clear H hb1 c0 c1
  go_wp2_with fail
  refine (has_yes nx seq d _ hd hd4).mono ?_
  rintro e w2 ⟨rfl, hb2⟩
  have H := Bx.mk (n0.out.below hb2)
  have HB := Bx.mk (n1.out.trans (hb2.mono n1.out.size))
  have HS := Bx.mk HB.out.size
  clear hb2 n0 n1
  obtain ⟨c0, c1⟩ := cells2 H.out.hg
  have hlk := H.out.hm.look Try.underlying72 zero_e s0 s1
  rw [view_seq hd hd4] at hlk
  cases hx : a.getD d none with
  | none =>
    rw [hx] at hlk
    obtain ⟨w3, hst, hm3, ht3⟩ := H.out.hm.store Try.underlying72 s0 s1 (by rw [view_seq hd hd4, hx]; rfl) (by have := cnt_le H.out.hl; omega) (Value.string v)
    have e1 : came a d v = a.set d (some v) := by unfold came; rw [hx]; rfl
    have H3 : Bx (Is w3 g b nx (came a d v)) := ⟨by
      rw [e1]
      exact ⟨((turned_only ht3).block g (Array.getElem?_eq_some_iff.1 H.out.hg).1 HN.out).trans H.out.hg, hm3.congr (cnt_set (by rw [H.out.hl]; exact hd4) hx v).symm (fun k k0 k1 => view_put H.out.h0 H.out.h1 s0 s1 H.out.hl hd hd4 v k k0 k1), H.out.h0, H.out.h1, by rw [List.length_set]; exact H.out.hl⟩⟩
    have T3 := Bx.mk ((Two.of_below HB.out).trans (turned_two (g := g) ht3))
    go_wp2_with fail
    clear hst hm3 ht3 hlk e1 c0 c1 H HB HS hr hx
    obtain ⟨a1, ha1⟩ : ∃ a1, a1 = came a d v := ⟨_, rfl⟩
    rw [← ha1] at H3
    have HA1 := Bx.mk ha1
    clear ha1
    obtain ⟨c0, c1⟩ := cells2 H3.out.hg
    have hlk2 : ∀ n, (Instr.lookup 72 (.map (some b)) (.int .u16 nx) true).run Try.prog (w3.drewN n) = .ok (.tuple #[((a1.getD 0 none).map Value.string).getD (.string ByteArray.empty), .bool ((a1.getD 0 none).map Value.string).isSome]) (w3.drewN n) := fun n => by
      have := (show MapIs (w3.drewN n) b _ _ from H3.out.hm).look Try.underlying72 zero_e H3.out.h0 H3.out.h1
      rwa [view_zero] at this
    go_quiet (fail)
    go_wp2_with fail
    have HAS : Bx (Is (w3.drewN nq) g b nx a1) := ⟨⟨H3.out.hg, H3.out.hm, H3.out.h0, H3.out.h1, H3.out.hl⟩⟩
    have HTS : Bx (Two g b w (w3.drewN nq)) := ⟨⟨T3.out.os, T3.out.tape, T3.out.output, T3.out.size, T3.out.block⟩⟩
    clear hlk2 H3 T3 c0 c1
    go_loopw [6, 10, 11] (fun v6 v10 v11 wr => ∃ (us : List ByteArray) (mx : Int) (a2 : List (Option ByteArray)) (fl : Bool) (val : Value), v10 = val ∧ v11 = .bool fl ∧ Bx (fl = (a2.getD 0 none).isSome) ∧ Bx (val = ((a2.getD 0 none).map Value.string).getD (.string ByteArray.empty)) ∧ Bx (Kd.string.R 9 wr w.heap.size (fun _ => True) v6 us) ∧ Bx (Is wr g b mx a2) ∧ Bx (Two g b w wr) ∧ Bx (us ++ told a2 = told a1) ∧ Bx ((mx + (lead a2 : Nat)) % 65536 = (nx + (lead a1 : Nat)) % 65536) ∧ Bx (rest a2 = rest a1)) (fun v6 _ _ _ => 4 - lenOf v6)
    case atStart => exact ⟨[], nx, a1, _, _, rfl, rfl, ⟨by simp⟩, ⟨by simp⟩, ⟨Kd.R_nil _ _ _ _ _⟩, HAS, HTS, ⟨rfl⟩, ⟨rfl⟩, ⟨rfl⟩⟩
    case round =>
      have HL1 := Bx.mk (show (told a1).length ≤ 4 by rw [lead_told, ← HAS.out.hl]; exact lead_le _)
      clear HAS HTS
      obtain ⟨us, mx, a2, fl, val, hv10, rfl, HF, HV, HR, HA, HT, HU, HM, HRE⟩ := hrel
      obtain ⟨A6, c6, rfl, hc6, hC6⟩ := Kd.R_reads HR.out
      clear hc6 hC6
      cases a2 with
      | nil => exact absurd HA.out.hl (by decide)
      | cons x r =>
        have hrl : r.length = 3 := by have := HA.out.hl; simpa using this
        have HRL := Bx.mk hrl
        clear hrl
        cases x with
        | none =>
          obtain rfl : fl = false := HF.out
          go_wp2_with fail
          go_ret2
          have e1 := HU.out
          rw [told_none, List.append_nil] at e1
          rw [← HA1.out]
          refine ⟨.slice A6 us.length c6, rfl, ?_, ?_, HT.out⟩
          · rw [← e1]; exact HR.out
          · have hm := HM.out
            rw [lead_none] at hm
            have hmx : mx % 65536 = mx := by have := HA.out.h0; have := HA.out.h1; omega
            rw [← hm, ← HRE.out, rest_none]
            simp only [Int.natCast_zero, Int.add_zero, hmx]
            exact HA.out
        | some u =>
          obtain rfl : fl = true := HF.out
          obtain rfl : val = Value.string u := HV.out
          subst hv10
          have m0 := HA.out.h0
          have m1 := HA.out.h1
          have HLU : Bx (us.length + 1 ≤ 4) := ⟨by
            have := congrArg List.length HU.out
            rw [told_some, List.length_append, List.length_cons] at this
            have := HL1.out
            omega⟩
          go_wp2_with (at_builtin; go_must (refine Kd.R_append_rows Kd.string (w0 := wr) w.heap.size rfl (.tmp 73) (.tmp 75) 75 9 (.string ByteArray.empty) 16 rfl Try.underlying75 infoE rfl (by decide) (by omega) (.slice A6 us.length c6) us [u] _ _ _ (fun _ => True) (fun _ => False) rfl rfl ?aO ?aR (fun _ _ h => h) (fun _ h => h.elim) ?aF ?aB ?aS ?aL ?_; (case aO => exact Kd.R_alloc HR.out _); (case aR => exact one_C _ u _ rfl); (case aF => exact fun _ _ => trivial); (case aB => exact (Below.refl _ _).alloc HT.out.size _); (case aS => simp; have := HT.out.size; omega); (case aL => have := HLU.out; simp; omega); intro v1 w4 ho hb hg hat; have n0 := Bx.mk ho; have n1 := Bx.mk (HA.out.low hb HG.out HBB.out); have n2 := Bx.mk (HT.out.low hb rfl); clear ho hb hg hat))
          clear HA HT
          obtain ⟨c0, c1⟩ := cells2 n1.out.hg
          obtain ⟨w5, hdl, hm5, ht5⟩ := MapIs.drop (w := w4.drew) (show MapIs w4.drew b (cnt (r ++ [none]) + 1) (view Value.string mx (some u :: r)) from n1.out.hm.congr cnt_next (fun _ _ _ => rfl)) Try.underlying72 m0 m1 (by rw [view_zero]; rfl) 0
          have e5 := (turned_only ht5).block g (Array.getElem?_eq_some_iff.1 n1.out.hg).1 HN.out
          have hg5 : w5.heap[g]? = some (.cells #[.int .u16 mx, .map (some b)] 74 (0, 0)) := e5.trans n1.out.hg
          have HT5 := Bx.mk (n2.out.trans (v := w4) (w := w5) (show Two g b w4 w5 from ⟨(turned_only ht5).os, (turned_only ht5).tape, (turned_only ht5).output, (turned_only ht5).size, fun k hk _ h2 => (turned_only ht5).block k hk h2⟩))
          have HR5 := Bx.mk (R_two n0.out (show Two g b w4 w5 from ⟨(turned_only ht5).os, (turned_only ht5).tape, (turned_only ht5).output, (turned_only ht5).size, fun k hk _ h2 => (turned_only ht5).block k hk h2⟩) HG.out HBB.out)
          have HM5 := Bx.mk hm5
          have HG5 := Bx.mk hg5
          obtain ⟨x0, x1⟩ := cells2 hg5
          have z0 := frozen_of_row w5 _ 0 _ _ hg5
          go_still_tail 8, (by kernel_rfl)
          change wpList _ _ _ _ _ w4.drew
          clear n0 n1 n2 ht5 hm5 hg5 e5
          go_wp2_with fail
          clear hdl c0 c1
          refine (plus_c mx _ m0 m1).mono ?_
          rintro e w6 ⟨rfl, hdr⟩
          obtain ⟨nd, rfl⟩ := hdr.out
          clear hdr
          go_wp2_with fail
          have hset : Two g b w5 ((w5.drewN nd).setCell ⟨g, 0, none⟩ (.int .u16 ((mx + 1) % 65536))) := ⟨rfl, rfl, rfl, by simp [World.setCell], fun k _ hk _ => Below.heap_setCell (w5.drewN nd) ⟨g, 0, none⟩ _ k hk⟩
          have hg7 : ((w5.drewN nd).setCell ⟨g, 0, none⟩ (.int .u16 ((mx + 1) % 65536))).heap[g]? = some (.cells #[.int .u16 ((mx + 1) % 65536), .map (some b)] 74 (0, 0)) := by
            simpa using blk_set (w := w5.drewN nd) HG5.out 0 (.int .u16 ((mx + 1) % 65536))
          have hm7 : MapIs ((w5.drewN nd).setCell ⟨g, 0, none⟩ (.int .u16 ((mx + 1) % 65536))) b (cnt (r ++ [none])) (view Value.string ((mx + 1) % 65536) (r ++ [none])) :=
            (HM5.out.kept (Below.heap_setCell (w5.drewN nd) ⟨g, 0, none⟩ _ b (by simpa using HN.out.symm))).congr rfl (fun k k0 k1 => view_next m0 m1 HRL.out k k0 k1)
          generalize (w5.drewN nd).setCell ⟨g, 0, none⟩ (.int .u16 ((mx + 1) % 65536)) = w7 at *
          have HA7 : Bx (Is w7 g b ((mx + 1) % 65536) (r ++ [none])) := ⟨⟨hg7, hm7, by omega, by omega, by simp [HRL.out]⟩⟩
          have HT7 := Bx.mk (HT5.out.trans hset)
          have HR7 := Bx.mk (R_two HR5.out hset HG.out HBB.out)
          obtain ⟨c0, c1⟩ := cells2 hg7
          have hlk3 : ∀ n, (Instr.lookup 72 (.map (some b)) (.int .u16 ((mx + 1) % 65536)) true).run Try.prog (w7.drewN n) = .ok (.tuple #[(((r ++ [none]).getD 0 none).map Value.string).getD (.string ByteArray.empty), .bool (((r ++ [none]).getD 0 none).map Value.string).isSome]) (w7.drewN n) := fun n => by
            have := (show MapIs (w7.drewN n) b _ _ from hm7).look Try.underlying72 zero_e HA7.out.h0 HA7.out.h1
            rwa [view_zero] at this
          clear hset hg7 hm7 HT5 HR5 HM5 HG5 x0 x1 z0
          go_quiet (fail)
          go_wp2_with fail
          go_roundw
          case rel =>
            refine ⟨us ++ [u], (mx + 1) % 65536, r ++ [none], _, _, rfl, rfl, ⟨by simp⟩, ⟨by simp⟩, ⟨HR7.out⟩, ⟨⟨HA7.out.hg, HA7.out.hm, HA7.out.h0, HA7.out.h1, HA7.out.hl⟩⟩, ⟨⟨HT7.out.os, HT7.out.tape, HT7.out.output, HT7.out.size, HT7.out.block⟩⟩, ⟨?_⟩, ⟨?_⟩, ⟨?_⟩⟩
            · rw [told_snoc, ← HU.out, told_some]; simp
            · rw [lead_snoc, ← HM.out, lead_some]; omega
            · rw [rest_next]; exact HRE.out
          case measure =>
            have e1 := lenR HR7.out
            have e2 := HLU.out
            simp only [List.length_append, List.length_singleton] at e1
            show 4 - lenOf v1 < 4 - us.length
            omega
  | some u =>
    rw [hx] at hlk
    have e1 : came a d v = a := by unfold came; rw [hx]; rfl
    have H3 : Bx (Is w2 g b nx (came a d v)) := ⟨by rw [e1]; exact H.out⟩
    have T3 : Bx (Two g b w w2) := ⟨Two.of_below HB.out⟩
    go_wp2_with fail
    clear hlk e1 c0 c1 H HB HS hr hx
    obtain ⟨w3, rfl⟩ : ∃ w3 : World, w3 = w2 := ⟨_, rfl⟩
    obtain ⟨a1, ha1⟩ : ∃ a1, a1 = came a d v := ⟨_, rfl⟩
    rw [← ha1] at H3
    have HA1 := Bx.mk ha1
    clear ha1
    obtain ⟨c0, c1⟩ := cells2 H3.out.hg
    have hlk2 : ∀ n, (Instr.lookup 72 (.map (some b)) (.int .u16 nx) true).run Try.prog (w3.drewN n) = .ok (.tuple #[((a1.getD 0 none).map Value.string).getD (.string ByteArray.empty), .bool ((a1.getD 0 none).map Value.string).isSome]) (w3.drewN n) := fun n => by
      have := (show MapIs (w3.drewN n) b _ _ from H3.out.hm).look Try.underlying72 zero_e H3.out.h0 H3.out.h1
      rwa [view_zero] at this
    go_quiet (fail)
    go_wp2_with fail
    have HAS : Bx (Is (w3.drewN nq) g b nx a1) := ⟨⟨H3.out.hg, H3.out.hm, H3.out.h0, H3.out.h1, H3.out.hl⟩⟩
    have HTS : Bx (Two g b w (w3.drewN nq)) := ⟨⟨T3.out.os, T3.out.tape, T3.out.output, T3.out.size, T3.out.block⟩⟩
    clear hlk2 H3 T3 c0 c1
    go_loopw [6, 10, 11] (fun v6 v10 v11 wr => ∃ (us : List ByteArray) (mx : Int) (a2 : List (Option ByteArray)) (fl : Bool) (val : Value), v10 = val ∧ v11 = .bool fl ∧ Bx (fl = (a2.getD 0 none).isSome) ∧ Bx (val = ((a2.getD 0 none).map Value.string).getD (.string ByteArray.empty)) ∧ Bx (Kd.string.R 9 wr w.heap.size (fun _ => True) v6 us) ∧ Bx (Is wr g b mx a2) ∧ Bx (Two g b w wr) ∧ Bx (us ++ told a2 = told a1) ∧ Bx ((mx + (lead a2 : Nat)) % 65536 = (nx + (lead a1 : Nat)) % 65536) ∧ Bx (rest a2 = rest a1)) (fun v6 _ _ _ => 4 - lenOf v6)
    case atStart => exact ⟨[], nx, a1, _, _, rfl, rfl, ⟨by simp⟩, ⟨by simp⟩, ⟨Kd.R_nil _ _ _ _ _⟩, HAS, HTS, ⟨rfl⟩, ⟨rfl⟩, ⟨rfl⟩⟩
    case round =>
      have HL1 := Bx.mk (show (told a1).length ≤ 4 by rw [lead_told, ← HAS.out.hl]; exact lead_le _)
      clear HAS HTS
      obtain ⟨us, mx, a2, fl, val, hv10, rfl, HF, HV, HR, HA, HT, HU, HM, HRE⟩ := hrel
      obtain ⟨A6, c6, rfl, hc6, hC6⟩ := Kd.R_reads HR.out
      clear hc6 hC6
      cases a2 with
      | nil => exact absurd HA.out.hl (by decide)
      | cons x r =>
        have hrl : r.length = 3 := by have := HA.out.hl; simpa using this
        have HRL := Bx.mk hrl
        clear hrl
        cases x with
        | none =>
          obtain rfl : fl = false := HF.out
          go_wp2_with fail
          go_ret2
          have e1 := HU.out
          rw [told_none, List.append_nil] at e1
          rw [← HA1.out]
          refine ⟨.slice A6 us.length c6, rfl, ?_, ?_, HT.out⟩
          · rw [← e1]; exact HR.out
          · have hm := HM.out
            rw [lead_none] at hm
            have hmx : mx % 65536 = mx := by have := HA.out.h0; have := HA.out.h1; omega
            rw [← hm, ← HRE.out, rest_none]
            simp only [Int.natCast_zero, Int.add_zero, hmx]
            exact HA.out
        | some u =>
          obtain rfl : fl = true := HF.out
          obtain rfl : val = Value.string u := HV.out
          subst hv10
          have m0 := HA.out.h0
          have m1 := HA.out.h1
          have HLU : Bx (us.length + 1 ≤ 4) := ⟨by
            have := congrArg List.length HU.out
            rw [told_some, List.length_append, List.length_cons] at this
            have := HL1.out
            omega⟩
          go_wp2_with (at_builtin; go_must (refine Kd.R_append_rows Kd.string (w0 := wr) w.heap.size rfl (.tmp 73) (.tmp 75) 75 9 (.string ByteArray.empty) 16 rfl Try.underlying75 infoE rfl (by decide) (by omega) (.slice A6 us.length c6) us [u] _ _ _ (fun _ => True) (fun _ => False) rfl rfl ?aO ?aR (fun _ _ h => h) (fun _ h => h.elim) ?aF ?aB ?aS ?aL ?_; (case aO => exact Kd.R_alloc HR.out _); (case aR => exact one_C _ u _ rfl); (case aF => exact fun _ _ => trivial); (case aB => exact (Below.refl _ _).alloc HT.out.size _); (case aS => simp; have := HT.out.size; omega); (case aL => have := HLU.out; simp; omega); intro v1 w4 ho hb hg hat; have n0 := Bx.mk ho; have n1 := Bx.mk (HA.out.low hb HG.out HBB.out); have n2 := Bx.mk (HT.out.low hb rfl); clear ho hb hg hat))
          clear HA HT
          obtain ⟨c0, c1⟩ := cells2 n1.out.hg
          obtain ⟨w5, hdl, hm5, ht5⟩ := MapIs.drop (w := w4.drew) (show MapIs w4.drew b (cnt (r ++ [none]) + 1) (view Value.string mx (some u :: r)) from n1.out.hm.congr cnt_next (fun _ _ _ => rfl)) Try.underlying72 m0 m1 (by rw [view_zero]; rfl) 0
          have e5 := (turned_only ht5).block g (Array.getElem?_eq_some_iff.1 n1.out.hg).1 HN.out
          have hg5 : w5.heap[g]? = some (.cells #[.int .u16 mx, .map (some b)] 74 (0, 0)) := e5.trans n1.out.hg
          have HT5 := Bx.mk (n2.out.trans (v := w4) (w := w5) (show Two g b w4 w5 from ⟨(turned_only ht5).os, (turned_only ht5).tape, (turned_only ht5).output, (turned_only ht5).size, fun k hk _ h2 => (turned_only ht5).block k hk h2⟩))
          have HR5 := Bx.mk (R_two n0.out (show Two g b w4 w5 from ⟨(turned_only ht5).os, (turned_only ht5).tape, (turned_only ht5).output, (turned_only ht5).size, fun k hk _ h2 => (turned_only ht5).block k hk h2⟩) HG.out HBB.out)
          have HM5 := Bx.mk hm5
          have HG5 := Bx.mk hg5
          obtain ⟨x0, x1⟩ := cells2 hg5
          have z0 := frozen_of_row w5 _ 0 _ _ hg5
          go_still_tail 8, (by kernel_rfl)
          change wpList _ _ _ _ _ w4.drew
          clear n0 n1 n2 ht5 hm5 hg5 e5
          go_wp2_with fail
          clear hdl c0 c1
          refine (plus_c mx _ m0 m1).mono ?_
          rintro e w6 ⟨rfl, hdr⟩
          obtain ⟨nd, rfl⟩ := hdr.out
          clear hdr
          go_wp2_with fail
          have hset : Two g b w5 ((w5.drewN nd).setCell ⟨g, 0, none⟩ (.int .u16 ((mx + 1) % 65536))) := ⟨rfl, rfl, rfl, by simp [World.setCell], fun k _ hk _ => Below.heap_setCell (w5.drewN nd) ⟨g, 0, none⟩ _ k hk⟩
          have hg7 : ((w5.drewN nd).setCell ⟨g, 0, none⟩ (.int .u16 ((mx + 1) % 65536))).heap[g]? = some (.cells #[.int .u16 ((mx + 1) % 65536), .map (some b)] 74 (0, 0)) := by
            simpa using blk_set (w := w5.drewN nd) HG5.out 0 (.int .u16 ((mx + 1) % 65536))
          have hm7 : MapIs ((w5.drewN nd).setCell ⟨g, 0, none⟩ (.int .u16 ((mx + 1) % 65536))) b (cnt (r ++ [none])) (view Value.string ((mx + 1) % 65536) (r ++ [none])) :=
            (HM5.out.kept (Below.heap_setCell (w5.drewN nd) ⟨g, 0, none⟩ _ b (by simpa using HN.out.symm))).congr rfl (fun k k0 k1 => view_next m0 m1 HRL.out k k0 k1)
          generalize (w5.drewN nd).setCell ⟨g, 0, none⟩ (.int .u16 ((mx + 1) % 65536)) = w7 at *
          have HA7 : Bx (Is w7 g b ((mx + 1) % 65536) (r ++ [none])) := ⟨⟨hg7, hm7, by omega, by omega, by simp [HRL.out]⟩⟩
          have HT7 := Bx.mk (HT5.out.trans hset)
          have HR7 := Bx.mk (R_two HR5.out hset HG.out HBB.out)
          obtain ⟨c0, c1⟩ := cells2 hg7
          have hlk3 : ∀ n, (Instr.lookup 72 (.map (some b)) (.int .u16 ((mx + 1) % 65536)) true).run Try.prog (w7.drewN n) = .ok (.tuple #[(((r ++ [none]).getD 0 none).map Value.string).getD (.string ByteArray.empty), .bool (((r ++ [none]).getD 0 none).map Value.string).isSome]) (w7.drewN n) := fun n => by
            have := (show MapIs (w7.drewN n) b _ _ from hm7).look Try.underlying72 zero_e HA7.out.h0 HA7.out.h1
            rwa [view_zero] at this
          clear hset hg7 hm7 HT5 HR5 HM5 HG5 x0 x1 z0
          go_quiet (fail)
          go_wp2_with fail
          go_roundw
          case rel =>
            refine ⟨us ++ [u], (mx + 1) % 65536, r ++ [none], _, _, rfl, rfl, ⟨by simp⟩, ⟨by simp⟩, ⟨HR7.out⟩, ⟨⟨HA7.out.hg, HA7.out.hm, HA7.out.h0, HA7.out.h1, HA7.out.hl⟩⟩, ⟨⟨HT7.out.os, HT7.out.tape, HT7.out.output, HT7.out.size, HT7.out.block⟩⟩, ⟨?_⟩, ⟨?_⟩, ⟨?_⟩⟩
            · rw [told_snoc, ← HU.out, told_some]; simp
            · rw [lead_snoc, ← HM.out, lead_some]; omega
            · rw [rest_next]; exact HRE.out
          case measure =>
            have e1 := lenR HR7.out
            have e2 := HLU.out
            simp only [List.length_append, List.length_singleton] at e1
            show 4 - lenOf v1 < 4 - us.length
            omega
theorem take_far (g b : Nat) (nx seq : Int) (a : List (Option ByteArray)) (v : ByteArray) (w : World) (h : Is w g b nx a) (s0 : 0 ≤ seq) (s1 : seq ≤ 65535) (hd : ¬ (seq - nx) % 65536 < 4) :
    Calls Try.prog 36 #[.pointer (some ⟨g, 0, none⟩), .int .i64 seq, Value.string v] w fun e w' => e = .returned (.tuple #[.slice none 0 0, .int .i64 9]) ∧ Below w.heap.size w w' := by
  obtain ⟨c0, c1⟩ := cells2 h.hg
  have hr : IntKind.u16.wrap seq = seq := by rw [u16w]; omega
  have HD := Bx.mk hd
  clear h hd
  go_enter Try.func36, Try.ntmps36
  go_wp2_with (go_at_call 37; (with_reducible refine (none_no _ b _ ?hc).mono ?_); (case hc => exact c1); rintro e w' ⟨rfl, rfl⟩)
  refine (ahead_c g nx _ c0).mono ?_
  rintro e w1 ⟨rfl, hb1⟩
  have n1 := Bx.mk hb1
  clear hb1 c0 c1
  go_wp2_with fail
  refine (has_no nx seq _ (by have := HD.out; omega)).mono ?_
  rintro e w2 ⟨rfl, hb2⟩
  have HB := Bx.mk (n1.out.trans (hb2.mono n1.out.size))
  clear hb2 n1
  go_wp2_with fail
  go_ret2
  exact ⟨rfl, HB.out⟩
theorem take_bad (g b : Nat) (nx seq : Int) (a : List (Option ByteArray)) (v : ByteArray) (w : World) (h : Is w g b nx a) (hs : ¬ (0 ≤ seq ∧ seq ≤ 65535)) :
    Calls Try.prog 36 #[.pointer (some ⟨g, 0, none⟩), .int .i64 seq, Value.string v] w fun e w' => e = .returned (.tuple #[.slice none 0 0, .int .i64 2]) ∧ w = w' := by
  obtain ⟨c0, c1⟩ := cells2 h.hg
  clear h
  by_cases h1 : seq < 0
  · clear hs
    go_enter Try.func36, Try.ntmps36
    go_wp2_with (go_at_call 37; (with_reducible refine (none_no _ b _ ?hc).mono ?_); (case hc => exact c1); rintro e w' ⟨rfl, rfl⟩)
    go_ret2
    exact ⟨rfl, rfl⟩
  · have h2 : 65535 < seq := by omega
    clear hs
    go_enter Try.func36, Try.ntmps36
    go_wp2_with (go_at_call 37; (with_reducible refine (none_no _ b _ ?hc).mono ?_); (case hc => exact c1); rintro e w' ⟨rfl, rfl⟩)
    go_ret2
    exact ⟨rfl, rfl⟩
theorem take_nil (p : Option Addr) (seq : Int) (v : ByteArray) (w : World) (h : Calls Try.prog 37 #[.pointer p] w fun e w' => e = .returned (.bool true) ∧ w = w') :
    Calls Try.prog 36 #[.pointer p, .int .i64 seq, Value.string v] w fun e w' => e = .returned (.tuple #[.slice none 0 0, .int .i64 1]) ∧ w = w' := by
  go_enter Try.func36, Try.ntmps36
  go_wp2_with (go_at_call 37; (with_reducible refine h.mono ?_); rintro e w' ⟨rfl, rfl⟩)
  go_ret2
  exact ⟨rfl, rfl⟩
theorem ack_nil (p : Option Addr) (w : World) (h : Calls Try.prog 37 #[.pointer p] w fun e w' => e = .returned (.bool true) ∧ w = w') :
    Calls Try.prog 31 #[.pointer p] w fun e w' => e = .returned (.int .i64 0) ∧ w = w' := by
  go_enter Try.func31, Try.ntmps31
  go_wp2_with (go_at_call 37; (with_reducible refine h.mono ?_); rintro e w' ⟨rfl, rfl⟩)
  go_ret
  exact ⟨rfl, rfl⟩
theorem waits_nil (p : Option Addr) (w : World) (h : Calls Try.prog 37 #[.pointer p] w fun e w' => e = .returned (.bool true) ∧ w = w') :
    Calls Try.prog 32 #[.pointer p] w fun e w' => e = .returned (.int .i64 0) ∧ w = w' := by
  go_enter Try.func32, Try.ntmps32
  go_wp2_with (go_at_call 37; (with_reducible refine h.mono ?_); rintro e w' ⟨rfl, rfl⟩)
  go_ret
  exact ⟨rfl, rfl⟩
end Go.Proofs.Ytlpopnacfggiiaa.Str
