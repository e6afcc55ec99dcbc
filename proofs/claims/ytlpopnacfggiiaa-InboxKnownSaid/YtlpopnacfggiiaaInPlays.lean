/- Layer 14: InboxPlays' walk. -/
import Derived.Test.YtlpopnacfggiiaaDos
import Derived.Test.YtlpopnacfggiiaaWorks
import Derived.Deep.QuietTactic
import Derived.BigQuiet
import Derived.Deep.RegionHeld3
set_option linter.unusedVariables false
set_option linter.unusedSimpArgs false
namespace Go.Proofs.Ytlpopnacfggiiaa.Ref
open Go.RowKit Go.Proofs.Ytlpopnacfggiiaa.Base Go.Proofs.Ytlpopnacfggiiaa.Byt Go.Proofs.YtlpopnacfggiiaaW.PrintWords Go.Proofs.YtlpopnacfggiiaaW.PrintLast Go.Proofs.YtlpopnacfggiiaaW.PrintMore
open Go.Proofs.Ytlpopnacfggiiaa.Order (bring_c)
open Go.Proofs.Ytlpopnacfggiiaa.PInboxKnown

theorem plays_no (first : Int) (A : Option Addr) (n c : Nat) (w : World) (hf : ¬ (0 ≤ first ∧ first ≤ 65535)) : Calls Try.prog 3 #[.int .i64 first, .slice A n c] w fun e w' => e = .returned (.bool true) ∧ Below w.heap.size w w' := by
  have HF := Bx.mk hf
  clear hf
  go_enter Try.func3, Try.ntmps3
  go_wp2_with fail
  refine (Byt.new_no first _ HF.out).mono ?_
  rintro e _ ⟨rfl, rfl⟩
  go_wp2_with fail
  refine (Ref.new_no first _ HF.out).mono ?_
  rintro e _ ⟨rfl, rfl⟩
  go_wp2_with fail
  go_loop [9] (fun v => v = .int .i64 0) (fun _ => 0)
  case atStart => rfl
  case round =>
    subst hrel
    by_cases h : 0 < n
    · have h1 : (0 : Int) < (n : Int) := by omega
      go_wp2_with fail
      refine (Str.works_c _).mono ?_
      rintro e w4 ⟨rfl, hb4⟩
      go_wp2_with fail
      go_ret
      exact ⟨rfl, hb4⟩
    · have h1 : ¬ (0 : Int) < (n : Int) := by omega
      go_wp2_with fail
      refine (Str.works_c _).mono ?_
      rintro e w4 ⟨rfl, hb4⟩
      go_wp2_with fail
      go_ret
      exact ⟨rfl, hb4⟩
set_option maxRecDepth 100000 in
set_option maxHeartbeats 8000000 in
theorem plays_yes (first : Int) (A : Option Addr) (n c : Nat) (ds : List Do) (w : World) (f0 : 0 ≤ first) (f1 : first ≤ 65535) (hD : doK.C w A ds.length ds) (hn : ds.length = n) (hc : n ≤ c) (hB : ∀ x ∈ ds, x.2.2.length < 140737488355328) :
    Calls Try.prog 3 #[.int .i64 first, .slice A n c] w fun e w' => e = .returned (.bool true) ∧ Below w.heap.size w w' := by
  have HD := Bx.mk hD
  have HN := Bx.mk hn
  have HBL := Bx.mk hB
  clear hD hn hB
  go_enter Try.func3, Try.ntmps3
  go_wp2_with fail
  refine (Byt.new_yes first _ f0 f1).mono ?_
  rintro e w1 ⟨rfl, ha, hb⟩
  obtain ⟨g, hgg⟩ : ∃ g, g = w.heap.size + 1 := ⟨_, rfl⟩
  obtain ⟨b, hbb⟩ : ∃ b, b = w.heap.size := ⟨_, rfl⟩
  rw [← hgg, ← hbb] at ha
  rw [← hgg]
  have HA1 := Bx.mk ha
  have HB1 := Bx.mk hb
  have HGB := Bx.mk (show w.heap.size ≤ g ∧ w.heap.size ≤ b by omega)
  clear ha hb hgg hbb
  go_wp2_with fail
  refine (Ref.new_yes first _ f0 f1).mono ?_
  rintro e w2 ⟨rfl, hq, hb⟩
  obtain ⟨q, hqq⟩ : ∃ q, q = w1.heap.size := ⟨_, rfl⟩
  rw [← hqq] at hq
  rw [← hqq]
  have m0 := Bx.mk (HA1.out.below hb)
  have m1 := Bx.mk hq
  have m2 := Bx.mk (HB1.out.trans (hb.mono HB1.out.size))
  have HQB : Bx (w.heap.size ≤ q ∧ g ≠ q ∧ b ≠ q ∧ g ≠ b) := ⟨by
    have h1 := (Array.getElem?_eq_some_iff.1 HA1.out.hg).1
    have h2 := HA1.out.hm.lt
    have h3 := HB1.out.size
    exact ⟨by omega, by omega, by omega, HA1.out.ne⟩⟩
  clear HA1 HB1 hq hb hqq
  go_wp2_with fail
  go_loopw [9] (fun v9 wr => ∃ (i : Nat) (nx : Int) (a rs : List (Option Sl)), i ≤ 200 ∧ v9 = .int .i64 (i : Int) ∧ Bx (Byt.Is wr g b nx a) ∧ Bx (QA wr q nx rs) ∧ Bx (Both w wr (fun k => k ≠ g ∧ k ≠ b ∧ k ≠ q ∧ k < wr.heap.size) a rs) ∧ Bx (Below w.heap.size w wr)) (fun v _ => 200 - (intOf v).toNat)
  case atStart => exact ⟨0, first, _, _, by omega, rfl, m0, m1, ⟨.cons .none (.cons .none (.cons .none (.cons .none .nil)))⟩, m2⟩
  case round =>
    clear m0 m1 m2 f0 f1
    obtain ⟨i, nx, a, rs, hi2, rfl, HA, HQ, HO, HB⟩ := hrel
    have i0 : (0 : Int) ≤ (i : Int) := by omega
    by_cases hin : i < n
    · have i1 : (i : Int) < (n : Int) := by omega
      by_cases hi : i < 200
      · have i2 : (i : Int) < 200 := by omega
        have hid : i < ds.length := by have := HN.out; omega
        obtain ⟨ad, A', c', rfl, ce0, ce1, ce2, hat⟩ := doCell HD.out i hid
        have hln := HBL.out _ (List.getElem_mem hid)
        generalize ds[i] = x at *
        obtain ⟨N, raw, bs⟩ := x
        simp only at ce0 ce1 ce2 hat hln
        have HAT := Bx.mk hat
        have HLN := Bx.mk hln
        have ce2w := ce2
        have ce0 := pw_cell_below HB.out ce0
        have ce1 := pw_cell_below HB.out ce1
        have ce2 := pw_cell_below HB.out ce2
        clear hat hln hid
        cases raw
        · go_wp2_with fail
          have CE2 := Bx.mk ce2w
          clear ce2w
          obtain ⟨m8, hm8⟩ : ∃ m8 : Int, m8 = N % 8 := ⟨_, rfl⟩
          have p0 : 0 ≤ m8 := by omega
          have p1 : m8 < 8 := by omega
          have hbr : ∀ w, Calls Try.prog 10 #[.int .i64 N, .int .i64 8] w fun e w' => e = .returned (.int .i64 m8) ∧ w' = w := fun w => (bring_c N 8 w (by decide) (by decide)).mono fun _ _ h => ⟨by rw [hm8]; exact h.1, h.2.symm⟩
          have hac : ∀ n, Calls Try.prog 9 #[.pointer (some ⟨q, 0, none⟩)] (wr.drewN n) fun e w' => e = .returned (.int .i64 nx) ∧ w' = wr.drewN n := fun n => (Ref.ack_c q nx rs (wr.drewN n) (HQ.out.kept rfl)).mono fun _ _ h => ⟨h.1, h.2.symm⟩
          have n0 := HQ.out.h0
          have n1 := HQ.out.h1
          have w1' : IntKind.i64.wrap (nx + 65536) = nx + 65536 := by simp [IntKind.wrap, IntKind.signed, IntKind.bits]; omega
          have w2' : IntKind.i64.wrap (nx + 65536 + m8) = nx + 65536 + m8 := by simp [IntKind.wrap, IntKind.signed, IntKind.bits]; omega
          have w3' : IntKind.i64.wrap (nx + 65536 + m8 - 2) = nx + 65536 + m8 - 2 := by simp [IntKind.wrap, IntKind.signed, IntKind.bits]; omega
          obtain ⟨seq, hsq⟩ : ∃ seq : Int, Int.tmod (nx + 65536 + m8 - 2) 65536 = seq := ⟨_, rfl⟩
          clear hm8 p0 p1
          go_quiet (first | (go_at_call 9; exact Calls.quiet_of_same (hac _)) | (go_at_call 10; exact Calls.quiet_of_same (hbr _)))
          clear hbr hac n0 n1
          go_wp2_with fail
          clear w1' w2' w3' hsq ce0 ce1
          have K0 : Bx (Byt.Is (wr.drewN nq) g b nx a) := ⟨⟨HA.out.hg, HA.out.hm, HA.out.h0, HA.out.h1, HA.out.hl⟩⟩
          have K1 : Bx (QA (wr.drewN nq) q nx rs) := ⟨HQ.out.kept rfl⟩
          have K2 : Bx (Both w (wr.drewN nq) (fun k => k ≠ g ∧ k ≠ b ∧ k ≠ q ∧ k < (wr.drewN nq).heap.size) a rs) := ⟨HO.out.step (fun k hk => ⟨rfl, hk⟩)⟩
          have K3 : Bx (Below w.heap.size w (wr.drewN nq)) := ⟨⟨HB.out.os, HB.out.tape, HB.out.output, HB.out.size, HB.out.block⟩⟩
          have ce2 := pw_cell_below K3.out CE2.out
          clear HA HQ HO HB
          generalize wr.drewN nq = wk at *
          by_cases hs : 0 ≤ seq ∧ seq ≤ 65535
          · by_cases hd : (seq - nx) % 65536 < 4
            · obtain ⟨d, hd', hd4⟩ : ∃ d : Nat, (seq - nx) % 65536 = (d : Int) ∧ d < 4 := ⟨((seq - nx) % 65536).toNat, by omega, by omega⟩
              have HDD := Bx.mk hd'
              have HSQ := Bx.mk hs
              have HD4 := Bx.mk hd4
              clear hd hd' hs hd4
              refine (Byt.take_c g b nx seq a d ⟨A', bs.length, c'⟩ _ K0.out HSQ.out.1 HSQ.out.2 HDD.out HD4.out).mono ?_
              rintro e w5 ⟨vv, rfl, hr, ha, ht⟩
              have P0 := Bx.mk hr
              have P1 := Bx.mk ha
              have P2 := Bx.mk (K1.out.kept (ht.block q K1.out.lt (Ne.symm HQB.out.2.1) (Ne.symm HQB.out.2.2.1)))
              have P3 : Bx (Both w w5 (fun k => k ≠ g ∧ k ≠ b ∧ k ≠ q ∧ k < wk.heap.size) a rs) := ⟨K2.out.step (fun k hk => ⟨ht.block k hk.2.2.2 hk.1 hk.2.1, hk⟩)⟩
              have P4 := Bx.mk (ht.below K3.out K3.out.size HGB.out.1 HGB.out.2)
              have P5 := Bx.mk ht.size
              have P6 := Bx.mk (show q < wk.heap.size ∧ g < wk.heap.size ∧ b < wk.heap.size from ⟨K1.out.lt, (Array.getElem?_eq_some_iff.1 K0.out.hg).1, K0.out.hm.lt⟩)
              have P7 := Bx.mk K3.out.size
              have HAL := Bx.mk K0.out.hl
              have HS4 : Bx ((told (came a d ⟨A', bs.length, c'⟩)).length ≤ 4) := ⟨by rw [lead_told, ← HAL.out, ← came_length a d ⟨A', bs.length, c'⟩]; exact lead_le _⟩
              clear hr ha ht ce2 K0 K1 K2 K3
              have ce2 := pw_cell_below P4.out CE2.out
              go_wp2_with fail
              refine (take_near q nx seq rs d A' bs c' _ P2.out HSQ.out.1 HSQ.out.2 HDD.out HD4.out (Kd.C_below HAT.out.hC P4.out) HAT.out.hc HLN.out (fun ad e hp => ?hne)).mono ?_
              case hne =>
                have h1 := C_lt HAT.out.hC hp ad e
                have h2 := HQB.out.1
                omega
              rintro e w6 ⟨vv2, x, rfl, hr2, hq2, ho2, hx2⟩
              have hboth : Both w w6 (fun k => k ≠ g ∧ k ≠ b ∧ k ≠ q ∧ (k < wk.heap.size ∨ w5.heap.size ≤ k) ∧ k < w6.heap.size) (came a d ⟨A', bs.length, c'⟩) (came rs d x) :=
                came2 (P3.out.step (fun k hk => ⟨ho2.block k (Nat.lt_of_lt_of_le hk.2.2.2 P5.out) hk.2.2.1, hk.1, hk.2.1, hk.2.2.1, .inl hk.2.2.2, Nat.lt_of_lt_of_le hk.2.2.2 (Nat.le_trans P5.out ho2.size)⟩)) d (by rw [HAL.out]; exact HD4.out) _ _
                  (fun hn => ⟨bs, HAT.out, (hx2 hn).1, fun ad e => by
                    have h1 := (hx2 hn).2 ad e
                    have h2 := P6.out
                    have h3 := P5.out
                    exact ⟨by omega, by omega, by omega, .inr h1.1, h1.2⟩⟩)
              have hlead := lead2 hboth
              rw [← hlead] at hq2
              have Q0 := Bx.mk (R_two P0.out (Two.of_only (g := q) ho2) P6.out.1 P6.out.1)
              have Q1 := Bx.mk (IA.only P1.out ho2 HQB.out.2.1 HQB.out.2.2.1)
              have Q2 := Bx.mk hq2
              have Q3 := Bx.mk (rest2 hboth)
              have Q4 := Bx.mk ((Two.of_only (g := q) ho2).below P4.out P4.out.size HQB.out.1 HQB.out.1)
              have Q5 := Bx.mk (told2 hboth)
              have Q6 := Bx.mk hr2
              have Q7 := Bx.mk ho2.size
              have P0' := P0
              clear hr2 hq2 ho2 hx2 hboth hlead ce2 P0 P1 P2 P3 P4
              generalize rest (came a d ⟨A', bs.length, c'⟩) = a2 at *
              generalize rest (came rs d x) = rs2 at *
              generalize told (came a d ⟨A', bs.length, c'⟩) = S at *
              generalize told (came rs d x) = T at *
              generalize (nx + (lead (came a d ⟨A', bs.length, c'⟩) : Nat)) % 65536 = mx at *
              obtain ⟨A5, c5, rfl, hc5, _⟩ := Kd.R_reads Q0.out
              obtain ⟨A6, c6, rfl, hc6, hC6⟩ := Kd.R_reads Q6.out
              have HST := Bx.mk Q5.out.len
              rw [← HST.out]
              have hcn : (cnt a2 : Int) = (cnt rs2 : Int) := by rw [cnt2 Q3.out]
              clear hC6
              go_wp2_with (first | (go_at_call 13; (with_reducible refine (Byt.ack_c g b mx a2 _ Q1.out).mono ?_); rintro e _ ⟨rfl, rfl⟩) | (go_at_call 9; (with_reducible refine (Ref.ack_c q mx rs2 _ Q2.out).mono ?_); rintro e _ ⟨rfl, rfl⟩) | (go_at_call 14; (with_reducible refine (Byt.waits_c g b mx a2 _ Q1.out).mono ?_); rintro e _ ⟨rfl, rfl⟩) | (go_at_call 15; (with_reducible refine (Ref.waits_c q mx rs2 _ Q2.out).mono ?_); (rw [← hcn]); rintro e _ ⟨rfl, rfl⟩))
              clear hcn
              by_cases hS : S.length = 0
              · rw [hS]
                obtain ⟨wo, hwo⟩ : ∃ wo : World, wo = w6 := ⟨_, rfl⟩
                subst hwo
                go_loop [15] (fun v => v = .int .i64 0) (fun _ => 0)
                case atStart => rfl
                case round =>
                  subst hrel
                  go_wp2_with fail
                  go_roundw
                  case rel => exact ⟨i + 1, mx, a2, rs2, by omega, by simp, Q1, Q2, ⟨Both.step Q3.out (fun k hk => ⟨rfl, hk.1, hk.2.1, hk.2.2.1, hk.2.2.2.2⟩)⟩, Q4⟩
                  case measure => simp [intOf]; omega
              · obtain ⟨_, _, hC5⟩ := Kd.R_reads' Q0.out
                obtain ⟨ad5, rfl, _⟩ := kdCell hC5 (by omega)
                obtain ⟨p, rfl⟩ := Kd.R_head Q0.out
                have HP := Bx.mk (show wk.heap.size ≤ p ∧ p < w5.heap.size from ⟨Kd.R_base P0'.out p rfl, Kd.R_lt P0'.out p rfl⟩)
                obtain ⟨_, _, hC6⟩ := Kd.R_reads' Q6.out
                obtain ⟨ad6, rfl, _⟩ := kdCell hC6 (by have := HST.out; omega)
                clear hC5 hC6 P0'
                go_loopw [15] (fun v wr => ∃ (k : Nat) (ys : List Sl), k ≤ S.length ∧ v = .int .i64 (k : Int) ∧ Bx (ys.length = S.length ∧ ys.drop k = S.drop k) ∧ Bx (kd.R 27 wr wk.heap.size (fun _ => True) (.slice (some ⟨p, 0, none⟩) S.length c5) ys) ∧ Bx (Only p w6 wr)) (fun v _ => S.length - (intOf v).toNat)
                case atStart => exact ⟨0, S, by omega, rfl, ⟨rfl, rfl⟩, Q0, ⟨⟨rfl, rfl, rfl, Nat.le_refl _, fun _ _ _ => rfl⟩⟩⟩
                case round =>
                  clear Q0
                  obtain ⟨k, ys, hk, rfl, HY, HR, HZ⟩ := hrel
                  have k0 : (0 : Int) ≤ (k : Int) := by omega
                  have Qz := Bx.mk ((Two.of_only (g := p) HZ.out).below Q4.out Q4.out.size (Nat.le_trans P7.out HP.out.1) (Nat.le_trans P7.out HP.out.1))
                  by_cases hkm : k < S.length
                  · have k1 : (k : Int) < (S.length : Int) := by omega
                    have hyk : ys.getD k nils = S.getD k nils := by
                      have h := congrArg (fun l => l.getD 0 nils) HY.out.2
                      simpa [List.getD, List.getElem?_drop] using h
                    obtain ⟨cs, hcl, hM, hcc, hfz⟩ := Kd.R_elem HR.out nils (k : Int) k0 k1
                    have e1 : (k : Int).toNat * kd.sz + 0 = k := by show (k : Int).toNat * 1 + 0 = k; omega
                    have hM' : cs = [enc (ys.getD (k : Int).toNat nils)] := hM
                    have e2 : (k : Int).toNat = k := by omega
                    rw [e2, hyk] at hM'
                    have c5k := hcc 0 (enc (S.getD k nils)) (by rw [hM']; rfl)
                    have f5k := hfz 0
                    rw [e1] at c5k f5k
                    have hR6 := R_two Q6.out (Two.of_only (g := p) HZ.out) HP.out.2 HP.out.2
                    obtain ⟨_, _, hC6⟩ := Kd.R_reads' hR6
                    obtain ⟨ad6', e6, hc6k⟩ := kdCell hC6 (by have := HST.out; omega)
                    cases e6
                    have hkT : k < T.length := by have := HST.out; omega
                    have c6k : wr.cell? (ad6.add k) = some (enc (T.getD k nils)) := by
                      have h := hc6k k hkT
                      rwa [show T[k] = T.getD k nils from by simp [List.getD, hkT]] at h
                    obtain ⟨bk, hat1, hat2, hin⟩ := Q5.out.get k nils nils hkm
                    have hat1 := hat1.below Qz.out
                    have hat2 := hat2.kept (w' := wr) (fun ad e => HZ.out.block _ (hin ad e).2.2.2.2 (by have h1 := (hin ad e).2.2.2.1; have h2 := HP.out; omega))
                    clear hyk hcl hM hcc hfz e1 hM' e2 hR6 hC6 hc6k hin hkT
                    generalize S.getD k nils = s at *
                    generalize T.getD k nils = t at *
                    obtain ⟨sA, sn, sc⟩ := s
                    obtain ⟨tA, tn, tc⟩ := t
                    obtain rfl : sn = bk.length := hat1.hn
                    obtain rfl : tn = bk.length := hat2.hn
                    have c5k : wr.cell? ⟨p, k, none⟩ = some (.slice sA bk.length sc) := c5k
                    have c6k : wr.cell? (ad6.add k) = some (.slice tA bk.length tc) := c6k
                    have heq : ∀ n, Calls Try.prog 16 #[.slice sA bk.length sc, .slice tA bk.length tc] (wr.drewN n) fun e w' => e = .returned (.bool true) ∧ ∃ m, w' = (wr.drewN n).drewN m := fun n =>
                      (catenaryref00_EqBytes.calls sA sc bk tA tc bk true (wr.drewN n) (Kd.C_drewN hat1.hC n) hat1.hc (Kd.C_drewN hat2.hC n) hat2.hc (by unfold catenaryref00_EqBytes.f; simp)).mono fun _ _ h => ⟨h.1, h.2.out⟩
                    have HEQ := Bx.mk heq
                    clear hat1 hat2 heq
                    go_wp2_with fail
                    go_quiet ((go_at_call 16; exact Calls.quiet_of (HEQ.out _)))
                    go_wp2_with fail
                    clear c5k f5k c6k
                    have HYL := HY.out.1
                    have hRq := Kd.R_drewN HR.out nq
                    rw [← HYL] at hRq
                    have r1 := (Kd.R_put hRq (k : Int) nils).1
                    rw [HYL, show (k : Int).toNat = k from by omega] at r1
                    have r2 : Only p w6 ((wr.drewN nq).setCell ⟨p, k, none⟩ (.slice none 0 0)) := only_trans HZ.out ⟨rfl, rfl, rfl, by simp [World.setCell], fun k' _ hk' => Below.heap_setCell (wr.drewN nq) ⟨p, k, none⟩ _ k' hk'⟩
                    have hs4 := HS4.out
                    have hyd : (ys.set k nils).drop (k + 1) = S.drop (k + 1) := by
                      rw [List.drop_set_of_lt (by omega)]
                      have h := congrArg (List.drop 1) HY.out.2
                      rwa [List.drop_drop, List.drop_drop] at h
                    go_roundw
                    case rel => exact ⟨k + 1, ys.set k nils, by omega, by rw [show wrap64 ((k : Int) + 1) = ((k + 1 : Nat) : Int) from by unfold wrap64; omega], ⟨by rw [List.length_set]; exact HYL, hyd⟩, ⟨r1⟩, ⟨r2⟩⟩
                    case measure => rw [show wrap64 ((k : Int) + 1) = ((k + 1 : Nat) : Int) from by unfold wrap64; omega]; simp only [intOf]; omega
                  · obtain rfl : k = S.length := by omega
                    go_wp2_with fail
                    go_roundw
                    case rel =>
                      have hp := HP.out
                      have h6 := P6.out
                      have h7 := Q7.out
                      refine ⟨i + 1, mx, a2, rs2, by omega, by simp, ⟨IA.only Q1.out HZ.out (by omega) (by omega)⟩, ⟨Q2.out.kept (HZ.out.block q (by omega) (by omega))⟩, ⟨Both.step Q3.out (fun k hk => ⟨HZ.out.block k hk.2.2.2.2 (by omega), hk.1, hk.2.1, hk.2.2.1, Nat.lt_of_lt_of_le hk.2.2.2.2 HZ.out.size⟩)⟩, Qz⟩
                    case measure => simp [intOf]; omega
            · have HDF := Bx.mk hd
              clear hd
              refine (Byt.take_far g b nx seq a ⟨A', bs.length, c'⟩ _ K0.out hs.1 hs.2 (by have := HDF.out; omega)).mono ?_
              rintro e w5 ⟨rfl, hb5⟩
              have P0 := Bx.mk (K0.out.below hb5)
              have P1 := Bx.mk (K1.out.kept (hb5.block q K1.out.lt))
              have P2 : Bx (Both w w5 (fun k => k ≠ g ∧ k ≠ b ∧ k ≠ q ∧ k < w5.heap.size) a rs) := ⟨K2.out.step (fun k hk => ⟨hb5.block k hk.2.2.2, hk.1, hk.2.1, hk.2.2.1, Nat.lt_of_lt_of_le hk.2.2.2 hb5.size⟩)⟩
              have P3 := Bx.mk (K3.out.trans (hb5.mono K3.out.size))
              clear K0 K1 K2 K3 hb5 ce2
              have ce2 := pw_cell_below P3.out CE2.out
              go_wp2_with fail
              refine (Ref.take_far q nx seq rs ⟨A', bs.length, c'⟩ _ P1.out hs.1 hs.2 (by have := HDF.out; omega)).mono ?_
              rintro e w6 ⟨rfl, hdr⟩
              obtain ⟨nd, rfl⟩ := hdr.out
              clear hdr ce2
              have K0 : Bx (Byt.Is (w5.drewN nd) g b nx a) := ⟨⟨P0.out.hg, P0.out.hm, P0.out.h0, P0.out.h1, P0.out.hl⟩⟩
              have K1 : Bx (QA (w5.drewN nd) q nx rs) := ⟨P1.out.kept rfl⟩
              have K2 : Bx (Both w (w5.drewN nd) (fun k => k ≠ g ∧ k ≠ b ∧ k ≠ q ∧ k < (w5.drewN nd).heap.size) a rs) := ⟨P2.out.step (fun k hk => ⟨rfl, hk⟩)⟩
              have K3 : Bx (Below w.heap.size w (w5.drewN nd)) := ⟨⟨P3.out.os, P3.out.tape, P3.out.output, P3.out.size, P3.out.block⟩⟩
              clear P0 P1 P2 P3
              generalize w5.drewN nd = w6 at *
              have hcn : (cnt a : Int) = (cnt rs : Int) := by rw [cnt2 K2.out]
              go_wp2_with (first | (go_at_call 13; (with_reducible refine (Byt.ack_c g b nx a _ K0.out).mono ?_); rintro e _ ⟨rfl, rfl⟩) | (go_at_call 9; (with_reducible refine (Ref.ack_c q nx rs _ K1.out).mono ?_); rintro e _ ⟨rfl, rfl⟩) | (go_at_call 14; (with_reducible refine (Byt.waits_c g b nx a _ K0.out).mono ?_); rintro e _ ⟨rfl, rfl⟩) | (go_at_call 15; (with_reducible refine (Ref.waits_c q nx rs _ K1.out).mono ?_); (rw [← hcn]); rintro e _ ⟨rfl, rfl⟩))
              clear hcn
              obtain ⟨wo, hwo⟩ : ∃ wo : World, wo = w6 := ⟨_, rfl⟩
              subst hwo
              go_loop [15] (fun v => v = .int .i64 0) (fun _ => 0)
              case atStart => rfl
              case round =>
                subst hrel
                go_wp2_with fail
                go_roundw
                case rel => exact ⟨i + 1, nx, a, rs, by omega, by simp, K0, K1, K2, K3⟩
                case measure => simp [intOf]; omega
          · refine (Byt.take_bad g b nx seq a ⟨A', bs.length, c'⟩ _ K0.out hs).mono ?_
            rintro e _ ⟨rfl, rfl⟩
            go_wp2_with fail
            refine (Ref.take_bad q nx seq rs ⟨A', bs.length, c'⟩ _ K1.out hs).mono ?_
            rintro e _ ⟨rfl, rfl⟩
            have hcn : (cnt a : Int) = (cnt rs : Int) := by rw [cnt2 K2.out]
            clear ce2
            go_wp2_with (first | (go_at_call 13; (with_reducible refine (Byt.ack_c g b nx a _ K0.out).mono ?_); rintro e _ ⟨rfl, rfl⟩) | (go_at_call 9; (with_reducible refine (Ref.ack_c q nx rs _ K1.out).mono ?_); rintro e _ ⟨rfl, rfl⟩) | (go_at_call 14; (with_reducible refine (Byt.waits_c g b nx a _ K0.out).mono ?_); rintro e _ ⟨rfl, rfl⟩) | (go_at_call 15; (with_reducible refine (Ref.waits_c q nx rs _ K1.out).mono ?_); (rw [← hcn]); rintro e _ ⟨rfl, rfl⟩))
            clear hcn
            obtain ⟨wo, hwo⟩ : ∃ wo : World, wo = wk := ⟨_, rfl⟩
            subst hwo
            go_loop [15] (fun v => v = .int .i64 0) (fun _ => 0)
            case atStart => rfl
            case round =>
              subst hrel
              go_wp2_with fail
              go_roundw
              case rel => exact ⟨i + 1, nx, a, rs, by omega, by simp, K0, K1, K2, K3⟩
              case measure => simp [intOf]; omega
        · go_wp2_with fail
          have CE2 := Bx.mk ce2w
          clear ce2w ce0 ce1
          obtain ⟨wk, hwk⟩ : ∃ wk : World, wk = wr := ⟨_, rfl⟩
          obtain ⟨seq, hsq⟩ : ∃ seq : Int, seq = N := ⟨_, rfl⟩
          rw [← hsq, ← hwk]
          rw [← hwk] at ce2
          have K0 : Bx (Byt.Is wk g b nx a) := ⟨by rw [hwk]; exact HA.out⟩
          have K1 : Bx (QA wk q nx rs) := ⟨by rw [hwk]; exact HQ.out⟩
          have K2 : Bx (Both w wk (fun k => k ≠ g ∧ k ≠ b ∧ k ≠ q ∧ k < wk.heap.size) a rs) := ⟨by rw [hwk]; exact HO.out⟩
          have K3 : Bx (Below w.heap.size w wk) := ⟨by rw [hwk]; exact HB.out⟩
          clear hsq hwk HA HQ HO HB
          by_cases hs : 0 ≤ seq ∧ seq ≤ 65535
          · by_cases hd : (seq - nx) % 65536 < 4
            · obtain ⟨d, hd', hd4⟩ : ∃ d : Nat, (seq - nx) % 65536 = (d : Int) ∧ d < 4 := ⟨((seq - nx) % 65536).toNat, by omega, by omega⟩
              have HDD := Bx.mk hd'
              have HSQ := Bx.mk hs
              have HD4 := Bx.mk hd4
              clear hd hd' hs hd4
              refine (Byt.take_c g b nx seq a d ⟨A', bs.length, c'⟩ _ K0.out HSQ.out.1 HSQ.out.2 HDD.out HD4.out).mono ?_
              rintro e w5 ⟨vv, rfl, hr, ha, ht⟩
              have P0 := Bx.mk hr
              have P1 := Bx.mk ha
              have P2 := Bx.mk (K1.out.kept (ht.block q K1.out.lt (Ne.symm HQB.out.2.1) (Ne.symm HQB.out.2.2.1)))
              have P3 : Bx (Both w w5 (fun k => k ≠ g ∧ k ≠ b ∧ k ≠ q ∧ k < wk.heap.size) a rs) := ⟨K2.out.step (fun k hk => ⟨ht.block k hk.2.2.2 hk.1 hk.2.1, hk⟩)⟩
              have P4 := Bx.mk (ht.below K3.out K3.out.size HGB.out.1 HGB.out.2)
              have P5 := Bx.mk ht.size
              have P6 := Bx.mk (show q < wk.heap.size ∧ g < wk.heap.size ∧ b < wk.heap.size from ⟨K1.out.lt, (Array.getElem?_eq_some_iff.1 K0.out.hg).1, K0.out.hm.lt⟩)
              have P7 := Bx.mk K3.out.size
              have HAL := Bx.mk K0.out.hl
              have HS4 : Bx ((told (came a d ⟨A', bs.length, c'⟩)).length ≤ 4) := ⟨by rw [lead_told, ← HAL.out, ← came_length a d ⟨A', bs.length, c'⟩]; exact lead_le _⟩
              clear hr ha ht ce2 K0 K1 K2 K3
              have ce2 := pw_cell_below P4.out CE2.out
              go_wp2_with fail
              refine (take_near q nx seq rs d A' bs c' _ P2.out HSQ.out.1 HSQ.out.2 HDD.out HD4.out (Kd.C_below HAT.out.hC P4.out) HAT.out.hc HLN.out (fun ad e hp => ?hne)).mono ?_
              case hne =>
                have h1 := C_lt HAT.out.hC hp ad e
                have h2 := HQB.out.1
                omega
              rintro e w6 ⟨vv2, x, rfl, hr2, hq2, ho2, hx2⟩
              have hboth : Both w w6 (fun k => k ≠ g ∧ k ≠ b ∧ k ≠ q ∧ (k < wk.heap.size ∨ w5.heap.size ≤ k) ∧ k < w6.heap.size) (came a d ⟨A', bs.length, c'⟩) (came rs d x) :=
                came2 (P3.out.step (fun k hk => ⟨ho2.block k (Nat.lt_of_lt_of_le hk.2.2.2 P5.out) hk.2.2.1, hk.1, hk.2.1, hk.2.2.1, .inl hk.2.2.2, Nat.lt_of_lt_of_le hk.2.2.2 (Nat.le_trans P5.out ho2.size)⟩)) d (by rw [HAL.out]; exact HD4.out) _ _
                  (fun hn => ⟨bs, HAT.out, (hx2 hn).1, fun ad e => by
                    have h1 := (hx2 hn).2 ad e
                    have h2 := P6.out
                    have h3 := P5.out
                    exact ⟨by omega, by omega, by omega, .inr h1.1, h1.2⟩⟩)
              have hlead := lead2 hboth
              rw [← hlead] at hq2
              have Q0 := Bx.mk (R_two P0.out (Two.of_only (g := q) ho2) P6.out.1 P6.out.1)
              have Q1 := Bx.mk (IA.only P1.out ho2 HQB.out.2.1 HQB.out.2.2.1)
              have Q2 := Bx.mk hq2
              have Q3 := Bx.mk (rest2 hboth)
              have Q4 := Bx.mk ((Two.of_only (g := q) ho2).below P4.out P4.out.size HQB.out.1 HQB.out.1)
              have Q5 := Bx.mk (told2 hboth)
              have Q6 := Bx.mk hr2
              have Q7 := Bx.mk ho2.size
              have P0' := P0
              clear hr2 hq2 ho2 hx2 hboth hlead ce2 P0 P1 P2 P3 P4
              generalize rest (came a d ⟨A', bs.length, c'⟩) = a2 at *
              generalize rest (came rs d x) = rs2 at *
              generalize told (came a d ⟨A', bs.length, c'⟩) = S at *
              generalize told (came rs d x) = T at *
              generalize (nx + (lead (came a d ⟨A', bs.length, c'⟩) : Nat)) % 65536 = mx at *
              obtain ⟨A5, c5, rfl, hc5, _⟩ := Kd.R_reads Q0.out
              obtain ⟨A6, c6, rfl, hc6, hC6⟩ := Kd.R_reads Q6.out
              have HST := Bx.mk Q5.out.len
              rw [← HST.out]
              have hcn : (cnt a2 : Int) = (cnt rs2 : Int) := by rw [cnt2 Q3.out]
              clear hC6
              go_wp2_with (first | (go_at_call 13; (with_reducible refine (Byt.ack_c g b mx a2 _ Q1.out).mono ?_); rintro e _ ⟨rfl, rfl⟩) | (go_at_call 9; (with_reducible refine (Ref.ack_c q mx rs2 _ Q2.out).mono ?_); rintro e _ ⟨rfl, rfl⟩) | (go_at_call 14; (with_reducible refine (Byt.waits_c g b mx a2 _ Q1.out).mono ?_); rintro e _ ⟨rfl, rfl⟩) | (go_at_call 15; (with_reducible refine (Ref.waits_c q mx rs2 _ Q2.out).mono ?_); (rw [← hcn]); rintro e _ ⟨rfl, rfl⟩))
              clear hcn
              by_cases hS : S.length = 0
              · rw [hS]
                obtain ⟨wo, hwo⟩ : ∃ wo : World, wo = w6 := ⟨_, rfl⟩
                subst hwo
                go_loop [15] (fun v => v = .int .i64 0) (fun _ => 0)
                case atStart => rfl
                case round =>
                  subst hrel
                  go_wp2_with fail
                  go_roundw
                  case rel => exact ⟨i + 1, mx, a2, rs2, by omega, by simp, Q1, Q2, ⟨Both.step Q3.out (fun k hk => ⟨rfl, hk.1, hk.2.1, hk.2.2.1, hk.2.2.2.2⟩)⟩, Q4⟩
                  case measure => simp [intOf]; omega
              · obtain ⟨_, _, hC5⟩ := Kd.R_reads' Q0.out
                obtain ⟨ad5, rfl, _⟩ := kdCell hC5 (by omega)
                obtain ⟨p, rfl⟩ := Kd.R_head Q0.out
                have HP := Bx.mk (show wk.heap.size ≤ p ∧ p < w5.heap.size from ⟨Kd.R_base P0'.out p rfl, Kd.R_lt P0'.out p rfl⟩)
                obtain ⟨_, _, hC6⟩ := Kd.R_reads' Q6.out
                obtain ⟨ad6, rfl, _⟩ := kdCell hC6 (by have := HST.out; omega)
                clear hC5 hC6 P0'
                go_loopw [15] (fun v wr => ∃ (k : Nat) (ys : List Sl), k ≤ S.length ∧ v = .int .i64 (k : Int) ∧ Bx (ys.length = S.length ∧ ys.drop k = S.drop k) ∧ Bx (kd.R 27 wr wk.heap.size (fun _ => True) (.slice (some ⟨p, 0, none⟩) S.length c5) ys) ∧ Bx (Only p w6 wr)) (fun v _ => S.length - (intOf v).toNat)
                case atStart => exact ⟨0, S, by omega, rfl, ⟨rfl, rfl⟩, Q0, ⟨⟨rfl, rfl, rfl, Nat.le_refl _, fun _ _ _ => rfl⟩⟩⟩
                case round =>
                  clear Q0
                  obtain ⟨k, ys, hk, rfl, HY, HR, HZ⟩ := hrel
                  have k0 : (0 : Int) ≤ (k : Int) := by omega
                  have Qz := Bx.mk ((Two.of_only (g := p) HZ.out).below Q4.out Q4.out.size (Nat.le_trans P7.out HP.out.1) (Nat.le_trans P7.out HP.out.1))
                  by_cases hkm : k < S.length
                  · have k1 : (k : Int) < (S.length : Int) := by omega
                    have hyk : ys.getD k nils = S.getD k nils := by
                      have h := congrArg (fun l => l.getD 0 nils) HY.out.2
                      simpa [List.getD, List.getElem?_drop] using h
                    obtain ⟨cs, hcl, hM, hcc, hfz⟩ := Kd.R_elem HR.out nils (k : Int) k0 k1
                    have e1 : (k : Int).toNat * kd.sz + 0 = k := by show (k : Int).toNat * 1 + 0 = k; omega
                    have hM' : cs = [enc (ys.getD (k : Int).toNat nils)] := hM
                    have e2 : (k : Int).toNat = k := by omega
                    rw [e2, hyk] at hM'
                    have c5k := hcc 0 (enc (S.getD k nils)) (by rw [hM']; rfl)
                    have f5k := hfz 0
                    rw [e1] at c5k f5k
                    have hR6 := R_two Q6.out (Two.of_only (g := p) HZ.out) HP.out.2 HP.out.2
                    obtain ⟨_, _, hC6⟩ := Kd.R_reads' hR6
                    obtain ⟨ad6', e6, hc6k⟩ := kdCell hC6 (by have := HST.out; omega)
                    cases e6
                    have hkT : k < T.length := by have := HST.out; omega
                    have c6k : wr.cell? (ad6.add k) = some (enc (T.getD k nils)) := by
                      have h := hc6k k hkT
                      rwa [show T[k] = T.getD k nils from by simp [List.getD, hkT]] at h
                    obtain ⟨bk, hat1, hat2, hin⟩ := Q5.out.get k nils nils hkm
                    have hat1 := hat1.below Qz.out
                    have hat2 := hat2.kept (w' := wr) (fun ad e => HZ.out.block _ (hin ad e).2.2.2.2 (by have h1 := (hin ad e).2.2.2.1; have h2 := HP.out; omega))
                    clear hyk hcl hM hcc hfz e1 hM' e2 hR6 hC6 hc6k hin hkT
                    generalize S.getD k nils = s at *
                    generalize T.getD k nils = t at *
                    obtain ⟨sA, sn, sc⟩ := s
                    obtain ⟨tA, tn, tc⟩ := t
                    obtain rfl : sn = bk.length := hat1.hn
                    obtain rfl : tn = bk.length := hat2.hn
                    have c5k : wr.cell? ⟨p, k, none⟩ = some (.slice sA bk.length sc) := c5k
                    have c6k : wr.cell? (ad6.add k) = some (.slice tA bk.length tc) := c6k
                    have heq : ∀ n, Calls Try.prog 16 #[.slice sA bk.length sc, .slice tA bk.length tc] (wr.drewN n) fun e w' => e = .returned (.bool true) ∧ ∃ m, w' = (wr.drewN n).drewN m := fun n =>
                      (catenaryref00_EqBytes.calls sA sc bk tA tc bk true (wr.drewN n) (Kd.C_drewN hat1.hC n) hat1.hc (Kd.C_drewN hat2.hC n) hat2.hc (by unfold catenaryref00_EqBytes.f; simp)).mono fun _ _ h => ⟨h.1, h.2.out⟩
                    have HEQ := Bx.mk heq
                    clear hat1 hat2 heq
                    go_wp2_with fail
                    go_quiet ((go_at_call 16; exact Calls.quiet_of (HEQ.out _)))
                    go_wp2_with fail
                    clear c5k f5k c6k
                    have HYL := HY.out.1
                    have hRq := Kd.R_drewN HR.out nq
                    rw [← HYL] at hRq
                    have r1 := (Kd.R_put hRq (k : Int) nils).1
                    rw [HYL, show (k : Int).toNat = k from by omega] at r1
                    have r2 : Only p w6 ((wr.drewN nq).setCell ⟨p, k, none⟩ (.slice none 0 0)) := only_trans HZ.out ⟨rfl, rfl, rfl, by simp [World.setCell], fun k' _ hk' => Below.heap_setCell (wr.drewN nq) ⟨p, k, none⟩ _ k' hk'⟩
                    have hs4 := HS4.out
                    have hyd : (ys.set k nils).drop (k + 1) = S.drop (k + 1) := by
                      rw [List.drop_set_of_lt (by omega)]
                      have h := congrArg (List.drop 1) HY.out.2
                      rwa [List.drop_drop, List.drop_drop] at h
                    go_roundw
                    case rel => exact ⟨k + 1, ys.set k nils, by omega, by rw [show wrap64 ((k : Int) + 1) = ((k + 1 : Nat) : Int) from by unfold wrap64; omega], ⟨by rw [List.length_set]; exact HYL, hyd⟩, ⟨r1⟩, ⟨r2⟩⟩
                    case measure => rw [show wrap64 ((k : Int) + 1) = ((k + 1 : Nat) : Int) from by unfold wrap64; omega]; simp only [intOf]; omega
                  · obtain rfl : k = S.length := by omega
                    go_wp2_with fail
                    go_roundw
                    case rel =>
                      have hp := HP.out
                      have h6 := P6.out
                      have h7 := Q7.out
                      refine ⟨i + 1, mx, a2, rs2, by omega, by simp, ⟨IA.only Q1.out HZ.out (by omega) (by omega)⟩, ⟨Q2.out.kept (HZ.out.block q (by omega) (by omega))⟩, ⟨Both.step Q3.out (fun k hk => ⟨HZ.out.block k hk.2.2.2.2 (by omega), hk.1, hk.2.1, hk.2.2.1, Nat.lt_of_lt_of_le hk.2.2.2.2 HZ.out.size⟩)⟩, Qz⟩
                    case measure => simp [intOf]; omega
            · have HDF := Bx.mk hd
              clear hd
              refine (Byt.take_far g b nx seq a ⟨A', bs.length, c'⟩ _ K0.out hs.1 hs.2 (by have := HDF.out; omega)).mono ?_
              rintro e w5 ⟨rfl, hb5⟩
              have P0 := Bx.mk (K0.out.below hb5)
              have P1 := Bx.mk (K1.out.kept (hb5.block q K1.out.lt))
              have P2 : Bx (Both w w5 (fun k => k ≠ g ∧ k ≠ b ∧ k ≠ q ∧ k < w5.heap.size) a rs) := ⟨K2.out.step (fun k hk => ⟨hb5.block k hk.2.2.2, hk.1, hk.2.1, hk.2.2.1, Nat.lt_of_lt_of_le hk.2.2.2 hb5.size⟩)⟩
              have P3 := Bx.mk (K3.out.trans (hb5.mono K3.out.size))
              clear K0 K1 K2 K3 hb5 ce2
              have ce2 := pw_cell_below P3.out CE2.out
              go_wp2_with fail
              refine (Ref.take_far q nx seq rs ⟨A', bs.length, c'⟩ _ P1.out hs.1 hs.2 (by have := HDF.out; omega)).mono ?_
              rintro e w6 ⟨rfl, hdr⟩
              obtain ⟨nd, rfl⟩ := hdr.out
              clear hdr ce2
              have K0 : Bx (Byt.Is (w5.drewN nd) g b nx a) := ⟨⟨P0.out.hg, P0.out.hm, P0.out.h0, P0.out.h1, P0.out.hl⟩⟩
              have K1 : Bx (QA (w5.drewN nd) q nx rs) := ⟨P1.out.kept rfl⟩
              have K2 : Bx (Both w (w5.drewN nd) (fun k => k ≠ g ∧ k ≠ b ∧ k ≠ q ∧ k < (w5.drewN nd).heap.size) a rs) := ⟨P2.out.step (fun k hk => ⟨rfl, hk⟩)⟩
              have K3 : Bx (Below w.heap.size w (w5.drewN nd)) := ⟨⟨P3.out.os, P3.out.tape, P3.out.output, P3.out.size, P3.out.block⟩⟩
              clear P0 P1 P2 P3
              generalize w5.drewN nd = w6 at *
              have hcn : (cnt a : Int) = (cnt rs : Int) := by rw [cnt2 K2.out]
              go_wp2_with (first | (go_at_call 13; (with_reducible refine (Byt.ack_c g b nx a _ K0.out).mono ?_); rintro e _ ⟨rfl, rfl⟩) | (go_at_call 9; (with_reducible refine (Ref.ack_c q nx rs _ K1.out).mono ?_); rintro e _ ⟨rfl, rfl⟩) | (go_at_call 14; (with_reducible refine (Byt.waits_c g b nx a _ K0.out).mono ?_); rintro e _ ⟨rfl, rfl⟩) | (go_at_call 15; (with_reducible refine (Ref.waits_c q nx rs _ K1.out).mono ?_); (rw [← hcn]); rintro e _ ⟨rfl, rfl⟩))
              clear hcn
              obtain ⟨wo, hwo⟩ : ∃ wo : World, wo = w6 := ⟨_, rfl⟩
              subst hwo
              go_loop [15] (fun v => v = .int .i64 0) (fun _ => 0)
              case atStart => rfl
              case round =>
                subst hrel
                go_wp2_with fail
                go_roundw
                case rel => exact ⟨i + 1, nx, a, rs, by omega, by simp, K0, K1, K2, K3⟩
                case measure => simp [intOf]; omega
          · refine (Byt.take_bad g b nx seq a ⟨A', bs.length, c'⟩ _ K0.out hs).mono ?_
            rintro e _ ⟨rfl, rfl⟩
            go_wp2_with fail
            refine (Ref.take_bad q nx seq rs ⟨A', bs.length, c'⟩ _ K1.out hs).mono ?_
            rintro e _ ⟨rfl, rfl⟩
            have hcn : (cnt a : Int) = (cnt rs : Int) := by rw [cnt2 K2.out]
            clear ce2
            go_wp2_with (first | (go_at_call 13; (with_reducible refine (Byt.ack_c g b nx a _ K0.out).mono ?_); rintro e _ ⟨rfl, rfl⟩) | (go_at_call 9; (with_reducible refine (Ref.ack_c q nx rs _ K1.out).mono ?_); rintro e _ ⟨rfl, rfl⟩) | (go_at_call 14; (with_reducible refine (Byt.waits_c g b nx a _ K0.out).mono ?_); rintro e _ ⟨rfl, rfl⟩) | (go_at_call 15; (with_reducible refine (Ref.waits_c q nx rs _ K1.out).mono ?_); (rw [← hcn]); rintro e _ ⟨rfl, rfl⟩))
            clear hcn
            obtain ⟨wo, hwo⟩ : ∃ wo : World, wo = wk := ⟨_, rfl⟩
            subst hwo
            go_loop [15] (fun v => v = .int .i64 0) (fun _ => 0)
            case atStart => rfl
            case round =>
              subst hrel
              go_wp2_with fail
              go_roundw
              case rel => exact ⟨i + 1, nx, a, rs, by omega, by simp, K0, K1, K2, K3⟩
              case measure => simp [intOf]; omega
      · have i2 : ¬ (i : Int) < 200 := by omega
        go_wp2_with fail
        refine (Str.works_c _).mono ?_
        rintro e w4 ⟨rfl, hb4⟩
        go_wp2_with fail
        go_ret
        exact ⟨rfl, HB.out.trans (hb4.mono HB.out.size)⟩
    · have i1 : ¬ (i : Int) < (n : Int) := by omega
      go_wp2_with fail
      refine (Str.works_c _).mono ?_
      rintro e w4 ⟨rfl, hb4⟩
      go_wp2_with fail
      go_ret
      exact ⟨rfl, HB.out.trans (hb4.mono HB.out.size)⟩
theorem plays_c (first : Int) (A : Option Addr) (n c : Nat) (ds : List Do) (w : World) (hD : doK.C w A ds.length ds) (hn : ds.length = n) (hc : n ≤ c) (hB : ∀ x ∈ ds, x.2.2.length < 140737488355328) :
    Calls Try.prog 3 #[.int .i64 first, .slice A n c] w fun e w' => e = .returned (.bool true) ∧ Below w.heap.size w w' := by
  by_cases hf : 0 ≤ first ∧ first ≤ 65535
  · exact plays_yes first A n c ds w hf.1 hf.2 hD hn hc hB
  · exact plays_no first A n c w hf
end Go.Proofs.Ytlpopnacfggiiaa.Ref
