/- Layer 14: InboxAll's walk. -/
import Derived.Test.YtlpopnacfggiiaaAllPure
set_option linter.unusedVariables false
set_option linter.unusedSimpArgs false
namespace Go.Proofs.Ytlpopnacfggiiaa.All
open Go.RowKit Go.Proofs.Ytlpopnacfggiiaa.Base Go.Proofs.Ytlpopnacfggiiaa.Int Go.Proofs.Ytlpopnacfggiiaa.Order Go.Proofs.YtlpopnacfggiiaaW.PrintWords Go.Proofs.YtlpopnacfggiiaaW.PrintLast Go.Proofs.YtlpopnacfggiiaaW.PrintMore

theorem R_empty (W : World) (B : Nat) (hB : B ≤ W.heap.size) (ok : Nat → Prop) (hok : ok W.heap.size) : (Kd.int .i64).R 3 (W.alloc (.cells #[] 3)) B ok (.slice (some ⟨W.heap.size, 0, none⟩) 0 0) ([] : List Int) := by
  refine ⟨fun k hk => ?_, [], ?_, Reps.none _ _⟩
  · have : k = W.heap.size := by simpa [Value.ownBlock] using hk.symm
    rw [this]; exact hok
  · refine ⟨rfl, .inr ⟨W.heap.size, 0, #[], rfl, hB, heap_alloc_new W _, by simp, by simp [maxLen], rfl, rfl⟩⟩
theorem intCells {w : World} {A : Option Addr} {xs : List Int} (h : (Kd.int .i64).C w A xs.length xs) (h0 : 0 < xs.length) : ∃ ad, A = some ad ∧ ∀ i (hi : i < xs.length), w.cell? (ad.add i) = some (.int .i64 xs[i]) := by
  obtain ⟨ad, rfl, _⟩ := intCell h 0 h0
  refine ⟨ad, rfl, fun i hi => ?_⟩
  obtain ⟨ad', e, hc⟩ := intCell h i hi
  cases e; exact hc
theorem lit4 (W : World) : (Kd.int .i64).R 3 (W.alloc (.cells #[.int .i64 0, .int .i64 1, .int .i64 2, .int .i64 3] 3)) W.heap.size (fun _ => True) (.slice (some ⟨W.heap.size, 0, none⟩) 4 4) [0, 1, 2, 3] := by
  refine ⟨fun _ _ => trivial, [.int .i64 0, .int .i64 1, .int .i64 2, .int .i64 3], ?_, ?_⟩
  · exact ⟨rfl, .inr ⟨W.heap.size, 4, #[.int .i64 0, .int .i64 1, .int .i64 2, .int .i64 3], rfl, Nat.le_refl _, heap_alloc_new W _, by simp, by simp [maxLen], rfl, rfl⟩⟩
  · exact ((((Reps.none _ _).snoc (p := (0 : Int)) (c := [.int .i64 0]) rfl rfl).snoc (p := (1 : Int)) (c := [.int .i64 1]) rfl rfl).snoc (p := (2 : Int)) (c := [.int .i64 2]) rfl rfl).snoc (p := (3 : Int)) (c := [.int .i64 3]) rfl rfl
def upTo (n : Nat) : List Int := (List.range n).map fun k => ((k : Nat) : Int)
def ints (l : List Nat) : List Int := l.map fun k => ((k : Nat) : Int)
set_option maxRecDepth 100000 in
set_option maxHeartbeats 4000000 in
theorem all_walk (first : Int) (A : Option Addr) (n c' : Nat) (zs : List Int) (w : World) (hZ : (Kd.int .i64).C w A zs.length zs) (hz : zs.length = n) (hnc : n ≤ c') : Calls Try.prog 5 #[.int .i64 first, .slice A n c'] w fun e w' => e = .returned (.bool true) ∧ Below w.heap.size w w' := by
  have HZ := Bx.mk hZ
  have HN := Bx.mk hz
  clear hZ hz
  go_enter Try.func5, Try.ntmps5
  go_wp2_with fail
  refine (bring_c first 65536 _ (by decide) (by decide)).mono ?_
  rintro e _ ⟨rfl, rfl⟩
  have x0 := Int.emod_nonneg first (b := 65536) (by decide)
  have x1 : first % 65536 < 2 ^ 16 := Int.emod_lt_of_pos first (b := 65536) (by decide)
  generalize first % 65536 = base at *
  go_wp2_with fail
  refine (new_yes base _ x0 (by omega)).mono ?_
  rintro e w2 ⟨rfl, ha, hb⟩
  obtain ⟨g, hgg⟩ : ∃ g, g = w.heap.size + 1 := ⟨_, rfl⟩
  obtain ⟨b, hbb⟩ : ∃ b, b = w.heap.size := ⟨_, rfl⟩
  rw [← hgg, ← hbb] at ha
  rw [← hgg]
  have HA2 := Bx.mk ha
  have HB2 := Bx.mk hb
  have HGB := Bx.mk (show w.heap.size ≤ g ∧ w.heap.size ≤ b by omega)
  have HL := Bx.mk (And.intro (Array.getElem?_eq_some_iff.1 ha.hg).1 ha.hm.lt)
  clear ha hb hgg hbb
  go_wp2_with fail
  go_loopw [8, 9] (fun v8 v9 wr => ∃ i : Nat, i ≤ 25 ∧ v9 = .int .i64 (i : Int) ∧ Bx ((Kd.int .i64).R 3 wr w2.heap.size (fun _ => True) v8 (upTo (4 * i))) ∧ Bx (Is wr g b ((base + 4 * i) % 65536) [none, none, none, none]) ∧ Bx (Below w.heap.size w wr) ∧ Bx (w2.heap.size ≤ wr.heap.size)) (fun _ v _ => 25 - (intOf v).toNat)
  case atStart => exact ⟨0, by omega, rfl, ⟨Kd.R_nil _ _ _ _ _⟩, ⟨by
      have e : (base + 4 * ((0 : Nat) : Int)) % 65536 = base := by omega
      rw [e]; exact HA2.out⟩, HB2, ⟨Nat.le_refl _⟩⟩
  case round =>
    obtain ⟨i, hi, rfl, HR, HA, HB, HS⟩ := hrel
    obtain ⟨A8, c8, rfl, hc8, _⟩ := Kd.R_reads HR.out
    by_cases h : i < 25
    · have i0 : (0 : Int) ≤ (i : Int) := by omega
      have i1 : (i : Int) < 25 := by omega
      by_cases hn0 : 0 < n
      · have hn1 : (0 : Int) < (n : Int) := by omega
        have hnz : ((n : Int) == 0) = false := by simp; omega
        obtain ⟨j, htm, hj⟩ : ∃ j : Nat, Int.tmod (i : Int) (n : Int) = (j : Int) ∧ j < n := by
          refine ⟨i % n, ?_, Nat.mod_lt _ hn0⟩
          rw [Int.tmod_eq_emod_of_nonneg (by omega)]
          simp
        have hjz : j < zs.length := by have := HN.out; omega
        obtain ⟨ad, rfl, hce⟩ := intCell HZ.out j hjz
        have hcl := pw_cell_below HB.out hce
        have j0 : (0 : Int) ≤ (j : Int) := by omega
        have j1 : (j : Int) < (n : Int) := by omega
        clear hce
        generalize zs[j] = r at hcl
        clear hjz hj
        go_wp2_with fail
        refine (bring_c r 24 _ (by decide) (by decide)).mono ?_
        rintro e _ ⟨rfl, rfl⟩
        have t0 := Int.emod_nonneg r (b := 24) (by decide)
        have t1 := Int.emod_lt_of_pos r (b := 24) (by decide)
        generalize r % 24 = tn0 at *
        clear hcl
        go_wp2_with fail
        have hLL := Bx.mk (lit4 wr)
        have hbel := (Below.refl wr.heap.size wr).alloc (Nat.le_refl _) (.cells #[.int .i64 0, .int .i64 1, .int .i64 2, .int .i64 3] 3)
        have n0 := Bx.mk (Kd.R_below HR.out hbel)
        have n1 := Bx.mk (HA.out.below hbel)
        have n2 := Bx.mk (HB.out.trans (hbel.mono HB.out.size))
        have n3 := Bx.mk (show w2.heap.size ≤ (wr.alloc (.cells #[.int .i64 0, .int .i64 1, .int .i64 2, .int .i64 3] 3)).heap.size by simp; have := HS.out; omega)
        have n4 := Bx.mk (show wr.heap.size ≤ (wr.alloc (.cells #[.int .i64 0, .int .i64 1, .int .i64 2, .int .i64 3] 3)).heap.size by simp)
        have n5 : Bx ((Kd.int .i64).R 3 (wr.alloc (.cells #[.int .i64 0, .int .i64 1, .int .i64 2, .int .i64 3] 3)) w2.heap.size (fun k => True ∧ some k ≠ (Value.slice A8 (upTo (4 * i)).length c8).ownBlock) (.slice (some ⟨wr.heap.size, 0, none⟩) 4 4) [0, 1, 2, 3]) :=
          ⟨Kd.R_lower (Kd.R_mono (Kd.R_bound hLL.out) (fun k hk => ⟨trivial, fun e => by have h1 := Kd.R_lt HR.out k e.symm; have h2 := hk.2.1; omega⟩)) HS.out⟩
        clear hLL HR HA HB hbel
        generalize wr.alloc (.cells #[.int .i64 0, .int .i64 1, .int .i64 2, .int .i64 3] 3) = wa at *
        go_loopw [8, 10, 11] (fun v8 v10 v11 wr => ∃ (S : F4) (tn : Int), v10 = .int .i64 tn ∧ 0 ≤ tn ∧ tn < 24 ∧ Bx ((Kd.int .i64).R 3 wr w2.heap.size (fun _ => True) v8 (upTo (4 * i + ld S))) ∧ Bx ((Kd.int .i64).R 3 wr w2.heap.size (fun k => True ∧ some k ≠ v8.ownBlock) v11 (ints (left S))) ∧ Bx (Is wr g b ((base + (4 * i + ld S : Nat)) % 65536) (keptOf (4 * i + ld S : Nat) (aft S))) ∧ Bx (Below w.heap.size w wr) ∧ Bx (w2.heap.size ≤ wr.heap.size)) (fun _ _ v _ => lenOf v)
        case atStart => exact ⟨⟨false, false, false, false⟩, _, rfl, by omega, by omega, ⟨n0.out⟩, ⟨n5.out⟩, ⟨by
          have e : ((4 * i + ld ⟨false, false, false, false⟩ : Nat) : Int) = 4 * (i : Int) := by simp [ld]
          rw [e]; exact n1.out⟩, n2, n3⟩
        case round =>
          clear n0 n1 n2 n3 n4 n5
          obtain ⟨S, tn, rfl, tn0', tn1', HR, HLf, HA, HB, HS⟩ := hrel
          obtain ⟨A9, c9, rfl, hc9, _⟩ := Kd.R_reads HR.out
          obtain ⟨AL, cL, rfl, hcL, hCL⟩ := Kd.R_reads HLf.out
          have hil : (ints (left S)).length = (left S).length := by simp [ints]
          by_cases hl : 0 < (left S).length
          · have hll := left_len S
            obtain ⟨k, htk, hk⟩ : ∃ k : Nat, tn % ((left S).length : Int) = (k : Int) ∧ k < (left S).length := by
              have h1 := Int.emod_lt_of_pos tn (b := ((left S).length : Int)) (by omega)
              have h2 := Int.emod_nonneg tn (b := ((left S).length : Int)) (by omega)
              exact ⟨(tn % ((left S).length : Int)).toNat, by omega, by omega⟩
            obtain ⟨td, htd, td0, td1⟩ : ∃ td : Int, tn / ((left S).length : Int) = td ∧ 0 ≤ td ∧ td < 24 :=
              ⟨_, rfl, Int.ediv_nonneg tn0' (by omega), by have := Int.ediv_le_self ((left S).length : Int) tn0'; omega⟩
            obtain ⟨hj4, hjl, hlft, hld, haf⟩ := left_step S k hk
            obtain ⟨ad, rfl, hce⟩ := intCell hCL k (by omega)
            have hjv : (ints (left S))[k]'(by omega) = ((left S).getD k 0 : Nat) := by simp [ints, List.getD, show k < (left S).length by omega]
            rw [hjv] at hce
            have HK := Bx.mk hk
            have HST := Bx.mk (And.intro hlft (And.intro hld haf))
            have hlz : (((left S).length : Int) == 0) = false := by rw [beq_eq_false_iff_ne]; omega
            have hl0 : (0 : Int) < ((left S).length : Int) := by omega
            have k0 : (0 : Int) ≤ (k : Int) := by omega
            have k1 : (k : Int) < ((left S).length : Int) := by omega
            clear hjv hlft hld haf hk
            generalize (left S).getD k 0 = j at *
            go_wp2_with fail
            have ev : 4 * (i : Int) + (j : Int) = ((4 * i + ld S : Nat) : Int) + ((j - ld S : Nat) : Int) := by omega
            refine (take_c g b _ _ _ (j - ld S) _ _ HA.out (by omega) (by omega) (by omega) (by omega)).mono ?_
            rintro e w5 ⟨vv, rfl, hr, ha, ht5⟩
            rw [ev, came_kept _ _ _ (by omega)] at hr ha
            rw [lead_kept, rest_kept] at ha
            obtain ⟨tl, htl⟩ : ∃ tl : List Int, tl = (List.range (ld (setF (aft S) (j - ld S)))).map fun k => ((4 * i + ld S : Nat) : Int) + ((k : Nat) : Int) := ⟨_, rfl⟩
            rw [told_join, ← htl] at hr
            have HTL := Bx.mk htl
            clear htl
            have m0 := Bx.mk (R_two HR.out ht5 HL.out.1 HL.out.2)
            have m1 := Bx.mk (ht5.below HB.out HB.out.size HGB.out.1 HGB.out.2)
            have m2 := Bx.mk (Nat.le_trans HS.out ht5.size)
            have HT5 := Bx.mk ht5
            have HA5 := Bx.mk ha
            have HR5 := Bx.mk hr
            obtain ⟨A7, c7, rfl, hc7, hC7⟩ := Kd.R_reads hr
            have HC7 := Bx.mk hC7
            have HLF5 := Bx.mk (Kd.R_mono (Kd.R_move (Kd.R_bound HLf.out) (fun q hq => ht5.block q hq.2.2.1 (by have := HL.out.1; have := hq.2.1; omega) (by have := HL.out.2; have := hq.2.1; omega))) (fun q hq => hq.1))
            clear hr ha ht5 hC7
            go_wp2_with (at_builtin; go_must (refine Kd.R_append_rows (Kd.int .i64) (w0 := w5) w2.heap.size rfl (.tmp 72) (.tmp 73) 41 3 (.int .i64 0) 8 rfl Try.underlying41 infoE rfl (by decide) (by omega) (.slice A9 (upTo (4 * i + ld S)).length c9) (upTo (4 * i + ld S)) tl _ _ _ (fun _ => True) (fun _ => False) rfl rfl ?aO ?aR (fun _ _ h => h) (fun _ h => h.elim) ?aF ?aB ?aS ?aL ?_; (case aO => exact m0.out); (case aR => exact HC7.out); (case aF => exact fun _ _ => trivial); (case aB => exact Below.refl _ _); (case aS => exact m2.out); (case aL => (have hq := HTL.out; subst hq; simp [upTo]; have := ld_le S; have := ld_le (setF (aft S) (j - ld S)); omega)); intro v1 w6 ho hb hg hat; have p0 := Bx.mk ho; have p1 := Bx.mk (Kd.R_after HLF5.out hg hat); have p2 := Bx.mk hb; clear m0 HLF5 ho hb hg hat))
            have q1 := Bx.mk (IA.low HA5.out p2.out HL.out.1 HL.out.2)
            have q2 := Bx.mk (m1.out.trans (p2.out.mono HB2.out.size))
            have kc : (k : Int) ≤ (cL : Int) := by omega
            have kw : IntKind.i64.wrap ((k : Int) + 1) = (k : Int) + 1 := by simp [IntKind.wrap, IntKind.signed, IntKind.bits]; omega
            have ka : (0 : Int) ≤ (k : Int) + 1 := by omega
            have kb : (k : Int) + 1 ≤ ((left S).length : Int) := by omega
            have lc : ((left S).length : Int) ≤ (cL : Int) := by omega
            obtain ⟨_, _, hC6⟩ := Kd.R_reads' p1.out
            have hll2 := left_len S
            have hk3 := HK.out
            have HT6 : Bx ((Kd.int .i64).C w6 (some ad) k ((ints (left S)).take k)) := ⟨by
              have h1 := Kd.C_take (m := k) hC6 (by omega)
              have h2 : ((ints (left S)).take k).length = k := by rw [List.length_take]; omega
              rw [h2] at h1; exact h1⟩
            have HD6 := Bx.mk (Kd.C_drop (m := k + 1) (c := cL) hC6 (by omega) (by omega))
            have hd6 : ((ints (left S)).drop (k + 1)).length = (left S).length - (k + 1) := by rw [List.length_drop]; omega
            rw [hd6] at HD6
            have HD7 : Bx ((Kd.int .i64).C w6 (if cL = k + 1 then some ad else some { block := ad.block, off := ad.off + (k + 1) }) ((left S).length - (k + 1)) ((ints (left S)).drop (k + 1))) := ⟨by
              have h := HD6.out
              have e2 : ad.add ((k + 1) * (Kd.int .i64).sz) = { block := ad.block, off := ad.off + (k + 1) } := by
                show ad.add ((k + 1) * 1) = _
                simp [Addr.add]
              rw [← e2]; exact h⟩
            clear HD6
            have hfr : ∀ q, w6.heap.size ≤ q → True ∧ some q ≠ v1.ownBlock := fun q hq => ⟨trivial, fun e => by have := Kd.R_lt p0.out q e.symm; omega⟩
            have HFR := Bx.mk hfr
            clear hfr hC6
            go_region_held3 (fun _ => True) (first | exact trivial | go_keep) (first | ((refine Kd.R_append_rows_step (Kd.int .i64) (w0 := w6) w6.heap.size (by rfl) (.tmp 75) (.tmp 78) 41 3 (.int .i64 0) 8 rfl Try.underlying41 infoE rfl (by decide) (by omega) (.slice (some ⟨w6.heap.size, 0, none⟩) 0 0) [] ((ints (left S)).take k) _ _ _ (fun q => True ∧ some q ≠ v1.ownBlock) (fun _ => False) rfl rfl ?aO ?aR (fun _ _ h => h) (fun _ h => h.elim) ?aF ?aB ?aS ?aL ?_; (case aO => exact Kd.R_drew (R_empty w6 _ (Nat.le_refl _) _ (HFR.out _ (Nat.le_refl _)))); (case aR => exact Kd.C_drew (Kd.C_alloc HT6.out _)); (case aF => exact fun q hq => HFR.out q (by simp at hq; omega)); (case aB => exact below_drew1 ((Below.refl _ _).alloc (Nat.le_refl _) _)); (case aS => simp); (case aL => (simp; omega)); intro v2 w7 ho hb hg hat; have r0 := Bx.mk ho; have r1 := Bx.mk (Kd.R_grown1 (Kd.R_drew (Kd.R_alloc p0.out (.cells #[] 3))) rfl hg (by intro e; have := Kd.R_lt p0.out w6.heap.size e.symm; omega)); have r2 := Bx.mk hb; clear ho hb hg hat)) | ((refine Kd.R_append_rows_step (Kd.int .i64) (w0 := w6) w6.heap.size (by rfl) (.tmp 79) (.tmp 83) 41 3 (.int .i64 0) 8 rfl Try.underlying41 infoE rfl (by decide) (by omega) v2 ([] ++ (ints (left S)).take k) ((ints (left S)).drop (k + 1)) _ _ _ (fun q => True ∧ some q ≠ v1.ownBlock) (fun _ => False) rfl rfl ?aO ?aR (fun _ _ h => h) (fun _ h => h.elim) ?aF ?aB ?aS ?aL ?_); (case aO => exact r0.out); (case aR => exact Kd.C_below HD7.out r2.out); (case aF => exact fun q hq => HFR.out q (Nat.le_trans r2.out.size hq)); (case aB => exact r2.out); (case aS => exact r2.out.size); (case aL => (simp; omega)); intro v3 w8 ho hb hg hat; have s0 := Bx.mk ho; have s1 := Bx.mk (Kd.R_grown2 r1.out rfl hg (fun q e => (r0.out.1 q e).2)); have s2 := Bx.mk hb; clear ho hb hg hat))
            have u1 := Bx.mk (IA.low q1.out (s2.out.mono (Nat.le_trans m2.out p2.out.size)) HL.out.1 HL.out.2)
            have S0 : Bx ((Kd.int .i64).R 3 w8 w2.heap.size (fun q => True ∧ some q ≠ v1.ownBlock) v3 (ints (left (setF S j)))) := ⟨by
              have h := Kd.R_lower s0.out (Nat.le_trans m2.out p2.out.size)
              have e : [] ++ (ints (left S)).take k ++ (ints (left S)).drop (k + 1) = ints (left (setF S j)) := by
                rw [← HST.out.1]; simp [ints]
              rw [e] at h; exact h⟩
            have S1 : Bx ((Kd.int .i64).R 3 w8 w2.heap.size (fun _ => True) v1 (upTo (4 * i + ld (setF S j)))) := ⟨by
              have h := s1.out
              have e : upTo (4 * i + ld S) ++ tl = upTo (4 * i + ld (setF S j)) := by
                rw [HTL.out, ← HST.out.2.1, ← Nat.add_assoc]; exact range_join _ _
              rw [e] at h; exact h⟩
            have U1 : Bx (Is w8 g b ((base + (4 * i + ld (setF S j) : Nat)) % 65536) (keptOf (4 * i + ld (setF S j) : Nat) (aft (setF S j)))) := ⟨by
              have h := u1.out
              have hs := HST.out.2.1
              rw [HST.out.2.2] at h
              have e1 : ((base + ((4 * i + ld S : Nat) : Int)) % 65536 + ((ld (setF (aft S) (j - ld S)) : Nat) : Int)) % 65536 = (base + ((4 * i + ld (setF S j) : Nat) : Int)) % 65536 := by omega
              have e2 : ((4 * i + ld S : Nat) : Int) + ((ld (setF (aft S) (j - ld S)) : Nat) : Int) = ((4 * i + ld (setF S j) : Nat) : Int) := by omega
              rw [e1, e2] at h; exact h⟩
            have hms : Bx ((ints (left (setF S j))).length < (ints (left S)).length) := ⟨by
              rw [← HST.out.1]; have := HK.out; simp [ints]; omega⟩
            have hsz := Bx.mk (Nat.le_trans (Nat.le_trans m2.out p2.out.size) s2.out.size)
            have hbw := Bx.mk (q2.out.trans (s2.out.mono q2.out.size))
            obtain ⟨A3, c3, rfl, hc3, _⟩ := Kd.R_reads S0.out
            go_wp2_with fail
            go_roundw
            case rel => exact ⟨setF S j, td, rfl, td0, td1, S1, S0, U1, hbw, hsz⟩
            case measure => exact hms.out
          · have hl0 : (left S).length = 0 := by omega
            obtain ⟨hS, hSa⟩ := left_nil hl0
            have hz : (ints (left S)).length = 0 := by omega
            have e4 : 4 * (i + 1) = 4 * i + ld S := by omega
            have M0 : Bx ((Kd.int .i64).R 3 wr w2.heap.size (fun _ => True) (.slice A9 (upTo (4 * i + ld S)).length c9) (upTo (4 * (i + 1)))) := ⟨by rw [e4]; exact HR.out⟩
            have N1 := HA.out
            rw [hS] at N1
            rw [hSa] at N1
            have M1 := Bx.mk N1
            clear N1 hCL hSa hl hil HLf
            go_wp2_with fail
            go_roundw
            case rel => exact ⟨i + 1, by omega, by simp, M0, ⟨by
              have e : ((4 * i + 4 : Nat) : Int) = 4 * ((i + 1 : Nat) : Int) := by omega
              rw [← e]; exact M1.out⟩, HB, HS⟩
            case measure => simp [intOf]; omega
      · obtain rfl : n = 0 := by omega
        go_wp2_with fail
        have hLL := Bx.mk (lit4 wr)
        have hbel := (Below.refl wr.heap.size wr).alloc (Nat.le_refl _) (.cells #[.int .i64 0, .int .i64 1, .int .i64 2, .int .i64 3] 3)
        have n0 := Bx.mk (Kd.R_below HR.out hbel)
        have n1 := Bx.mk (HA.out.below hbel)
        have n2 := Bx.mk (HB.out.trans (hbel.mono HB.out.size))
        have n3 := Bx.mk (show w2.heap.size ≤ (wr.alloc (.cells #[.int .i64 0, .int .i64 1, .int .i64 2, .int .i64 3] 3)).heap.size by simp; have := HS.out; omega)
        have n4 := Bx.mk (show wr.heap.size ≤ (wr.alloc (.cells #[.int .i64 0, .int .i64 1, .int .i64 2, .int .i64 3] 3)).heap.size by simp)
        have n5 : Bx ((Kd.int .i64).R 3 (wr.alloc (.cells #[.int .i64 0, .int .i64 1, .int .i64 2, .int .i64 3] 3)) w2.heap.size (fun k => True ∧ some k ≠ (Value.slice A8 (upTo (4 * i)).length c8).ownBlock) (.slice (some ⟨wr.heap.size, 0, none⟩) 4 4) [0, 1, 2, 3]) :=
          ⟨Kd.R_lower (Kd.R_mono (Kd.R_bound hLL.out) (fun k hk => ⟨trivial, fun e => by have h1 := Kd.R_lt HR.out k e.symm; have h2 := hk.2.1; omega⟩)) HS.out⟩
        clear hLL HR HA HB hbel
        generalize wr.alloc (.cells #[.int .i64 0, .int .i64 1, .int .i64 2, .int .i64 3] 3) = wa at *
        go_loopw [8, 10, 11] (fun v8 v10 v11 wr => ∃ (S : F4) (tn : Int), v10 = .int .i64 tn ∧ 0 ≤ tn ∧ tn < 24 ∧ Bx ((Kd.int .i64).R 3 wr w2.heap.size (fun _ => True) v8 (upTo (4 * i + ld S))) ∧ Bx ((Kd.int .i64).R 3 wr w2.heap.size (fun k => True ∧ some k ≠ v8.ownBlock) v11 (ints (left S))) ∧ Bx (Is wr g b ((base + (4 * i + ld S : Nat)) % 65536) (keptOf (4 * i + ld S : Nat) (aft S))) ∧ Bx (Below w.heap.size w wr) ∧ Bx (w2.heap.size ≤ wr.heap.size)) (fun _ _ v _ => lenOf v)
        case atStart => exact ⟨⟨false, false, false, false⟩, _, rfl, by omega, by omega, ⟨n0.out⟩, ⟨n5.out⟩, ⟨by
          have e : ((4 * i + ld ⟨false, false, false, false⟩ : Nat) : Int) = 4 * (i : Int) := by simp [ld]
          rw [e]; exact n1.out⟩, n2, n3⟩
        case round =>
          clear n0 n1 n2 n3 n4 n5
          obtain ⟨S, tn, rfl, tn0', tn1', HR, HLf, HA, HB, HS⟩ := hrel
          obtain ⟨A9, c9, rfl, hc9, _⟩ := Kd.R_reads HR.out
          obtain ⟨AL, cL, rfl, hcL, hCL⟩ := Kd.R_reads HLf.out
          have hil : (ints (left S)).length = (left S).length := by simp [ints]
          by_cases hl : 0 < (left S).length
          · have hll := left_len S
            obtain ⟨k, htk, hk⟩ : ∃ k : Nat, tn % ((left S).length : Int) = (k : Int) ∧ k < (left S).length := by
              have h1 := Int.emod_lt_of_pos tn (b := ((left S).length : Int)) (by omega)
              have h2 := Int.emod_nonneg tn (b := ((left S).length : Int)) (by omega)
              exact ⟨(tn % ((left S).length : Int)).toNat, by omega, by omega⟩
            obtain ⟨td, htd, td0, td1⟩ : ∃ td : Int, tn / ((left S).length : Int) = td ∧ 0 ≤ td ∧ td < 24 :=
              ⟨_, rfl, Int.ediv_nonneg tn0' (by omega), by have := Int.ediv_le_self ((left S).length : Int) tn0'; omega⟩
            obtain ⟨hj4, hjl, hlft, hld, haf⟩ := left_step S k hk
            obtain ⟨ad, rfl, hce⟩ := intCell hCL k (by omega)
            have hjv : (ints (left S))[k]'(by omega) = ((left S).getD k 0 : Nat) := by simp [ints, List.getD, show k < (left S).length by omega]
            rw [hjv] at hce
            have HK := Bx.mk hk
            have HST := Bx.mk (And.intro hlft (And.intro hld haf))
            have hlz : (((left S).length : Int) == 0) = false := by rw [beq_eq_false_iff_ne]; omega
            have hl0 : (0 : Int) < ((left S).length : Int) := by omega
            have k0 : (0 : Int) ≤ (k : Int) := by omega
            have k1 : (k : Int) < ((left S).length : Int) := by omega
            clear hjv hlft hld haf hk
            generalize (left S).getD k 0 = j at *
            go_wp2_with fail
            have ev : 4 * (i : Int) + (j : Int) = ((4 * i + ld S : Nat) : Int) + ((j - ld S : Nat) : Int) := by omega
            refine (take_c g b _ _ _ (j - ld S) _ _ HA.out (by omega) (by omega) (by omega) (by omega)).mono ?_
            rintro e w5 ⟨vv, rfl, hr, ha, ht5⟩
            rw [ev, came_kept _ _ _ (by omega)] at hr ha
            rw [lead_kept, rest_kept] at ha
            obtain ⟨tl, htl⟩ : ∃ tl : List Int, tl = (List.range (ld (setF (aft S) (j - ld S)))).map fun k => ((4 * i + ld S : Nat) : Int) + ((k : Nat) : Int) := ⟨_, rfl⟩
            rw [told_join, ← htl] at hr
            have HTL := Bx.mk htl
            clear htl
            have m0 := Bx.mk (R_two HR.out ht5 HL.out.1 HL.out.2)
            have m1 := Bx.mk (ht5.below HB.out HB.out.size HGB.out.1 HGB.out.2)
            have m2 := Bx.mk (Nat.le_trans HS.out ht5.size)
            have HT5 := Bx.mk ht5
            have HA5 := Bx.mk ha
            have HR5 := Bx.mk hr
            obtain ⟨A7, c7, rfl, hc7, hC7⟩ := Kd.R_reads hr
            have HC7 := Bx.mk hC7
            have HLF5 := Bx.mk (Kd.R_mono (Kd.R_move (Kd.R_bound HLf.out) (fun q hq => ht5.block q hq.2.2.1 (by have := HL.out.1; have := hq.2.1; omega) (by have := HL.out.2; have := hq.2.1; omega))) (fun q hq => hq.1))
            clear hr ha ht5 hC7
            go_wp2_with (at_builtin; go_must (refine Kd.R_append_rows (Kd.int .i64) (w0 := w5) w2.heap.size rfl (.tmp 72) (.tmp 73) 41 3 (.int .i64 0) 8 rfl Try.underlying41 infoE rfl (by decide) (by omega) (.slice A9 (upTo (4 * i + ld S)).length c9) (upTo (4 * i + ld S)) tl _ _ _ (fun _ => True) (fun _ => False) rfl rfl ?aO ?aR (fun _ _ h => h) (fun _ h => h.elim) ?aF ?aB ?aS ?aL ?_; (case aO => exact m0.out); (case aR => exact HC7.out); (case aF => exact fun _ _ => trivial); (case aB => exact Below.refl _ _); (case aS => exact m2.out); (case aL => (have hq := HTL.out; subst hq; simp [upTo]; have := ld_le S; have := ld_le (setF (aft S) (j - ld S)); omega)); intro v1 w6 ho hb hg hat; have p0 := Bx.mk ho; have p1 := Bx.mk (Kd.R_after HLF5.out hg hat); have p2 := Bx.mk hb; clear m0 HLF5 ho hb hg hat))
            have q1 := Bx.mk (IA.low HA5.out p2.out HL.out.1 HL.out.2)
            have q2 := Bx.mk (m1.out.trans (p2.out.mono HB2.out.size))
            have kc : (k : Int) ≤ (cL : Int) := by omega
            have kw : IntKind.i64.wrap ((k : Int) + 1) = (k : Int) + 1 := by simp [IntKind.wrap, IntKind.signed, IntKind.bits]; omega
            have ka : (0 : Int) ≤ (k : Int) + 1 := by omega
            have kb : (k : Int) + 1 ≤ ((left S).length : Int) := by omega
            have lc : ((left S).length : Int) ≤ (cL : Int) := by omega
            obtain ⟨_, _, hC6⟩ := Kd.R_reads' p1.out
            have hll2 := left_len S
            have hk3 := HK.out
            have HT6 : Bx ((Kd.int .i64).C w6 (some ad) k ((ints (left S)).take k)) := ⟨by
              have h1 := Kd.C_take (m := k) hC6 (by omega)
              have h2 : ((ints (left S)).take k).length = k := by rw [List.length_take]; omega
              rw [h2] at h1; exact h1⟩
            have HD6 := Bx.mk (Kd.C_drop (m := k + 1) (c := cL) hC6 (by omega) (by omega))
            have hd6 : ((ints (left S)).drop (k + 1)).length = (left S).length - (k + 1) := by rw [List.length_drop]; omega
            rw [hd6] at HD6
            have HD7 : Bx ((Kd.int .i64).C w6 (if cL = k + 1 then some ad else some { block := ad.block, off := ad.off + (k + 1) }) ((left S).length - (k + 1)) ((ints (left S)).drop (k + 1))) := ⟨by
              have h := HD6.out
              have e2 : ad.add ((k + 1) * (Kd.int .i64).sz) = { block := ad.block, off := ad.off + (k + 1) } := by
                show ad.add ((k + 1) * 1) = _
                simp [Addr.add]
              rw [← e2]; exact h⟩
            clear HD6
            have hfr : ∀ q, w6.heap.size ≤ q → True ∧ some q ≠ v1.ownBlock := fun q hq => ⟨trivial, fun e => by have := Kd.R_lt p0.out q e.symm; omega⟩
            have HFR := Bx.mk hfr
            clear hfr hC6
            go_region_held3 (fun _ => True) (first | exact trivial | go_keep) (first | ((refine Kd.R_append_rows_step (Kd.int .i64) (w0 := w6) w6.heap.size (by rfl) (.tmp 75) (.tmp 78) 41 3 (.int .i64 0) 8 rfl Try.underlying41 infoE rfl (by decide) (by omega) (.slice (some ⟨w6.heap.size, 0, none⟩) 0 0) [] ((ints (left S)).take k) _ _ _ (fun q => True ∧ some q ≠ v1.ownBlock) (fun _ => False) rfl rfl ?aO ?aR (fun _ _ h => h) (fun _ h => h.elim) ?aF ?aB ?aS ?aL ?_; (case aO => exact Kd.R_drew (R_empty w6 _ (Nat.le_refl _) _ (HFR.out _ (Nat.le_refl _)))); (case aR => exact Kd.C_drew (Kd.C_alloc HT6.out _)); (case aF => exact fun q hq => HFR.out q (by simp at hq; omega)); (case aB => exact below_drew1 ((Below.refl _ _).alloc (Nat.le_refl _) _)); (case aS => simp); (case aL => (simp; omega)); intro v2 w7 ho hb hg hat; have r0 := Bx.mk ho; have r1 := Bx.mk (Kd.R_grown1 (Kd.R_drew (Kd.R_alloc p0.out (.cells #[] 3))) rfl hg (by intro e; have := Kd.R_lt p0.out w6.heap.size e.symm; omega)); have r2 := Bx.mk hb; clear ho hb hg hat)) | ((refine Kd.R_append_rows_step (Kd.int .i64) (w0 := w6) w6.heap.size (by rfl) (.tmp 79) (.tmp 83) 41 3 (.int .i64 0) 8 rfl Try.underlying41 infoE rfl (by decide) (by omega) v2 ([] ++ (ints (left S)).take k) ((ints (left S)).drop (k + 1)) _ _ _ (fun q => True ∧ some q ≠ v1.ownBlock) (fun _ => False) rfl rfl ?aO ?aR (fun _ _ h => h) (fun _ h => h.elim) ?aF ?aB ?aS ?aL ?_); (case aO => exact r0.out); (case aR => exact Kd.C_below HD7.out r2.out); (case aF => exact fun q hq => HFR.out q (Nat.le_trans r2.out.size hq)); (case aB => exact r2.out); (case aS => exact r2.out.size); (case aL => (simp; omega)); intro v3 w8 ho hb hg hat; have s0 := Bx.mk ho; have s1 := Bx.mk (Kd.R_grown2 r1.out rfl hg (fun q e => (r0.out.1 q e).2)); have s2 := Bx.mk hb; clear ho hb hg hat))
            have u1 := Bx.mk (IA.low q1.out (s2.out.mono (Nat.le_trans m2.out p2.out.size)) HL.out.1 HL.out.2)
            have S0 : Bx ((Kd.int .i64).R 3 w8 w2.heap.size (fun q => True ∧ some q ≠ v1.ownBlock) v3 (ints (left (setF S j)))) := ⟨by
              have h := Kd.R_lower s0.out (Nat.le_trans m2.out p2.out.size)
              have e : [] ++ (ints (left S)).take k ++ (ints (left S)).drop (k + 1) = ints (left (setF S j)) := by
                rw [← HST.out.1]; simp [ints]
              rw [e] at h; exact h⟩
            have S1 : Bx ((Kd.int .i64).R 3 w8 w2.heap.size (fun _ => True) v1 (upTo (4 * i + ld (setF S j)))) := ⟨by
              have h := s1.out
              have e : upTo (4 * i + ld S) ++ tl = upTo (4 * i + ld (setF S j)) := by
                rw [HTL.out, ← HST.out.2.1, ← Nat.add_assoc]; exact range_join _ _
              rw [e] at h; exact h⟩
            have U1 : Bx (Is w8 g b ((base + (4 * i + ld (setF S j) : Nat)) % 65536) (keptOf (4 * i + ld (setF S j) : Nat) (aft (setF S j)))) := ⟨by
              have h := u1.out
              have hs := HST.out.2.1
              rw [HST.out.2.2] at h
              have e1 : ((base + ((4 * i + ld S : Nat) : Int)) % 65536 + ((ld (setF (aft S) (j - ld S)) : Nat) : Int)) % 65536 = (base + ((4 * i + ld (setF S j) : Nat) : Int)) % 65536 := by omega
              have e2 : ((4 * i + ld S : Nat) : Int) + ((ld (setF (aft S) (j - ld S)) : Nat) : Int) = ((4 * i + ld (setF S j) : Nat) : Int) := by omega
              rw [e1, e2] at h; exact h⟩
            have hms : Bx ((ints (left (setF S j))).length < (ints (left S)).length) := ⟨by
              rw [← HST.out.1]; have := HK.out; simp [ints]; omega⟩
            have hsz := Bx.mk (Nat.le_trans (Nat.le_trans m2.out p2.out.size) s2.out.size)
            have hbw := Bx.mk (q2.out.trans (s2.out.mono q2.out.size))
            obtain ⟨A3, c3, rfl, hc3, _⟩ := Kd.R_reads S0.out
            go_wp2_with fail
            go_roundw
            case rel => exact ⟨setF S j, td, rfl, td0, td1, S1, S0, U1, hbw, hsz⟩
            case measure => exact hms.out
          · have hl0 : (left S).length = 0 := by omega
            obtain ⟨hS, hSa⟩ := left_nil hl0
            have hz : (ints (left S)).length = 0 := by omega
            have e4 : 4 * (i + 1) = 4 * i + ld S := by omega
            have M0 : Bx ((Kd.int .i64).R 3 wr w2.heap.size (fun _ => True) (.slice A9 (upTo (4 * i + ld S)).length c9) (upTo (4 * (i + 1)))) := ⟨by rw [e4]; exact HR.out⟩
            have N1 := HA.out
            rw [hS] at N1
            rw [hSa] at N1
            have M1 := Bx.mk N1
            clear N1 hCL hSa hl hil HLf
            go_wp2_with fail
            go_roundw
            case rel => exact ⟨i + 1, by omega, by simp, M0, ⟨by
              have e : ((4 * i + 4 : Nat) : Int) = 4 * ((i + 1 : Nat) : Int) := by omega
              rw [← e]; exact M1.out⟩, HB, HS⟩
            case measure => simp [intOf]; omega
    · have i1 : ¬ ((i : Int) < 25) := by omega
      obtain rfl : i = 25 := by omega
      obtain ⟨_, _, hC8⟩ := Kd.R_reads' HR.out
      have h100 : (upTo (4 * 25)).length = 100 := by simp [upTo]
      obtain ⟨ad, rfl, hcs⟩ := intCells hC8 (by omega)
      have HCS : Bx (∀ q : Nat, q < 100 → wr.cell? (ad.add q) = some (.int .i64 (q : Int))) := ⟨fun q hq => by
        have h := hcs q (by omega)
        have e : (upTo (4 * 25))[q]'(by omega) = (q : Int) := by simp [upTo]
        rw [e] at h; exact h⟩
      clear hcs hC8 HR hc8
      rw [h100]
      clear h100
      go_wp2_with fail
      obtain ⟨wo, rfl⟩ : ∃ wo : World, wo = wr := ⟨_, rfl⟩
      go_loop [16] (fun v => ∃ q : Nat, q ≤ 100 ∧ v = .int .i64 (q : Int)) (fun v => 100 - (intOf v).toNat)
      case atStart => exact ⟨0, by omega, rfl⟩
      case round =>
        obtain ⟨q, hq, rfl⟩ := hrel
        by_cases hq1 : q < 100
        · have hce := HCS.out q hq1
          have q0 : (0 : Int) ≤ (q : Int) := by omega
          have q1 : (q : Int) < 100 := by omega
          go_wp2_with fail
          go_round
          case rel => exact ⟨q + 1, by omega, by simp⟩
          case measure => simp [intOf]; omega
        · have q1 : ¬ ((q : Int) < 100) := by omega
          go_wp2_with fail
          refine (waits_c g b _ _ _ HA.out).mono ?_
          rintro e w3 ⟨rfl, rfl⟩
          have hcn : cnt ([none, none, none, none] : List (Option Int)) = 0 := rfl
          rw [hcn]
          go_wp2_with fail
          refine (Str.works_c _).mono ?_
          rintro e w4 ⟨rfl, hb4⟩
          have nb := Bx.mk (HB.out.trans (hb4.mono HB.out.size))
          clear hb4
          go_wp2_with fail
          go_ret
          exact ⟨rfl, nb.out⟩
end Go.Proofs.Ytlpopnacfggiiaa.All
