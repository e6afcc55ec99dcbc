/- Layer 10: the reference's New, by its contract. -/
import Derived.Test.YtcfojkejajanlaaRef
set_option linter.unusedVariables false
set_option linter.unusedSimpArgs false
namespace Go.Proofs.Ytcfojkejajanlaa.Base
open Go.RowKit Go.Proofs.YtcfojkejajanlaaW.PrintWords Go.Proofs.YtcfojkejajanlaaW.PrintLast Go.Proofs.YtcfojkejajanlaaW.PrintMore Go.Proofs.Ytcfojkejajanlaa.PGroupPlays
def RNewPost (w : World) (ps : List Int) (e : Ending) (w' : World) : Prop :=
  (okP ps ∧ ∃ g, e = .returned (.tuple #[.pointer (some ⟨g, 0, none⟩), .int .i64 0]) ∧ RA w' w.heap.size g ps (inL ps) ∧ Below w.heap.size w w') ∨
  (¬ okP ps ∧ e = .returned (.tuple #[.pointer none, .int .i64 2]) ∧ Below w.heap.size w w')
theorem RA.boxed (w : World) : RA ((w.alloc (.cells #[] 3)).alloc (.cells #[.slice (some ⟨w.heap.size, 0, none⟩) 0 0, .bool false, .bool false, .bool false, .bool false, .bool false] 52)) w.heap.size (w.heap.size + 1) [] no := by
  refine ⟨_, ?_, by omega, Kd.R_alloc (R_empty w w.heap.size (Nat.le_refl _)) _⟩
  simpa [no] using heap_alloc_new (w.alloc (.cells #[] 3)) _
theorem oneC (w : World) (q : Int) (b : Nat) (hb : w.heap.size = b) : (Kd.int .i64).C (w.alloc (.cells #[.int .i64 q] 3)) (some ⟨b, 0, none⟩) 1 [q] := by
  subst hb
  refine Kd.C_of_reads (d := (0 : Int)) (h1 := fun _ => rfl) ⟨rfl, by omega, fun _ => ⟨_, rfl, ?_⟩⟩
  intro j hj
  obtain rfl : j = 0 := by omega
  rw [add_plain]
  exact cell_of_row _ _ 0 _ 3 (0, 0) (heap_alloc_new w _)
theorem RA.onlyRow {w w1 : World} {B g : Nat} {u u' a b c d e : Value} {row : Option Nat} (h : w.heap[g]? = some (.cells #[u, a, b, c, d, e] 52 (0, 0))) (hg : w.grownBy w1 row) (hne : some g ≠ row) : w1.heap[g]? = some (.cells #[u, a, b, c, d, e] 52 (0, 0)) := blk_grown h hg hne
theorem below_below8 {w wr : World} (h : Below w.heap.size w wr) (hs : w.heap.size ≤ wr.heap.size) (j : Nat) (u : Value) (o : Obj) : Below w.heap.size w ((wr.setCell ⟨w.heap.size + 1, j, none⟩ u).alloc o) :=
  (h.setCell (by simp) u).alloc (by simp [World.setCell]; exact hs) o
theorem size8 {w wr : World} (hs : w.heap.size ≤ wr.heap.size) (p : Addr) (u : Value) (o : Obj) : w.heap.size ≤ ((wr.setCell p u).alloc o).heap.size := by
  simp [World.setCell]; omega
theorem snocTS {ps ts : List Int} {i : Nat} {q : Int} (h : ts = ps.take i) {hi : i < ps.length} (hq : q = ps[i]'hi) (hi' : i < ps.length) : ts ++ [q] = ps.take (i + 1) := by
  rw [List.take_succ_eq_append_getElem hi', h, hq]
theorem raSnoc {w : World} {B g : Nat} {us : List Int} {lv : Int → Bool} {A1 A2 : Option Addr} {n cc m c2 : Nat} {a b c d e : Value} (h : w.heap[g]? = some (.cells #[.slice A1 n cc, a, b, c, d, e] 52 (0, 0)))
    (hr : (Kd.int .i64).R 3 w B (fun _ => True) (.slice A2 m c2) us) (hB : B ≤ g) (ha : a = .bool false) (hb : b = .bool (lv 1)) (hc : c = .bool (lv 2)) (hd : d = .bool (lv 3)) (he : e = .bool (lv 4)) : RA (w.setCell ⟨g, 0, none⟩ (.slice A2 m c2)) B g us lv := by
  subst ha hb hc hd he
  refine ⟨_, by simpa using blk_set h 0 (.slice A2 m c2), hB, Kd.R_mono (Kd.R_set hr h (by simp [Kd.int, Kd.scalar]) 0 _) (fun _ _ => trivial)⟩
set_option maxHeartbeats 2000000 in
set_option maxRecDepth 100000 in
theorem rnew_c (A : Option Addr) (c : Nat) (ps : List Int) (w : World) (hC : (Kd.int .i64).C w A ps.length ps) (hl : ps.length ≤ 1000) :
    Calls Try.prog 8 #[.slice A ps.length c] w (RNewPost w ps) := by
  have hu52 := Try.underlying52
  have HC := Bx.mk hC
  clear hC
  go_enter Try.func8, Try.ntmps8
  go_wp2_with fail
  go_loopw [5] (fun v wr => ∃ (i : Nat) (ts : List Int), i ≤ ps.length ∧ v = .int .i64 i ∧ Bx (ts = ps.take i) ∧ Bx (okP ts) ∧ Bx (RA wr w.heap.size (w.heap.size + 1) ts (inL ts)) ∧ Bx (Below w.heap.size w wr) ∧ Bx (w.heap.size ≤ wr.heap.size)) (fun v _ => ps.length - (intOf v).toNat)
  case atStart => exact ⟨0, [], by omega, rfl, ⟨rfl⟩, ⟨okP_nil⟩, ⟨RA.boxed w⟩, ⟨((Below.refl _ _).alloc (Nat.le_refl _) _).alloc (by simp) _⟩, ⟨by simp; omega⟩⟩
  case round =>
    obtain ⟨i, ts, hi, rfl, HTS, HOK, HG, HB1, HS⟩ := hrel
    by_cases h : i < ps.length
    · obtain ⟨ad, rfl, hce⟩ := intCell (Kd.C_below HC.out HB1.out) i h
      have h0 : (0 : Int) ≤ (i : Int) := by omega
      have h1 : (i : Int) < (ps.length : Int) := by omega
      obtain ⟨q, hq⟩ : ∃ q, q = ps[i] := ⟨_, rfl⟩
      rw [← hq] at hce
      have HQ := Bx.mk hq
      clear hq
      by_cases hlo : q < 1
      · have d1 : decide (q < 1) = true := decide_eq_true hlo
        have HN := Bx.mk (okP_low h (by rw [← HQ.out]; omega))
        clear hlo
        go_wp2
        go_ret2
        exact .inr ⟨HN.out, rfl, HB1.out⟩
      by_cases hhi : 4 < q
      · have d1 : decide (q < 1) = false := decide_eq_false hlo
        have d2 : decide (4 < q) = true := decide_eq_true hhi
        have HN := Bx.mk (okP_low h (by rw [← HQ.out]; omega))
        clear hlo hhi
        go_wp2
        go_ret2
        exact .inr ⟨HN.out, rfl, HB1.out⟩
      obtain ⟨v, hg, hgB, hr⟩ := HG.out
      obtain ⟨A1, cc, rfl, hlc, hC1⟩ := Kd.R_reads hr
      obtain ⟨c0, c1, c2, c3, c4, c5⟩ := cells6 hg
      have f0 := blk_frozen hg 0
      have f2 := blk_frozen hg 2
      have f3 := blk_frozen hg 3
      have f4 := blk_frozen hg 4
      have f5 := blk_frozen hg 5
      have HGB := Bx.mk hg
      have HR := Bx.mk hr
      clear hg hr hgB hC1
      have hq4 : q = 1 ∨ q = 2 ∨ q = 3 ∨ q = 4 := by omega
      by_cases hin : q ∈ ts
      · have HN := Bx.mk (okP_twice h (by rw [← HQ.out, ← HTS.out]; exact hin))
        have e1 : inL ts q = true := decide_eq_true hin
        clear hlo hhi hin
        rcases hq4 with rfl | rfl | rfl | rfl
        all_goals
          go_wp2
          go_ret2
          exact .inr ⟨HN.out, rfl, HB1.out⟩
      · have HOK2 := Bx.mk (okP_snoc h (by rw [← HTS.out]; exact HOK.out) (by rw [← HQ.out]; omega) (by rw [← HQ.out]; omega) (by rw [← HQ.out, ← HTS.out]; exact hin))
        have e1 : inL ts q = false := decide_eq_false hin
        have HS2 := Bx.mk (HG.out.set q true (by omega) (by omega))
        have HI := Bx.mk (inL_snoc ps i h)
        have HL := Bx.mk (show ts.length ≤ 1000 by rw [HTS.out, List.length_take]; omega)
        clear hlo hhi hin
        rcases hq4 with rfl | rfl | rfl | rfl
        · have HB8 := Bx.mk (blk_set HGB.out 2 (.bool true))
          go_wp2_with (at_builtin; refine Kd.R_append_rows (Kd.int .i64) (w0 := w) w.heap.size rfl (.tmp 43) (.tmp 45) 22 3 (.int .i64 0) 8 rfl Try.underlying22 info3 rfl (by decide) (by omega) (.slice A1 ts.length cc) ts [1] _ _ _ (fun _ => True) (fun _ => False) rfl rfl ?aO ?aR (fun _ _ h => h) (fun _ h => h.elim) ?aF ?aB ?aS ?aL ?_; (case aO => exact Kd.R_alloc (Kd.R_mono (Kd.R_set HR.out HGB.out (by simp [Kd.int, Kd.scalar]) 2 _) (fun _ _ => trivial)) _); (case aR => exact oneC _ 1 _ (by simp [World.setCell])); (case aF => exact fun _ _ => trivial); (case aB => exact below_below8 HB1.out HS.out _ _ _); (case aS => exact size8 HS.out _ _ _); (case aL => have := HL.out; omega); intro v1 w1 ho hb hg hat; have HB9 := Bx.mk (blk_grown (blk_alloc HB8.out _) hg (Kd.R_ne HR.out HGB.out (by decide))); have HLT := Bx.mk (Nat.le_trans (size8 HS.out ⟨w.heap.size + 1, 2, none⟩ (.bool true) (.cells #[.int .i64 1] 3)) hg.size); clear hg hat; obtain ⟨A2, c2', rfl, _⟩ := Kd.R_reads ho; rw [List.length_append] at ho ⊢; have HO := Bx.mk ho; have HB := Bx.mk hb; clear ho hb; have g0 := (cells6 HB9.out).1; have gf := blk_frozen HB9.out 0)
          go_roundw
          case rel => exact ⟨i + 1, ts ++ [1], by omega, by go_num, ⟨snocTS HTS.out HQ.out h⟩, ⟨by rw [snocTS HTS.out HQ.out h]; exact HOK2.out⟩, ⟨raSnoc (lv := inL (ts ++ [1])) HB9.out HO.out (by omega) rfl (by simp [inL]) (by simp [inL]) (by simp [inL]) (by simp [inL])⟩, ⟨HB.out.setCell (by simp) _⟩, ⟨by simp [World.setCell]; exact HLT.out⟩⟩
          case measure => simp [intOf]; omega
        · have HB8 := Bx.mk (blk_set HGB.out 3 (.bool true))
          go_wp2_with (at_builtin; refine Kd.R_append_rows (Kd.int .i64) (w0 := w) w.heap.size rfl (.tmp 43) (.tmp 45) 22 3 (.int .i64 0) 8 rfl Try.underlying22 info3 rfl (by decide) (by omega) (.slice A1 ts.length cc) ts [2] _ _ _ (fun _ => True) (fun _ => False) rfl rfl ?aO ?aR (fun _ _ h => h) (fun _ h => h.elim) ?aF ?aB ?aS ?aL ?_; (case aO => exact Kd.R_alloc (Kd.R_mono (Kd.R_set HR.out HGB.out (by simp [Kd.int, Kd.scalar]) 3 _) (fun _ _ => trivial)) _); (case aR => exact oneC _ 2 _ (by simp [World.setCell])); (case aF => exact fun _ _ => trivial); (case aB => exact below_below8 HB1.out HS.out _ _ _); (case aS => exact size8 HS.out _ _ _); (case aL => have := HL.out; omega); intro v1 w1 ho hb hg hat; have HB9 := Bx.mk (blk_grown (blk_alloc HB8.out _) hg (Kd.R_ne HR.out HGB.out (by decide))); have HLT := Bx.mk (Nat.le_trans (size8 HS.out ⟨w.heap.size + 1, 3, none⟩ (.bool true) (.cells #[.int .i64 2] 3)) hg.size); clear hg hat; obtain ⟨A2, c2', rfl, _⟩ := Kd.R_reads ho; rw [List.length_append] at ho ⊢; have HO := Bx.mk ho; have HB := Bx.mk hb; clear ho hb; have g0 := (cells6 HB9.out).1; have gf := blk_frozen HB9.out 0)
          go_roundw
          case rel => exact ⟨i + 1, ts ++ [2], by omega, by go_num, ⟨snocTS HTS.out HQ.out h⟩, ⟨by rw [snocTS HTS.out HQ.out h]; exact HOK2.out⟩, ⟨raSnoc (lv := inL (ts ++ [2])) HB9.out HO.out (by omega) rfl (by simp [inL]) (by simp [inL]) (by simp [inL]) (by simp [inL])⟩, ⟨HB.out.setCell (by simp) _⟩, ⟨by simp [World.setCell]; exact HLT.out⟩⟩
          case measure => simp [intOf]; omega
        · have HB8 := Bx.mk (blk_set HGB.out 4 (.bool true))
          go_wp2_with (at_builtin; refine Kd.R_append_rows (Kd.int .i64) (w0 := w) w.heap.size rfl (.tmp 43) (.tmp 45) 22 3 (.int .i64 0) 8 rfl Try.underlying22 info3 rfl (by decide) (by omega) (.slice A1 ts.length cc) ts [3] _ _ _ (fun _ => True) (fun _ => False) rfl rfl ?aO ?aR (fun _ _ h => h) (fun _ h => h.elim) ?aF ?aB ?aS ?aL ?_; (case aO => exact Kd.R_alloc (Kd.R_mono (Kd.R_set HR.out HGB.out (by simp [Kd.int, Kd.scalar]) 4 _) (fun _ _ => trivial)) _); (case aR => exact oneC _ 3 _ (by simp [World.setCell])); (case aF => exact fun _ _ => trivial); (case aB => exact below_below8 HB1.out HS.out _ _ _); (case aS => exact size8 HS.out _ _ _); (case aL => have := HL.out; omega); intro v1 w1 ho hb hg hat; have HB9 := Bx.mk (blk_grown (blk_alloc HB8.out _) hg (Kd.R_ne HR.out HGB.out (by decide))); have HLT := Bx.mk (Nat.le_trans (size8 HS.out ⟨w.heap.size + 1, 4, none⟩ (.bool true) (.cells #[.int .i64 3] 3)) hg.size); clear hg hat; obtain ⟨A2, c2', rfl, _⟩ := Kd.R_reads ho; rw [List.length_append] at ho ⊢; have HO := Bx.mk ho; have HB := Bx.mk hb; clear ho hb; have g0 := (cells6 HB9.out).1; have gf := blk_frozen HB9.out 0)
          go_roundw
          case rel => exact ⟨i + 1, ts ++ [3], by omega, by go_num, ⟨snocTS HTS.out HQ.out h⟩, ⟨by rw [snocTS HTS.out HQ.out h]; exact HOK2.out⟩, ⟨raSnoc (lv := inL (ts ++ [3])) HB9.out HO.out (by omega) rfl (by simp [inL]) (by simp [inL]) (by simp [inL]) (by simp [inL])⟩, ⟨HB.out.setCell (by simp) _⟩, ⟨by simp [World.setCell]; exact HLT.out⟩⟩
          case measure => simp [intOf]; omega
        · have HB8 := Bx.mk (blk_set HGB.out 5 (.bool true))
          go_wp2_with (at_builtin; refine Kd.R_append_rows (Kd.int .i64) (w0 := w) w.heap.size rfl (.tmp 43) (.tmp 45) 22 3 (.int .i64 0) 8 rfl Try.underlying22 info3 rfl (by decide) (by omega) (.slice A1 ts.length cc) ts [4] _ _ _ (fun _ => True) (fun _ => False) rfl rfl ?aO ?aR (fun _ _ h => h) (fun _ h => h.elim) ?aF ?aB ?aS ?aL ?_; (case aO => exact Kd.R_alloc (Kd.R_mono (Kd.R_set HR.out HGB.out (by simp [Kd.int, Kd.scalar]) 5 _) (fun _ _ => trivial)) _); (case aR => exact oneC _ 4 _ (by simp [World.setCell])); (case aF => exact fun _ _ => trivial); (case aB => exact below_below8 HB1.out HS.out _ _ _); (case aS => exact size8 HS.out _ _ _); (case aL => have := HL.out; omega); intro v1 w1 ho hb hg hat; have HB9 := Bx.mk (blk_grown (blk_alloc HB8.out _) hg (Kd.R_ne HR.out HGB.out (by decide))); have HLT := Bx.mk (Nat.le_trans (size8 HS.out ⟨w.heap.size + 1, 5, none⟩ (.bool true) (.cells #[.int .i64 4] 3)) hg.size); clear hg hat; obtain ⟨A2, c2', rfl, _⟩ := Kd.R_reads ho; rw [List.length_append] at ho ⊢; have HO := Bx.mk ho; have HB := Bx.mk hb; clear ho hb; have g0 := (cells6 HB9.out).1; have gf := blk_frozen HB9.out 0)
          go_roundw
          case rel => exact ⟨i + 1, ts ++ [4], by omega, by go_num, ⟨snocTS HTS.out HQ.out h⟩, ⟨by rw [snocTS HTS.out HQ.out h]; exact HOK2.out⟩, ⟨raSnoc (lv := inL (ts ++ [4])) HB9.out HO.out (by omega) rfl (by simp [inL]) (by simp [inL]) (by simp [inL]) (by simp [inL])⟩, ⟨HB.out.setCell (by simp) _⟩, ⟨by simp [World.setCell]; exact HLT.out⟩⟩
          case measure => simp [intOf]; omega
    · obtain rfl : i = ps.length := by omega
      have hts : ts = ps := by rw [HTS.out, List.take_length]
      subst hts
      obtain ⟨v, hg, hgB, hr⟩ := HG.out
      obtain ⟨A1, cc, rfl, hlc, hC1⟩ := Kd.R_reads hr
      clear hg hr hC1
      go_wp2
      go_ret2
      exact .inl ⟨HOK.out, _, rfl, HG.out, HB1.out⟩
end Go.Proofs.Ytcfojkejajanlaa.Base
