/- Layer 10: group.New and Ports, by their contracts. -/
import Derived.Test.YtcfojkejajanlaaBase
import Derived.Deep.QuietTactic
import Derived.BigQuiet
set_option linter.unusedVariables false
set_option linter.unusedSimpArgs false
namespace Go.Proofs.Ytcfojkejajanlaa.Base
open Go.RowKit Go.Proofs.YtcfojkejajanlaaW.PrintWords Go.Proofs.YtcfojkejajanlaaW.PrintLast Go.Proofs.YtcfojkejajanlaaW.PrintMore

theorem R_form {w : World} {B : Nat} {ok : Nat → Prop} {v : Value} {ps : List Int} (h : (Kd.int .i64).R 3 w B ok v ps) : (v = .slice none 0 0 ∧ ps = []) ∨ ∃ b c, v = .slice (some ⟨b, 0, none⟩) ps.length c ∧ B ≤ b ∧ b < w.heap.size ∧ (Kd.int .i64).C w (some ⟨b, 0, none⟩) ps.length ps := by
  obtain ⟨A, c, rfl, hl, hC⟩ := Kd.R_reads h
  obtain ⟨inner, ho, _⟩ := h.2
  rcases ho.2 with ⟨hv, hn⟩ | ⟨g, cap, cur, hv, hg, hh, r⟩
  · exact .inl ⟨hv, List.eq_nil_of_length_eq_zero hn⟩
  · refine .inr ⟨g, c, ?_, hg, (Array.getElem?_eq_some_iff.1 hh).1, ?_⟩
    · injection hv with h1 h2 h3; rw [h1]
    · injection hv with h1 h2 h3; rw [← h1]; exact hC
def PortsPost (w : World) (ps : List Int) (e : Ending) (w' : World) : Prop := ∃ v, e = .returned v ∧ (Kd.int .i64).R 3 w' w.heap.size (fun _ => True) v ps ∧ Below w.heap.size w w'
set_option maxHeartbeats 400000 in
theorem ports_c (g B : Nat) (ps : List Int) (al lv : Int → Bool) (w : World) (hG : GA w B g ps al lv) (hl : ps.length ≤ 1000) :
    Calls Try.prog 14 #[.pointer (some ⟨g, 0, none⟩)] w (PortsPost w ps) := by
  obtain ⟨v, hg, hB, hr⟩ := hG
  obtain ⟨c0, c1, c2, c3⟩ := cells4 hg
  rcases R_form hr with ⟨rfl, rfl⟩ | ⟨b, c, rfl, _, _, hC⟩
  · clear hg hr
    go_enter Try.func14, Try.ntmps14
    go_wp2_with (first | (go_at_call 22; (with_reducible refine (none_no _ _ ?hc).mono ?_); (case hc => exact c3); rintro e w' ⟨rfl, rfl⟩) | (go_at_call 21; (with_reducible refine (clone_nil _).mono ?_); rintro e w' ⟨rfl, rfl⟩))
    go_ret
    exact ⟨_, rfl, Kd.R_nil _ _ _ _ _, Below.refl _ _⟩
  · have HC := Bx.mk hC
    clear hg hr hC
    go_enter Try.func14, Try.ntmps14
    go_wp2_with (first | (go_at_call 22; (with_reducible refine (none_no _ _ ?hc).mono ?_); (case hc => exact c3); rintro e w' ⟨rfl, rfl⟩) | (go_at_call 21; (with_reducible refine (clone_some _ _ _ _ ?hc hl).mono ?_); (case hc => exact HC.out); rintro e w1 ⟨v1, rfl, ho, hb⟩; have HO := Bx.mk ho; have HB := Bx.mk hb; clear ho hb))
    go_ret
    exact ⟨_, rfl, HO.out, HB.out⟩

def okP (ps : List Int) : Prop := (∀ p ∈ ps, 1 ≤ p ∧ p ≤ 4) ∧ ps.Nodup
def inL (ps : List Int) : Int → Bool := fun p => decide (p ∈ ps)
def NewPost (w : World) (ps : List Int) (e : Ending) (w' : World) : Prop :=
  (okP ps ∧ ∃ g, e = .returned (.tuple #[.pointer (some ⟨g, 0, none⟩), .int .i64 0]) ∧ GA w' w.heap.size g ps (inL ps) (inL ps) ∧ Below w.heap.size w w') ∨
  (¬ okP ps ∧ e = .returned (.tuple #[.pointer none, .int .i64 2]) ∧ Below w.heap.size w w')
theorem okP_nil : okP [] := ⟨by simp, List.nodup_nil⟩
theorem okP_snoc {ps : List Int} {i : Nat} (hi : i < ps.length) (h : okP (ps.take i)) (h0 : 1 ≤ ps[i]) (h1 : ps[i] ≤ 4) (hn : ¬ ps[i] ∈ ps.take i) : okP (ps.take (i + 1)) := by
  rw [List.take_succ_eq_append_getElem hi]
  refine ⟨fun p hp => ?_, ?_⟩
  · rcases List.mem_append.1 hp with hp | hp
    · exact h.1 p hp
    · simp at hp; subst hp; exact ⟨h0, h1⟩
  · rw [List.nodup_append]
    refine ⟨h.2, by simp, ?_⟩
    intro a ha b hb; simp at hb; subst hb; rintro rfl; exact hn ha
theorem okP_low {ps : List Int} {i : Nat} (hi : i < ps.length) (h0 : ¬ (1 ≤ ps[i] ∧ ps[i] ≤ 4)) : ¬ okP ps := fun h => h0 (h.1 _ (List.getElem_mem hi))
theorem okP_twice {ps : List Int} {i : Nat} (hi : i < ps.length) (hn : ps[i] ∈ ps.take i) : ¬ okP ps := by
  rintro ⟨_, h⟩
  rw [← List.take_append_drop i ps, List.drop_eq_getElem_cons hi, List.nodup_append] at h
  exact h.2.2 _ hn _ List.mem_cons_self rfl
theorem inL_snoc (ps : List Int) (i : Nat) (hi : i < ps.length) : upd (inL (ps.take i)) ps[i] true = inL (ps.take (i + 1)) := by
  funext q
  have e := List.take_succ_eq_append_getElem hi
  unfold upd inL
  by_cases hq : q = ps[i]
  · rw [if_pos hq]; exact (decide_eq_true (by rw [e, hq]; exact List.mem_append_right _ List.mem_cons_self)).symm
  · rw [if_neg hq]; refine decide_eq_decide.2 ⟨fun h => by rw [e]; exact List.mem_append_left _ h, fun h => ?_⟩
    rw [e] at h
    rcases List.mem_append.1 h with h | h
    · exact h
    · exact absurd (List.mem_singleton.1 h) hq
def no : Int → Bool := fun _ => false
theorem mask_no : mask no = 0 := by decide
theorem GA.all {w : World} {B g : Nat} {ps : List Int} {al lv : Int → Bool} (h : GA w B g ps al lv) (f : Int → Bool) (n : Nat) : GA ((w.drewN n).setCell ⟨g, 1, none⟩ (.int .u64 (mask f))) B g ps f lv := by
  obtain ⟨v, hg, hB, hr⟩ := h
  refine ⟨v, by simpa using blk_set (w := w.drewN n) hg 1 (.int .u64 (mask f)), hB, ?_⟩
  exact Kd.R_mono (Kd.R_set (w := w.drewN n) hr hg (by simp [Kd.int, Kd.scalar]) 1 _) (fun _ _ => trivial)
theorem GA.boxed {w w1 : World} {B : Nat} {ps : List Int} {v : Value} (hr : (Kd.int .i64).R 3 w1 B (fun _ => True) v ps) (hB : Below B w w1) (hBs : B ≤ w1.heap.size) : GA (w1.alloc (.cells #[v, .int .u64 0, .int .u64 0, .bool true] 48)) B w1.heap.size ps no no := by
  refine ⟨v, ?_, hBs, Kd.R_alloc hr _⟩
  rw [mask_no]; exact heap_alloc_new w1 _
theorem GA.lt {w : World} {B g : Nat} {ps : List Int} {al lv : Int → Bool} (h : GA w B g ps al lv) : g < w.heap.size := by
  obtain ⟨v, hg, _⟩ := h; exact blk_lt hg
set_option maxHeartbeats 2000000 in
set_option maxRecDepth 100000 in
theorem new_some (c : Nat) (a : Addr) (ps : List Int) (w : World) (hC : (Kd.int .i64).C w (some a) ps.length ps) (hl : ps.length ≤ 1000) :
    Calls Try.prog 7 #[.slice (some a) ps.length c] w (NewPost w ps) := by
  have hu48 := Try.underlying48
  have HC := Bx.mk hC
  clear hC
  go_enter Try.func7, Try.ntmps7
  go_wp2_with (go_at_call 21; (with_reducible refine (clone_some _ _ _ _ ?hc hl).mono ?_); (case hc => exact HC.out); rintro e w1 ⟨v1, rfl, ho, hb⟩; obtain ⟨A1, c1, rfl, _⟩ := Kd.R_reads ho; have HO := Bx.mk ho; have HB := Bx.mk hb; clear ho hb)
  have hsz := HB.out.size
  go_loopw [13] (fun v wr => ∃ i : Nat, i ≤ ps.length ∧ v = .int .i64 i ∧ Bx (okP (ps.take i)) ∧ Bx (GA wr w.heap.size w1.heap.size ps (inL (ps.take i)) no) ∧ Bx (Below w.heap.size w wr) ∧ Bx (w.heap.size ≤ wr.heap.size)) (fun v _ => ps.length - (intOf v).toNat)
  case atStart => exact ⟨0, by omega, rfl, ⟨okP_nil⟩, ⟨GA.boxed HO.out HB.out hsz⟩, ⟨HB.out.alloc hsz _⟩, ⟨by simp; omega⟩⟩
  case round =>
    obtain ⟨i, hi, rfl, HOK, HG, HB1, HS⟩ := hrel
    by_cases h : i < ps.length
    · obtain ⟨ad, hA, hce⟩ := intCell (Kd.C_below HC.out HB1.out) i h
      obtain rfl : a = ad := by simpa using hA
      clear hA
      obtain ⟨v, hg, hgB, hr⟩ := HG.out
      obtain ⟨c0, c1', c2, c3⟩ := cells4 hg
      have hfz := blk_frozen hg 1
      clear hg hr
      have h0 : (0 : Int) ≤ (i : Int) := by omega
      have h1 : (i : Int) < (ps.length : Int) := by omega
      obtain ⟨q, hq⟩ : ∃ q, q = ps[i] := ⟨_, rfl⟩
      rw [← hq] at hce
      have HQ := Bx.mk hq
      clear hq
      by_cases hlo : q < 1
      · have d1 : decide (q < 1) = true := decide_eq_true hlo
        have HN := Bx.mk (okP_low h (by rw [← HQ.out]; omega))
        clear hlo
        go_wp2_with fail
        go_quiet (fail)
        go_wp2
        go_ret2
        exact .inr ⟨HN.out, rfl, pw_below_drewN HB1.out _⟩
      by_cases hhi : 4 < q
      · have d1 : decide (q < 1) = false := decide_eq_false hlo
        have d2 : decide (4 < q) = true := decide_eq_true hhi
        have HN := Bx.mk (okP_low h (by rw [← HQ.out]; omega))
        clear hlo hhi
        go_wp2_with fail
        go_quiet (fail)
        go_wp2
        go_ret2
        exact .inr ⟨HN.out, rfl, pw_below_drewN HB1.out _⟩
      have d1 : decide (q < 1) = false := decide_eq_false hlo
      have d2 : decide (4 < q) = false := decide_eq_false hhi
      have q0 : 0 ≤ q := by omega
      obtain ⟨y, hy⟩ : ∃ y, y = (2 : Int) ^ q.toNat := ⟨_, rfl⟩
      have hw : IntKind.u64.wrap ((2 : Int) ^ min q.toNat 64) = y := by
        rw [hy]
        obtain rfl | rfl | rfl | rfl : q = 1 ∨ q = 2 ∨ q = 3 ∨ q = 4 := by omega
        all_goals decide
      have E1 := and_mask (inL (ps.take i)) q (by omega) (by omega)
      rw [← hy] at E1
      by_cases hin : q ∈ ps.take i
      · have HN := Bx.mk (okP_twice h (by rw [← HQ.out]; exact hin))
        have E2 : (Go.bits .and .u64 (mask (inL (ps.take i))) y != 0) = true := by
          rw [E1]; unfold inL; rw [decide_eq_true hin, hy]; simpa [bit2] using pow_ne q (by omega) (by omega)
        clear E1 hin hy hlo hhi
        go_wp2_with fail
        go_quiet (fail)
        go_wp2
        go_ret2
        exact .inr ⟨HN.out, rfl, pw_below_drewN HB1.out _⟩
      · have HOK2 := Bx.mk (okP_snoc h HOK.out (by rw [← HQ.out]; omega) (by rw [← HQ.out]; omega) (by rw [← HQ.out]; exact hin))
        have E2 : (Go.bits .and .u64 (mask (inL (ps.take i))) y != 0) = false := by
          rw [E1]; unfold inL; rw [decide_eq_false hin]; rfl
        have E3 := or_mask (inL (ps.take i)) q (by omega) (by omega)
        rw [← hy, HQ.out, inL_snoc ps i h] at E3
        have HE3 := Bx.mk E3
        clear E1 E3 hin hy hlo hhi
        go_wp2_with fail
        go_quiet (fail)
        go_wp2_with fail
        go_region
        go_wp2
        go_roundw
        case rel => exact ⟨i + 1, by omega, by go_num, HOK2, ⟨by rw [HE3.out]; exact GA.all HG.out _ _⟩, ⟨(pw_below_drewN HB1.out _).setCell hgB _⟩, ⟨by simp [World.setCell]; exact HS.out⟩⟩
        case measure => simp [intOf]; omega
    · obtain rfl : i = ps.length := by omega
      have hok := HOK.out
      have hga := HG.out
      rw [List.take_length] at hok hga
      obtain ⟨v, hg, hgB, hr⟩ := HG.out
      obtain ⟨c0, c1', c2, c3⟩ := cells4 hg
      have hfz := blk_frozen hg 2
      have HOK2 := Bx.mk hok
      have HGA := Bx.mk hga
      clear hg hr hok hga
      go_wp2
      go_ret2
      refine .inl ⟨HOK2.out, _, rfl, ?_, HB1.out.setCell hgB _⟩
      exact GA.live HGA.out (inL ps) 0
set_option maxHeartbeats 1000000 in
set_option maxRecDepth 100000 in
theorem new_nil (w : World) : Calls Try.prog 7 #[.slice none 0 0] w (NewPost w []) := by
  have hu48 := Try.underlying48
  go_enter Try.func7, Try.ntmps7
  go_wp2_with (go_at_call 21; (with_reducible refine (clone_nil _).mono ?_); rintro e w1 ⟨rfl, rfl⟩)
  go_loopw [13] (fun v wr => v = .int .i64 0 ∧ Bx (GA wr w.heap.size w.heap.size [] (inL []) no) ∧ Bx (Below w.heap.size w wr)) (fun v _ => 0)
  case atStart => exact ⟨rfl, ⟨GA.boxed (Kd.R_nil _ _ _ _ _) (Below.refl _ _) (Nat.le_refl _)⟩, ⟨(Below.refl _ _).alloc (Nat.le_refl _) _⟩⟩
  case round =>
    obtain ⟨rfl, HG, HB⟩ := hrel
    obtain ⟨v, hg, hgB, hr⟩ := HG.out
    obtain ⟨c0, c1', c2, c3⟩ := cells4 hg
    have hfz := blk_frozen hg 2
    clear hg hr
    go_wp2
    go_ret2
    exact .inl ⟨okP_nil, _, rfl, GA.live HG.out (inL []) 0, HB.out.setCell hgB _⟩
end Go.Proofs.Ytcfojkejajanlaa.Base
