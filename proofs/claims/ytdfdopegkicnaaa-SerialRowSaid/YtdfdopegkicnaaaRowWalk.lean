/- The walk of SerialRow over the contracts of its callees. -/
import Derived.Test.YtdfdopegkicnaaaBase
import Derived.Deep.RegionHeld3
namespace Go.Proofs.Ytdfdopegkicnaaa.RowW
open Go.RowKit Go.Proofs.Ytdfdopegkicnaaa.Base

theorem sub_plus (a i : Int) (h0 : 0 ≤ i) (h1 : i < 65536) : (plusV a i - a) % 65536 = i := by unfold plusV; omega
theorem hasIn (a n i : Int) (h0 : 0 ≤ i) (h1 : i < 65536) (h : i < n) : hasV a n (plusV a i) = true := by unfold hasV; rw [sub_plus a i h0 h1]; exact decide_eq_true h
theorem hasOut (a n i : Int) (h0 : 0 ≤ i) (h1 : i < 65536) (h : ¬ i < n) : hasV a n (plusV a i) = false := by unfold hasV; rw [sub_plus a i h0 h1]; exact decide_eq_false h
theorem atIn (a n i : Int) (h0 : 0 ≤ i) (h1 : i < 65536) (h : i < n) : atV a n (plusV a i) = i := by unfold atV; rw [sub_plus a i h0 h1, if_pos h]
theorem atOut (a n i : Int) (h0 : 0 ≤ i) (h1 : i < 65536) (h : ¬ i < n) : atV a n (plusV a i) = -1 := by unfold atV; rw [sub_plus a i h0 h1, if_neg h]
theorem hasBack (a n : Int) (hn : n ≤ 300) : hasV a n (plusV a (-1)) = false := by
  unfold hasV; exact decide_eq_false (by unfold plusV; omega)
theorem two_cells {w : World} {g : Nat} {u v : Value} {t : TypeId} (h : w.heap[g]? = some (.cells #[u, v] t (0, 0))) : w.cell? ⟨g, 0, none⟩ = some u ∧ w.cell? ⟨g, 1, none⟩ = some v :=
  ⟨cell_of_row w g 0 _ t (0, 0) h, cell_of_row w g 1 _ t (0, 0) h⟩
theorem keep {w w1 : World} {g : Nat} {o : Obj} (h : w.heap[g]? = some o) (hb : Below w.heap.size w w1) : w1.heap[g]? = some o := (hb.block g (Array.getElem?_eq_some_iff.1 h).1).trans h
theorem next {w wr w1 : World} (h : Below w.heap.size w wr) (hb : Below wr.heap.size wr w1) : Below w.heap.size w w1 := h.trans (hb.mono h.size)

set_option maxHeartbeats 1000000 in
set_option maxRecDepth 100000 in
theorem walk (a m : Int) (w : World) (wa : (Lit.int .u16 a).wf = true) (_ : (Lit.int .i64 m).wf = true) :
    Calls Try.prog 7 #[.int .u16 a, .int .i64 m] w fun e w' => e = .returned (.bool true) ∧ Below w.heap.size w w' := by
  have hu31 := Try.underlying31
  have ha := bounds_u16 wa
  obtain ⟨n, hn⟩ : ∃ n, n = m % 301 := ⟨_, rfl⟩
  have hn0 : 0 ≤ n := by omega
  have hn1 : n ≤ 300 := by omega
  have HN := Bx.mk hn.symm
  clear hn
  go_enter Try.func7, Try.ntmps7
  go_wp2_with (first | (go_at_call 19; (with_reducible refine (bring_c _ _ _ (by omega) (by omega)).mono ?_); rw [HN.out]; rintro e w' ⟨rfl, rfl⟩))
  go_loopw [7] (fun v wr => ∃ i : Nat, i ≤ 310 ∧ v = .int .i64 i ∧ Bx (wr.heap[w.heap.size]? = some (.cells #[.int .u16 a, .int .i64 n] 31 (0, 0))) ∧ Bx (Below w.heap.size w wr)) (fun v _ => 310 - (intOf v).toNat)
  case atStart => exact ⟨0, by omega, rfl, ⟨heap_alloc_new _ _⟩, ⟨(Below.refl _ _).alloc (Nat.le_refl _) _⟩⟩
  case round =>
    obtain ⟨i, hi, rfl, HK, HB⟩ := hrel
    obtain ⟨c0, c1⟩ := two_cells HK.out
    have hlt : w.heap.size < wr.heap.size := (Array.getElem?_eq_some_iff.1 HK.out).1
    by_cases h : i < 310
    · have h0 : (0 : Int) ≤ (i : Int) := by omega
      have h1 : (i : Int) < 65536 := by omega
      by_cases hin : (i : Int) < n
      · have g1 := hasIn a n i h0 h1 hin
        have g2 := Bx.mk (atIn a n i h0 h1 hin)
        clear h1
        go_wp2_with (first | (go_at_call 13; (with_reducible refine (plus_c _ _ _).mono ?_); rintro e w' ⟨rfl, rfl⟩) | (go_at_call 18; (with_reducible refine (has_c _ _ _ _).mono ?_); rintro e w1 ⟨rfl, hb⟩; have n0 := Bx.mk (keep HK.out hb); have n1 := Bx.mk (next HB.out hb); clear HK HB c0 c1 hb; have HK := n0; have HB := n1; clear n0 n1; have c0 := (two_cells HK.out).1; have c1 := (two_cells HK.out).2) | (go_at_call 17; (with_reducible refine (at_c _ _ _ _).mono ?_); rw [g2.out]; rintro e w1 ⟨rfl, hb⟩; have n0 := Bx.mk (keep HK.out hb); have n1 := Bx.mk (next HB.out hb); clear HK HB c0 c1 hb; have HK := n0; have HB := n1; clear n0 n1; have c0 := (two_cells HK.out).1; have c1 := (two_cells HK.out).2))
        go_roundw
        case rel => exact ⟨i + 1, by omega, by go_num, HK, HB⟩
        case measure => simp [intOf]; omega
      · have g1 := hasOut a n i h0 h1 hin
        have g2 := Bx.mk (atOut a n i h0 h1 hin)
        clear h1
        go_wp2_with (first | (go_at_call 13; (with_reducible refine (plus_c _ _ _).mono ?_); rintro e w' ⟨rfl, rfl⟩) | (go_at_call 18; (with_reducible refine (has_c _ _ _ _).mono ?_); rintro e w1 ⟨rfl, hb⟩; have n0 := Bx.mk (keep HK.out hb); have n1 := Bx.mk (next HB.out hb); clear HK HB c0 c1 hb; have HK := n0; have HB := n1; clear n0 n1; have c0 := (two_cells HK.out).1; have c1 := (two_cells HK.out).2) | (go_at_call 17; (with_reducible refine (at_c _ _ _ _).mono ?_); rw [g2.out]; rintro e w1 ⟨rfl, hb⟩; have n0 := Bx.mk (keep HK.out hb); have n1 := Bx.mk (next HB.out hb); clear HK HB c0 c1 hb; have HK := n0; have HB := n1; clear n0 n1; have c0 := (two_cells HK.out).1; have c1 := (two_cells HK.out).2))
        go_roundw
        case rel => exact ⟨i + 1, by omega, by go_num, HK, HB⟩
        case measure => simp [intOf]; omega
    · have g1 := hasBack a n hn1
      go_wp2_with fail
      go_region_held3 (fun w' => w'.cell? ⟨w.heap.size, 0, none⟩ = some (.int .u16 a) ∧ w'.cell? ⟨w.heap.size, 1, none⟩ = some (.int .i64 n)) (first | exact ⟨c0, c1⟩ | go_keep) (first | (go_at_call 13; (with_reducible refine (plus_c _ _ _).mono ?_); rintro e w' ⟨rfl, rfl⟩) | (go_at_call 18; (with_reducible refine (has_c _ _ _ _).mono ?_); rw [g1]; rintro e w1 ⟨rfl, hb⟩; have n0 := Bx.mk (keep HK.out ⟨hb.os, hb.tape, hb.output, hb.size, hb.block⟩); have n1 := Bx.mk (next HB.out ⟨hb.os, hb.tape, hb.output, hb.size, hb.block⟩); clear HK HB c0 c1 hb; have HK := n0; have HB := n1; clear n0 n1; have c0 := (two_cells HK.out).1; have c1 := (two_cells HK.out).2) | (go_at_call 15; (with_reducible refine (works_c _).mono ?_); rintro e w1 ⟨rfl, hb⟩; have n0 := Bx.mk (keep HK.out ⟨hb.os, hb.tape, hb.output, hb.size, hb.block⟩); have n1 := Bx.mk (next HB.out ⟨hb.os, hb.tape, hb.output, hb.size, hb.block⟩); clear HK HB c0 c1 hb; have HK := n0; have HB := n1; clear n0 n1; have c0 := (two_cells HK.out).1; have c1 := (two_cells HK.out).2))
      all_goals (go_wp2; go_ret; exact ⟨rfl, HB.out⟩)
end Go.Proofs.Ytdfdopegkicnaaa.RowW
