/- The walk of SerialMoves over the contracts of its callees. -/
import Derived.Test.YtdfdopegkicnaaaBase
import Derived.Deep.RegionHeld3
import Derived.Deep.QuietTactic
import Derived.BigQuiet
namespace Go.Proofs.Ytdfdopegkicnaaa.Mov
open Go.RowKit Go.Proofs.Ytdfdopegkicnaaa.Base

theorem plus_ahead (a b : Int) (hb : 0 ≤ b ∧ b ≤ 65535) : plusV a (aheadV a b) = b := by
  unfold plusV aheadV; split <;> omega
theorem ahead_moves (a b n : Int) : aheadV (plusV a n) (plusV b n) = aheadV a b := by
  have e : (plusV b n - plusV a n) % 65536 = (b - a) % 65536 := by unfold plusV; omega
  unfold aheadV; rw [e]
theorem less_moves (a b n : Int) : lessV (plusV a n) (plusV b n) = lessV a b := by unfold lessV; rw [ahead_moves]
theorem at_moves (a b n m : Int) : atV (plusV a n) m (plusV b n) = atV a m b := by
  have e : (plusV b n - plusV a n) % 65536 = (b - a) % 65536 := by unfold plusV; omega
  unfold atV; rw [e]
theorem has_moves (a b n m : Int) : hasV (plusV a n) m (plusV b n) = hasV a m b := by
  have e : (plusV b n - plusV a n) % 65536 = (b - a) % 65536 := by unfold plusV; omega
  unfold hasV; rw [e]
theorem two_cells {w : World} {g : Nat} {u v : Value} {t : TypeId} (h : w.heap[g]? = some (.cells #[u, v] t (0, 0))) : w.cell? ⟨g, 0, none⟩ = some u ∧ w.cell? ⟨g, 1, none⟩ = some v :=
  ⟨cell_of_row w g 0 _ t (0, 0) h, cell_of_row w g 1 _ t (0, 0) h⟩
theorem keep {w w1 : World} {g : Nat} {o : Obj} (h : w.heap[g]? = some o) (hb : Below w.heap.size w w1) : w1.heap[g]? = some o := (hb.block g (Array.getElem?_eq_some_iff.1 h).1).trans h
theorem next {w wr w1 : World} (h : Below w.heap.size w wr) (hb : Below wr.heap.size wr w1) : Below w.heap.size w w1 := h.trans (hb.mono h.size)

set_option maxHeartbeats 1000000 in
set_option maxRecDepth 100000 in
theorem walk (a b n m : Int) (w : World) (ha : 0 ≤ a ∧ a ≤ 65535) (hb : 0 ≤ b ∧ b ≤ 65535) :
    Calls Try.prog 6 #[.agg #[.int .u16 a, .int .u16 b], .int .i64 n, .int .i64 m] w fun e w' => e = .returned (.bool true) ∧ Below w.heap.size w w' := by
  have hu31 := Try.underlying31
  have hu36 := Try.underlying36
  have E1 := Bx.mk (plus_ahead a b hb)
  have E2 := Bx.mk (ahead_moves a b n)
  have E3 := Bx.mk (less_moves a b n)
  have pa := plusV_bd a n
  have pb := plusV_bd b n
  go_enter Try.func6, Try.ntmps6
  go_wp2_with fail
  go_quiet (fail)
  go_wp2_with (first | (go_at_call 13; (with_reducible refine (plus_c _ _ _).mono ?_); (try rw [E1.out]); rintro e w' ⟨rfl, rfl⟩) | (go_at_call 9; (with_reducible refine (ahead_c _ _ _).mono ?_); (try rw [E2.out]); rintro e w' ⟨rfl, rfl⟩) | (go_at_call 11; (with_reducible refine (less_c _ _ _ (by omega) (by omega)).mono ?_); (try rw [E3.out]); rintro e w' ⟨rfl, rfl⟩))
  obtain ⟨K1, K2, HB⟩ : Bx ((((((w.alloc (.cells #[.int .u16 a, .int .u16 b] 36)).drewN nq).alloc (.cells #[.int .u16 a, .int .i64 m] 31)).alloc (.cells #[.int .u16 (plusV a n), .int .i64 m] 31))).heap[w.heap.size + 1]? = some (.cells #[.int .u16 a, .int .i64 m] 31 (0, 0))) ∧
      Bx ((((((w.alloc (.cells #[.int .u16 a, .int .u16 b] 36)).drewN nq).alloc (.cells #[.int .u16 a, .int .i64 m] 31)).alloc (.cells #[.int .u16 (plusV a n), .int .i64 m] 31))).heap[w.heap.size + 1 + 1]? = some (.cells #[.int .u16 (plusV a n), .int .i64 m] 31 (0, 0))) ∧
      Bx (Below w.heap.size w (((((w.alloc (.cells #[.int .u16 a, .int .u16 b] 36)).drewN nq).alloc (.cells #[.int .u16 a, .int .i64 m] 31)).alloc (.cells #[.int .u16 (plusV a n), .int .i64 m] 31)))) := by
    refine ⟨⟨?_⟩, ⟨?_⟩, ⟨?_⟩⟩
    · rw [Below.heap_alloc _ _ _ (by simp)]
      simpa using heap_alloc_new ((w.alloc (.cells #[.int .u16 a, .int .u16 b] 36)).drewN nq) (.cells #[.int .u16 a, .int .i64 m] 31)
    · simpa using heap_alloc_new (((w.alloc (.cells #[.int .u16 a, .int .u16 b] 36)).drewN nq).alloc (.cells #[.int .u16 a, .int .i64 m] 31)) (.cells #[.int .u16 (plusV a n), .int .i64 m] 31)
    · refine Below.alloc (Below.alloc (B := w.heap.size) (a := w) (w := (w.alloc (.cells #[.int .u16 a, .int .u16 b] 36)).drewN nq) ?_ (by simp) _) (by simp; omega) _
      exact ⟨rfl, rfl, rfl, by simp, fun k hk => Below.heap_alloc w _ k hk⟩
  generalize ((((w.alloc (.cells #[.int .u16 a, .int .u16 b] 36)).drewN nq).alloc (.cells #[.int .u16 a, .int .i64 m] 31)).alloc (.cells #[.int .u16 (plusV a n), .int .i64 m] 31)) = W at *
  have c0 := (two_cells K1.out).1
  have c1 := (two_cells K1.out).2
  have c2 := (two_cells K2.out).1
  have c3 := (two_cells K2.out).2
  have E4 := Bx.mk (at_moves a b n m)
  have E5 := Bx.mk (has_moves a b n m)
  clear E1 E2 E3 pa pb
  go_region_held3 (fun w' => w'.cell? ⟨w.heap.size + 1, 0, none⟩ = some (.int .u16 a) ∧ w'.cell? ⟨w.heap.size + 1, 1, none⟩ = some (.int .i64 m) ∧ w'.cell? ⟨w.heap.size + 1 + 1, 0, none⟩ = some (.int .u16 (plusV a n)) ∧ w'.cell? ⟨w.heap.size + 1 + 1, 1, none⟩ = some (.int .i64 m)) (first | exact ⟨c0, c1, c2, c3⟩ | go_keep) (first | (go_at_call 17; (with_reducible refine (at_c _ _ _ _).mono ?_); (try rw [E4.out]); rintro e w1 ⟨rfl, hb⟩; have n0 := Bx.mk (keep K1.out ⟨hb.os, hb.tape, hb.output, hb.size, hb.block⟩); have n2 := Bx.mk (keep K2.out ⟨hb.os, hb.tape, hb.output, hb.size, hb.block⟩); have n1 := Bx.mk (next HB.out ⟨hb.os, hb.tape, hb.output, hb.size, hb.block⟩); clear K1 K2 HB c0 c1 c2 c3 hb; have K1 := n0; have K2 := n2; have HB := n1; clear n0 n1 n2; have c0 := (two_cells K1.out).1; have c1 := (two_cells K1.out).2; have c2 := (two_cells K2.out).1; have c3 := (two_cells K2.out).2) | (go_at_call 18; (with_reducible refine (has_c _ _ _ _).mono ?_); (try rw [E5.out]); rintro e w1 ⟨rfl, hb⟩; have n0 := Bx.mk (keep K1.out ⟨hb.os, hb.tape, hb.output, hb.size, hb.block⟩); have n2 := Bx.mk (keep K2.out ⟨hb.os, hb.tape, hb.output, hb.size, hb.block⟩); have n1 := Bx.mk (next HB.out ⟨hb.os, hb.tape, hb.output, hb.size, hb.block⟩); clear K1 K2 HB c0 c1 c2 c3 hb; have K1 := n0; have K2 := n2; have HB := n1; clear n0 n1 n2; have c0 := (two_cells K1.out).1; have c1 := (two_cells K1.out).2; have c2 := (two_cells K2.out).1; have c3 := (two_cells K2.out).2) | (go_at_call 15; (with_reducible refine (works_c _).mono ?_); rintro e w1 ⟨rfl, hb⟩; have n0 := Bx.mk (keep K1.out ⟨hb.os, hb.tape, hb.output, hb.size, hb.block⟩); have n2 := Bx.mk (keep K2.out ⟨hb.os, hb.tape, hb.output, hb.size, hb.block⟩); have n1 := Bx.mk (next HB.out ⟨hb.os, hb.tape, hb.output, hb.size, hb.block⟩); clear K1 K2 HB c0 c1 c2 c3 hb; have K1 := n0; have K2 := n2; have HB := n1; clear n0 n1 n2; have c0 := (two_cells K1.out).1; have c1 := (two_cells K1.out).2; have c2 := (two_cells K2.out).1; have c3 := (two_cells K2.out).2))
  all_goals (go_wp2; go_ret; exact ⟨rfl, HB.out⟩)
end Go.Proofs.Ytdfdopegkicnaaa.Mov
