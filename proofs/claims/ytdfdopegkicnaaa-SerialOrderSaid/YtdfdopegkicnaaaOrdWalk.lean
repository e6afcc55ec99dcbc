/- The walk of SerialOrder over the contracts of its callees. -/
import Derived.Test.YtdfdopegkicnaaaPSerialRowx1
import Derived.OpenShut
namespace Go.Proofs.Ytdfdopegkicnaaa.Ord
open Go.RowKit Go.Proofs.Ytdfdopegkicnaaa.PSerialRow Go.Proofs.YtdfdopegkicnaaaW.PrintWords Go.Proofs.YtdfdopegkicnaaaW.PrintLast

def aheadV (a b : Int) : Int := if (b - a) % 65536 ≥ 32768 then (b - a) % 65536 - 65536 else (b - a) % 65536
def lessV (a b : Int) : Bool := decide (aheadV a b > 0)
theorem u16w (n : Int) : IntKind.u16.wrap n = n % 65536 := by
  simp [IntKind.wrap, IntKind.bits, IntKind.signed]
theorem i16w (n : Int) : IntKind.i16.wrap n = (if n % 65536 ≥ 32768 then n % 65536 - 65536 else n % 65536) := by
  simp [IntKind.wrap, IntKind.bits, IntKind.signed]
theorem w64 {n : Int} (h : -9223372036854775808 ≤ n ∧ n ≤ 9223372036854775807) : wrap64 n = n := by
  unfold wrap64; omega
theorem goAhead (a b : Int) : serial_Ahead_uint16.f a b = some (aheadV a b) := by
  unfold serial_Ahead_uint16.f aheadV
  rw [u16w, i16w]
  congr 1
  rw [Int.emod_emod]
  apply w64
  split <;> omega
theorem goLess (a b : Int) (ha : 0 ≤ a ∧ a ≤ 65535) (hb : 0 ≤ b ∧ b ≤ 65535) : serial_Less_uint16.f a b = some (lessV a b) := by
  unfold serial_Less_uint16.f lessV aheadV
  rw [u16w]
  split
  · subst_vars; simp
  · congr 1
    simp only [decide_eq_decide]
    split <;> omega
theorem goPlus (a n : Int) : serial_Plus_uint16.f a n = some ((a + n) % 65536) := by
  unfold serial_Plus_uint16.f
  rw [u16w, u16w]
  congr 1; omega
theorem worksYes : catenarylaw02_works.f 1 = some true := by decide +kernel
theorem lessV_no {a b : Int} (h : aheadV a b ≤ 0) : lessV a b = false := by
  simp only [lessV, decide_eq_false_iff_not]; omega
theorem lessV_one {a b : Int} (h : (aheadV a b > 0 ∧ aheadV b a ≤ 0) ∨ (aheadV a b ≤ 0 ∧ aheadV b a > 0)) : (lessV a b == lessV b a) = false := by
  rw [beq_eq_false_iff_ne]; intro hh
  simp only [lessV, decide_eq_decide] at hh
  omega
theorem aheadV_bd (a b : Int) : -32768 ≤ aheadV a b ∧ aheadV a b ≤ 32767 := by
  unfold aheadV; split <;> omega

theorem ahead_c (a b : Int) (w : World) : Calls Try.prog 9 #[.int .u16 a, .int .u16 b] w fun e w' => e = .returned (.int .i64 (aheadV a b)) ∧ Drawn0 w w' :=
  serial_Ahead_uint16.calls a b _ w (goAhead a b)
theorem less_c (a b : Int) (w : World) (ha : 0 ≤ a ∧ a ≤ 65535) (hb : 0 ≤ b ∧ b ≤ 65535) : Calls Try.prog 11 #[.int .u16 a, .int .u16 b] w fun e w' => e = .returned (.bool (lessV a b)) ∧ Drawn0 w w' :=
  serial_Less_uint16.calls a b _ w (goLess a b ha hb)
theorem works_c (w : World) : Calls Try.prog 15 #[] w fun e w' => e = .returned (.bool true) ∧ Below w.heap.size w w' :=
  catenarylaw02_works.calls 1 true w worksYes
theorem belowTwo {w w1 : World} (h : Below w.heap.size w w1) (a b : Nat) : Below w.heap.size w ((w1.drewN a).drewN b) := pw_below_drewN (pw_below_drewN h a) b

set_option maxHeartbeats 1000000 in
set_option maxRecDepth 100000 in
theorem order_eq (a : Int) (w : World) (ha : 0 ≤ a ∧ a ≤ 65535) :
    Calls Try.prog 5 #[.int .u16 a, .int .u16 a] w fun e w' => e = .returned (.bool true) ∧ Below w.heap.size w w' := by
  have hl : lessV a a = false := by simp [lessV, aheadV]
  have h0 : (a == a) = true := by simp
  go_enter Try.func5, Try.ntmps5
  go_wp2_with (first | (go_at_call 15; (with_reducible refine (works_c _).mono ?_); rintro e w1 ⟨rfl, hb⟩; have HB := Aside0.mk hb; clear hb) | (go_at_call 11; (with_reducible refine (less_c _ _ _ ha ha).mono ?_); rintro e w' ⟨rfl, ⟨nd, rfl⟩⟩))
  go_ret
  exact ⟨rfl, by repeat (first | exact HB.out | apply pw_below_drewN)⟩
set_option maxHeartbeats 1000000 in
set_option maxRecDepth 100000 in
theorem order_far (a b : Int) (w : World) (ha : 0 ≤ a ∧ a ≤ 65535) (hb : 0 ≤ b ∧ b ≤ 65535) (hn : (a == b) = false) (hl : lessV a b = false) (hl' : lessV b a = false)
    (hd : (IntKind.u16.wrap (a - b) == 32768) = true) :
    Calls Try.prog 5 #[.int .u16 a, .int .u16 b] w fun e w' => e = .returned (.bool true) ∧ Below w.heap.size w w' := by
  go_enter Try.func5, Try.ntmps5
  go_wp2_with (first | (go_at_call 15; (with_reducible refine (works_c _).mono ?_); rintro e w1 ⟨rfl, hb⟩; have HB := Aside0.mk hb; clear hb) | (go_at_call 11; (with_reducible refine (less_c a b _ ha hb).mono ?_); rintro e w' ⟨rfl, ⟨nd, rfl⟩⟩) | (go_at_call 11; (with_reducible refine (less_c b a _ hb ha).mono ?_); rintro e w' ⟨rfl, ⟨nd, rfl⟩⟩))
  go_ret
  exact ⟨rfl, by repeat (first | exact HB.out | apply pw_below_drewN)⟩
set_option maxHeartbeats 1000000 in
set_option maxRecDepth 100000 in
theorem order_near (a b : Int) (w : World) (ha : 0 ≤ a ∧ a ≤ 65535) (hb : 0 ≤ b ∧ b ≤ 65535) (hn : (a == b) = false)
    (hd : (IntKind.u16.wrap (a - b) == 32768) = false) (h1 : (lessV a b == lessV b a) = false) (h2 : (decide (aheadV a b > 0) == lessV a b) = true) (h3 : (aheadV a b == -aheadV b a) = true) :
    Calls Try.prog 5 #[.int .u16 a, .int .u16 b] w fun e w' => e = .returned (.bool true) ∧ Below w.heap.size w w' := by
  have b1 := aheadV_bd a b
  have b2 := aheadV_bd b a
  go_enter Try.func5, Try.ntmps5
  go_wp2_with (first | (go_at_call 15; (with_reducible refine (works_c _).mono ?_); rintro e w1 ⟨rfl, hb⟩; have HB := Aside0.mk hb; clear hb) | (go_at_call 11; (with_reducible refine (less_c a b _ ha hb).mono ?_); rintro e w' ⟨rfl, ⟨nd, rfl⟩⟩) | (go_at_call 11; (with_reducible refine (less_c b a _ hb ha).mono ?_); rintro e w' ⟨rfl, ⟨nd, rfl⟩⟩) | (go_at_call 9; (with_reducible refine (ahead_c _ _ _).mono ?_); rintro e w' ⟨rfl, ⟨nd, rfl⟩⟩))
  go_ret
  exact ⟨rfl, by repeat (first | exact HB.out | apply pw_below_drewN)⟩
theorem walk (a b : Int) (w : World) (wa : (Lit.int .u16 a).wf = true) (wb : (Lit.int .u16 b).wf = true) :
    Calls Try.prog 5 #[.int .u16 a, .int .u16 b] w fun e w' => e = .returned (.bool true) ∧ Below w.heap.size w w' := by
  have ha := bounds_u16 wa
  have hb := bounds_u16 wb
  by_cases e : a = b
  · subst e; exact order_eq a w ha
  · have hn : (a == b) = false := by simpa using e
    by_cases h : (a - b) % 65536 = 32768
    · refine order_far a b w ha hb hn ?_ ?_ ?_
      · refine lessV_no ?_; simp only [aheadV]; split <;> omega
      · refine lessV_no ?_; simp only [aheadV]; split <;> omega
      · rw [u16w]; simpa using h
    · refine order_near a b w ha hb hn ?_ ?_ ?_ ?_
      · rw [u16w]; simpa using h
      · refine lessV_one ?_
        simp only [aheadV]
        split <;> split <;> omega
      · simp [lessV]
      · rw [beq_iff_eq]; simp only [aheadV]; split <;> split <;> omega
end Go.Proofs.Ytdfdopegkicnaaa.Ord
