/- Layer 14: InboxAll: four messages in any order: the plain law. -/
import Derived.Test.YtlpopnacfggiiaaOrder
set_option linter.unusedVariables false
set_option linter.unusedSimpArgs false
namespace Go.Proofs.Ytlpopnacfggiiaa.All
open Go.RowKit Go.Proofs.Ytlpopnacfggiiaa.Base Go.Proofs.Ytlpopnacfggiiaa.Int Go.Proofs.Ytlpopnacfggiiaa.Order

/-- Those of the four that were not sent. -/
def left (f : F4) : List Nat := (if f.a then [] else [0]) ++ (if f.b then [] else [1]) ++ (if f.c then [] else [2]) ++ (if f.d then [] else [3])
theorem left_step (f : F4) (k : Nat) (hk : k < (left f).length) :
    (left f).getD k 0 < 4 ∧ ld f ≤ (left f).getD k 0 ∧ (left f).take k ++ (left f).drop (k + 1) = left (setF f ((left f).getD k 0)) ∧
      ld f + ld (setF (aft f) ((left f).getD k 0 - ld f)) = ld (setF f ((left f).getD k 0)) ∧ aft (setF (aft f) ((left f).getD k 0 - ld f)) = aft (setF f ((left f).getD k 0)) := by
  obtain ⟨a, b, c, d⟩ := f
  have hk4 : k = 0 ∨ k = 1 ∨ k = 2 ∨ k = 3 := by
    have : (left ⟨a, b, c, d⟩).length ≤ 4 := by cases a <;> cases b <;> cases c <;> cases d <;> decide
    omega
  rcases hk4 with rfl | rfl | rfl | rfl <;> cases a <;> cases b <;> cases c <;> cases d <;> first | exact absurd hk (by decide) | exact ⟨by decide, by decide, rfl, rfl, rfl⟩
theorem left_nil {f : F4} (h : (left f).length = 0) : ld f = 4 ∧ aft f = ⟨false, false, false, false⟩ := by
  obtain ⟨a, b, c, d⟩ := f
  cases a <;> cases b <;> cases c <;> cases d <;> first | exact ⟨rfl, rfl⟩ | exact absurd h (by decide)
theorem left_len (f : F4) : (left f).length ≤ 4 := by
  obtain ⟨a, b, c, d⟩ := f; cases a <;> cases b <;> cases c <;> cases d <;> decide
/-- What is told, joined to what was. -/
theorem told_join (t : Int) (f : F4) : told (keptOf t f) = (List.range (ld f)).map fun k => t + ((k : Nat) : Int) := by
  obtain ⟨a, b, c, d⟩ := f
  cases a <;> cases b <;> cases c <;> cases d <;> rfl
theorem range_join (n m : Nat) : (List.range n).map (fun k => ((k : Nat) : Int)) ++ (List.range m).map (fun k => (n : Int) + ((k : Nat) : Int)) = (List.range (n + m)).map (fun k => ((k : Nat) : Int)) := by
  rw [List.range_add, List.map_append, List.map_map]
  congr 1
end Go.Proofs.Ytlpopnacfggiiaa.All
