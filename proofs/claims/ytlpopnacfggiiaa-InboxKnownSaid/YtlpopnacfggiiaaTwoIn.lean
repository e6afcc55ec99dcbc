/- Layer 14: the two inboxes side by side: what is kept in the one is kept in the other. -/
import Derived.Test.YtlpopnacfggiiaaRtake
set_option linter.unusedVariables false
set_option linter.unusedSimpArgs false
namespace Go.Proofs.Ytlpopnacfggiiaa.Ref
open Go.RowKit Go.Proofs.Ytlpopnacfggiiaa.Base Go.Proofs.Ytlpopnacfggiiaa.Byt Go.Proofs.YtlpopnacfggiiaaW.PrintWords Go.Proofs.YtlpopnacfggiiaaW.PrintLast Go.Proofs.YtlpopnacfggiiaaW.PrintMore

/-- Two lists, element by element. -/
inductive L2 {α β : Type} (R : α → β → Prop) : List α → List β → Prop
  | nil : L2 R [] []
  | cons {x : α} {y : β} {xs : List α} {ys : List β} : R x y → L2 R xs ys → L2 R (x :: xs) (y :: ys)
section
variable {α β : Type} {R : α → β → Prop}
theorem L2.len {a : List α} {b : List β} (h : L2 R a b) : a.length = b.length := by
  induction h with
  | nil => rfl
  | cons _ _ ih => simp [ih]
theorem L2.mono {S : α → β → Prop} {a : List α} {b : List β} (h : L2 R a b) (hRS : ∀ x y, R x y → S x y) : L2 S a b := by
  induction h with
  | nil => exact .nil
  | cons h1 _ ih => exact .cons (hRS _ _ h1) ih
theorem L2.append {a a' : List α} {b b' : List β} (h : L2 R a b) (h' : L2 R a' b') : L2 R (a ++ a') (b ++ b') := by
  induction h with
  | nil => exact h'
  | cons h1 _ ih => exact .cons h1 ih
theorem L2.drop {a : List α} {b : List β} (h : L2 R a b) (n : Nat) : L2 R (a.drop n) (b.drop n) := by
  induction h generalizing n with
  | nil => simpa using L2.nil
  | cons h1 h2 ih =>
    cases n with
    | zero => exact .cons h1 h2
    | succ n => exact ih n
theorem L2.replicate {x : α} {y : β} (h : R x y) (n : Nat) : L2 R (List.replicate n x) (List.replicate n y) := by
  induction n with
  | zero => exact .nil
  | succ n ih => exact .cons h ih
theorem L2.set {a : List α} {b : List β} (h : L2 R a b) (n : Nat) {x : α} {y : β} (hxy : R x y) : L2 R (a.set n x) (b.set n y) := by
  induction h generalizing n with
  | nil => exact .nil
  | cons h1 h2 ih =>
    cases n with
    | zero => exact .cons hxy h2
    | succ n => exact .cons h1 (ih n)
theorem L2.get {a : List α} {b : List β} (h : L2 R a b) (n : Nat) (x0 : α) (y0 : β) (hn : n < a.length) : R (a.getD n x0) (b.getD n y0) := by
  induction h generalizing n with
  | nil => simp at hn
  | cons h1 h2 ih =>
    cases n with
    | zero => simpa using h1
    | succ n => simpa using ih n (by simpa using hn)
end
section
variable {α β : Type} {R : α → β → Prop}
/-- Both are none, or both some and alike. -/
inductive Op2 (R : α → β → Prop) : Option α → Option β → Prop
  | none : Op2 R none none
  | some {x : α} {y : β} : R x y → Op2 R (some x) (some y)
theorem Op2.isSome {o : Option α} {p : Option β} (h : Op2 R o p) : o.isSome = p.isSome := by cases h <;> rfl
theorem came2 {a : List (Option α)} {b : List (Option β)} (h : L2 (Op2 R) a b) (d : Nat) (hd : d < a.length) (x : α) (y : β) (hxy : b.getD d none = none → R x y) : L2 (Op2 R) (came a d x) (came b d y) := by
  have hg := h.get d none none hd
  unfold came
  rw [hg.isSome]
  cases hb : b.getD d none with
  | none => simpa using h.set d (.some (hxy hb))
  | some u => simpa using h
theorem lead2 {a : List (Option α)} {b : List (Option β)} (h : L2 (Op2 R) a b) : lead a = lead b := by
  induction h with
  | nil => rfl
  | cons h1 h2 ih =>
    cases h1 with
    | none => rw [lead_none, lead_none]
    | some h1 => rw [lead_some, lead_some, ih]
theorem told2 {a : List (Option α)} {b : List (Option β)} (h : L2 (Op2 R) a b) : L2 R (told a) (told b) := by
  induction h with
  | nil => exact .nil
  | cons h1 h2 ih =>
    cases h1 with
    | none => rw [told_none, told_none]; exact .nil
    | some h1 => rw [told_some, told_some]; exact .cons h1 ih
theorem rest2 {a : List (Option α)} {b : List (Option β)} (h : L2 (Op2 R) a b) : L2 (Op2 R) (rest a) (rest b) := by
  unfold rest
  rw [lead2 h]
  exact (h.drop _).append (.replicate .none _)
theorem cnt2 {a : List (Option α)} {b : List (Option β)} (h : L2 (Op2 R) a b) : cnt a = cnt b := by
  induction h with
  | nil => rfl
  | cons h1 h2 ih =>
    unfold cnt at ih ⊢
    cases h1 <;> simp [List.filter_cons, ih]
end
/-- A message that is kept in both: the same bytes; the document's copy lies in a block that is ok. -/
def Same (w0 w : World) (ok : Nat → Prop) (s x : Sl) : Prop := ∃ bs, At w0 s bs ∧ At w x bs ∧ inB x ok
theorem Same.step {w0 w w' : World} {ok ok' : Nat → Prop} {s x : Sl} (h : Same w0 w ok s x) (hk : ∀ k, ok k → w'.heap[k]? = w.heap[k]? ∧ ok' k) : Same w0 w' ok' s x := by
  obtain ⟨bs, h1, h2, h3⟩ := h
  exact ⟨bs, h1, h2.kept (fun ad e => (hk _ (h3 ad e)).1), fun ad e => (hk _ (h3 ad e)).2⟩
/-- What both keep. -/
abbrev Both (w0 w : World) (ok : Nat → Prop) (a rs : List (Option Sl)) : Prop := L2 (Op2 (Same w0 w ok)) a rs
theorem Both.step {w0 w w' : World} {ok ok' : Nat → Prop} {a rs : List (Option Sl)} (h : Both w0 w ok a rs) (hk : ∀ k, ok k → w'.heap[k]? = w.heap[k]? ∧ ok' k) : Both w0 w' ok' a rs :=
  L2.mono h (fun _ _ h => by
    cases h with
    | none => exact .none
    | some h => exact .some (h.step hk))
theorem At.below {w w' : World} {s : Sl} {bs : List Int} (h : At w s bs) (hb : Below w.heap.size w w') : At w' s bs := ⟨h.hn, h.hc, Kd.C_below h.hC hb⟩
end Go.Proofs.Ytlpopnacfggiiaa.Ref
