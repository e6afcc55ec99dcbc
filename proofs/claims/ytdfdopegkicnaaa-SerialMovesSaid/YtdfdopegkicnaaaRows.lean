/-
  No cell of these rows narrows 'for every input' (looked for: loops, veiled, ifaces, maps, wideKeys, modest, calm, conditions, laid).
  DERIVED. THE GIVEN ROWS OF THIS SEAT. 6 by the template 'for every input the law returns true; each argument reads behind the call as it read before'; 0 by the template 'total and deterministic' (their statements: YtdfdopegkicnaaaTotals.lean).
  GIVEN WITH THE SEED: the statements are not yours to turn. If you find one false, say at which input.
  Laid BY PROGRAM, IN A SANDBOX (cutbox-rows.mjs): the forced cells as the released guide's own fill.sh prints them over the translation d114565e8a6c7a98… (all of the seat's roots in one cut). By AI agents, Wed Nov 11 2026. No macro, syntax, notation, axiom, sorry.
-/
import Derived.Test.YtdfdopegkicnaaaChecked
import GoSem.Claim
import GoSem.ClaimJoined
import GoSem.ClaimMapViews
import Derived.JoinedTies
import Derived.KernelRfl
namespace Go.Proofs.Ytdfdopegkicnaaa
/- THE CELL 'sum', in the pinned program and in every row, IS THE sha256 OF THE DUMP (.gsa) THAT YtdfdopegkicnaaaProg.lean LOADS. Nothing in Lean hashes anything: it is a label: what it is worth is what the hold of that sum in a sandbox is worth. -/
noncomputable def Try.pinned : Pinned := { name := "ytdfdopegkicnaaa", sum := "d114565e8a6c7a98340fb2aae599da574bb285519797dc3c6d501bc21f94b13f", checked := Try.checked }
namespace Rows
def none {H : Type} : Left H := { results := [], args := [] }

/-- 'catenarylaw02.SerialTwo': WHATEVER THE INPUT: true; the input reads as it did. -/
def serialTwoSpec : ChangeSpec := { name := "serialTwo", fn := fun _ => fun
  | [d1, d2, d3] => { results := [.lit (.bool true)], args := [d1, d2, d3] }
  | _ => none }
def serialTwoRow : OpenClaim := { program := "ytdfdopegkicnaaa", sum := "d114565e8a6c7a98340fb2aae599da574bb285519797dc3c6d501bc21f94b13f", func := "catenary/catenarylaw02.SerialTwo", spec := "serialTwo", apart := false }
def SerialTwoSaid : Prop := serialTwoRow.holds Try.pinned (OpenSpec.ofChange serialTwoSpec)

/-- ITS FALSE NEIGHBOUR: 'it returns false'. Refute it at one input. -/
def serialTwoWrong : ChangeSpec := { name := "serialTwo", fn := fun _ => fun
  | [d1, d2, d3] => { results := [.lit (.bool false)], args := [d1, d2, d3] }
  | _ => none }
def SerialTwoWrongFalsely : Prop := serialTwoRow.holds Try.pinned (OpenSpec.ofChange serialTwoWrong)

/-- 'catenarylaw02.SerialStretch': WHATEVER THE INPUT: true; the input reads as it did. -/
def serialStretchSpec : ChangeSpec := { name := "serialStretch", fn := fun _ => fun
  | [d1, d2, d3] => { results := [.lit (.bool true)], args := [d1, d2, d3] }
  | _ => none }
def serialStretchRow : OpenClaim := { program := "ytdfdopegkicnaaa", sum := "d114565e8a6c7a98340fb2aae599da574bb285519797dc3c6d501bc21f94b13f", func := "catenary/catenarylaw02.SerialStretch", spec := "serialStretch", apart := false }
def SerialStretchSaid : Prop := serialStretchRow.holds Try.pinned (OpenSpec.ofChange serialStretchSpec)

/-- ITS FALSE NEIGHBOUR: 'it returns false'. Refute it at one input. -/
def serialStretchWrong : ChangeSpec := { name := "serialStretch", fn := fun _ => fun
  | [d1, d2, d3] => { results := [.lit (.bool false)], args := [d1, d2, d3] }
  | _ => none }
def SerialStretchWrongFalsely : Prop := serialStretchRow.holds Try.pinned (OpenSpec.ofChange serialStretchWrong)

/-- 'catenarylaw02.SerialOrder': WHATEVER THE INPUT: true; the input reads as it did. -/
def serialOrderSpec : ChangeSpec := { name := "serialOrder", fn := fun _ => fun
  | [d1, d2] => { results := [.lit (.bool true)], args := [d1, d2] }
  | _ => none }
def serialOrderRow : OpenClaim := { program := "ytdfdopegkicnaaa", sum := "d114565e8a6c7a98340fb2aae599da574bb285519797dc3c6d501bc21f94b13f", func := "catenary/catenarylaw02.SerialOrder", spec := "serialOrder", apart := false }
def SerialOrderSaid : Prop := serialOrderRow.holds Try.pinned (OpenSpec.ofChange serialOrderSpec)

/-- ITS FALSE NEIGHBOUR: 'it returns false'. Refute it at one input. -/
def serialOrderWrong : ChangeSpec := { name := "serialOrder", fn := fun _ => fun
  | [d1, d2] => { results := [.lit (.bool false)], args := [d1, d2] }
  | _ => none }
def SerialOrderWrongFalsely : Prop := serialOrderRow.holds Try.pinned (OpenSpec.ofChange serialOrderWrong)

/-- 'catenarylaw02.SerialMoves': WHATEVER THE INPUT: true; the input reads as it did. -/
def serialMovesSpec : ChangeSpec := { name := "serialMoves", fn := fun _ => fun
  | [d1, d2, d3] => { results := [.lit (.bool true)], args := [d1, d2, d3] }
  | _ => none }
def serialMovesRow : OpenClaim := { program := "ytdfdopegkicnaaa", sum := "d114565e8a6c7a98340fb2aae599da574bb285519797dc3c6d501bc21f94b13f", func := "catenary/catenarylaw02.SerialMoves", spec := "serialMoves", apart := false }
def SerialMovesSaid : Prop := serialMovesRow.holds Try.pinned (OpenSpec.ofChange serialMovesSpec)

/-- ITS FALSE NEIGHBOUR: 'it returns false'. Refute it at one input. -/
def serialMovesWrong : ChangeSpec := { name := "serialMoves", fn := fun _ => fun
  | [d1, d2, d3] => { results := [.lit (.bool false)], args := [d1, d2, d3] }
  | _ => none }
def SerialMovesWrongFalsely : Prop := serialMovesRow.holds Try.pinned (OpenSpec.ofChange serialMovesWrong)

/-- 'catenarylaw02.SerialRow': WHATEVER THE INPUT: true; the input reads as it did. -/
def serialRowSpec : ChangeSpec := { name := "serialRow", fn := fun _ => fun
  | [d1, d2] => { results := [.lit (.bool true)], args := [d1, d2] }
  | _ => none }
def serialRowRow : OpenClaim := { program := "ytdfdopegkicnaaa", sum := "d114565e8a6c7a98340fb2aae599da574bb285519797dc3c6d501bc21f94b13f", func := "catenary/catenarylaw02.SerialRow", spec := "serialRow", apart := false }
def SerialRowSaid : Prop := serialRowRow.holds Try.pinned (OpenSpec.ofChange serialRowSpec)

/-- ITS FALSE NEIGHBOUR: 'it returns false'. Refute it at one input. -/
def serialRowWrong : ChangeSpec := { name := "serialRow", fn := fun _ => fun
  | [d1, d2] => { results := [.lit (.bool false)], args := [d1, d2] }
  | _ => none }
def SerialRowWrongFalsely : Prop := serialRowRow.holds Try.pinned (OpenSpec.ofChange serialRowWrong)

/-- 'catenarylaw02.SerialKnown': WHATEVER THE INPUT: true; the input reads as it did. -/
def serialKnownSpec : ChangeSpec := { name := "serialKnown", fn := fun _ => fun
  | [] => { results := [.lit (.bool true)], args := [] }
  | _ => none }
def serialKnownRow : OpenClaim := { program := "ytdfdopegkicnaaa", sum := "d114565e8a6c7a98340fb2aae599da574bb285519797dc3c6d501bc21f94b13f", func := "catenary/catenarylaw02.SerialKnown", spec := "serialKnown", apart := false }
def SerialKnownSaid : Prop := serialKnownRow.holds Try.pinned (OpenSpec.ofChange serialKnownSpec)

/-- ITS FALSE NEIGHBOUR: 'it returns false'. Refute it at one input. -/
def serialKnownWrong : ChangeSpec := { name := "serialKnown", fn := fun _ => fun
  | [] => { results := [.lit (.bool false)], args := [] }
  | _ => none }
def SerialKnownWrongFalsely : Prop := serialKnownRow.holds Try.pinned (OpenSpec.ofChange serialKnownWrong)

/- THE SECOND FORM. 'bulk': how many values and letters a reading holds, each counted each time it is reached (what is shared counts as often as it is met; a slice's spare places count too). A statement '..UptoSaid' is the law's where the arguments, and the package variables that the reading takes, are together of bulk at most 1048576: NARROWER than '..Said'. Prove '..Said' where nothing that the law and all that it calls make is longer than what came in: it says more and counts as full. Else prove '..UptoSaid'. A law counts once. -/
mutual
def uptoBulk {H : Type} : DataW H → Nat
  | .lit (.string bytes) => bytes.length + 1
  | .lit _ => 1
  | .nil => 1
  | .ptr d => uptoBulk d + 1
  | .slice elems spare => uptoBulkAll elems + uptoBulkAll spare + 1
  | .agg parts => uptoBulkAll parts + 1
  | .iface _ d => uptoBulk d + 1
  | .map entries => uptoBulkEntries entries + 1
  | .held _ => 1
def uptoBulkAll {H : Type} : List (DataW H) → Nat
  | [] => 0
  | d :: r => uptoBulk d + uptoBulkAll r
def uptoBulkEntries {H : Type} : List (Lit × DataW H) → Nat
  | [] => 0
  | x :: r => uptoBulkEntry x + uptoBulkEntries r
def uptoBulkEntry {H : Type} : Lit × DataW H → Nat
  | (.string bytes, d) => bytes.length + uptoBulk d + 1
  | (_, d) => uptoBulk d + 1
 end
def uptoSmall : (H : Type) → List (DataW H) → Bool := fun _ ds => decide (uptoBulkAll ds ≤ 1048576)
def OpenSpec.upto (s : _root_.Go.ChangeSpec) : _root_.Go.OpenSpec := { _root_.Go.OpenSpec.ofChange s with cond := some uptoSmall }

/-- 'catenarylaw02.SerialTwo', WHERE WHAT IT READS IS OF BULK AT MOST 1048576: true; the input reads as it did. -/
def serialTwoUptoRow : OpenClaim := { program := "ytdfdopegkicnaaa", sum := "d114565e8a6c7a98340fb2aae599da574bb285519797dc3c6d501bc21f94b13f", func := "catenary/catenarylaw02.SerialTwo", spec := "serialTwo", apart := false, narrowed := true }
def SerialTwoUptoSaid : Prop := serialTwoUptoRow.holds Try.pinned (OpenSpec.upto serialTwoSpec)

/-- 'catenarylaw02.SerialStretch', WHERE WHAT IT READS IS OF BULK AT MOST 1048576: true; the input reads as it did. -/
def serialStretchUptoRow : OpenClaim := { program := "ytdfdopegkicnaaa", sum := "d114565e8a6c7a98340fb2aae599da574bb285519797dc3c6d501bc21f94b13f", func := "catenary/catenarylaw02.SerialStretch", spec := "serialStretch", apart := false, narrowed := true }
def SerialStretchUptoSaid : Prop := serialStretchUptoRow.holds Try.pinned (OpenSpec.upto serialStretchSpec)

/-- 'catenarylaw02.SerialOrder', WHERE WHAT IT READS IS OF BULK AT MOST 1048576: true; the input reads as it did. -/
def serialOrderUptoRow : OpenClaim := { program := "ytdfdopegkicnaaa", sum := "d114565e8a6c7a98340fb2aae599da574bb285519797dc3c6d501bc21f94b13f", func := "catenary/catenarylaw02.SerialOrder", spec := "serialOrder", apart := false, narrowed := true }
def SerialOrderUptoSaid : Prop := serialOrderUptoRow.holds Try.pinned (OpenSpec.upto serialOrderSpec)

/-- 'catenarylaw02.SerialMoves', WHERE WHAT IT READS IS OF BULK AT MOST 1048576: true; the input reads as it did. -/
def serialMovesUptoRow : OpenClaim := { program := "ytdfdopegkicnaaa", sum := "d114565e8a6c7a98340fb2aae599da574bb285519797dc3c6d501bc21f94b13f", func := "catenary/catenarylaw02.SerialMoves", spec := "serialMoves", apart := false, narrowed := true }
def SerialMovesUptoSaid : Prop := serialMovesUptoRow.holds Try.pinned (OpenSpec.upto serialMovesSpec)

/-- 'catenarylaw02.SerialRow', WHERE WHAT IT READS IS OF BULK AT MOST 1048576: true; the input reads as it did. -/
def serialRowUptoRow : OpenClaim := { program := "ytdfdopegkicnaaa", sum := "d114565e8a6c7a98340fb2aae599da574bb285519797dc3c6d501bc21f94b13f", func := "catenary/catenarylaw02.SerialRow", spec := "serialRow", apart := false, narrowed := true }
def SerialRowUptoSaid : Prop := serialRowUptoRow.holds Try.pinned (OpenSpec.upto serialRowSpec)

/-- 'catenarylaw02.SerialKnown', WHERE WHAT IT READS IS OF BULK AT MOST 1048576: true; the input reads as it did. -/
def serialKnownUptoRow : OpenClaim := { program := "ytdfdopegkicnaaa", sum := "d114565e8a6c7a98340fb2aae599da574bb285519797dc3c6d501bc21f94b13f", func := "catenary/catenarylaw02.SerialKnown", spec := "serialKnown", apart := false, narrowed := true }
def SerialKnownUptoSaid : Prop := serialKnownUptoRow.holds Try.pinned (OpenSpec.upto serialKnownSpec)

end Rows
end Go.Proofs.Ytdfdopegkicnaaa
