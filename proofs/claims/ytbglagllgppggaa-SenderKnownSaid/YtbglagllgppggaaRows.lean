/-
  No cell of these rows narrows 'for every input' (looked for: loops, veiled, ifaces, maps, wideKeys, modest, calm, conditions, laid).
  DERIVED. THE GIVEN ROWS OF THIS SEAT. 4 by the template 'for every input the law returns true; each argument reads behind the call as it read before'; 0 by the template 'total and deterministic' (their statements: YtbglagllgppggaaTotals.lean).
  GIVEN WITH THE SEED: the statements are not yours to turn. If you find one false, say at which input.
  Laid BY PROGRAM, IN A SANDBOX (cutbox-rows.mjs): the forced cells as the released guide's own fill.sh prints them over the translation d97e4d94902ec5f9… (all of the seat's roots in one cut). By AI agents, Wed Nov 11 2026. No macro, syntax, notation, axiom, sorry.
-/
import Derived.Test.YtbglagllgppggaaChecked
import GoSem.Claim
import GoSem.ClaimJoined
import GoSem.ClaimMapViews
import Derived.JoinedTies
import Derived.KernelRfl
namespace Go.Proofs.Ytbglagllgppggaa
/- THE CELL 'sum', in the pinned program and in every row, IS THE sha256 OF THE DUMP (.gsa) THAT YtbglagllgppggaaProg.lean LOADS. Nothing in Lean hashes anything: it is a label: what it is worth is what the hold of that sum in a sandbox is worth. -/
noncomputable def Try.pinned : Pinned := { name := "ytbglagllgppggaa", sum := "d97e4d94902ec5f922d86f580d01734a0a6e9edb17e5da5a9501ff2aec696747", checked := Try.checked }
namespace Rows
def none {H : Type} : Left H := { results := [], args := [] }

/-- 'catenarylaw13.SenderOnce': WHATEVER THE INPUT: true; the input reads as it did. -/
def senderOnceSpec : ChangeSpec := { name := "senderOnce", fn := fun _ => fun
  | [d1, d2, d3] => { results := [.lit (.bool true)], args := [d1, d2, d3] }
  | _ => none }
def senderOnceRow : OpenClaim := { program := "ytbglagllgppggaa", sum := "d97e4d94902ec5f922d86f580d01734a0a6e9edb17e5da5a9501ff2aec696747", func := "catenary/catenarylaw13.SenderOnce", spec := "senderOnce", apart := false }
def SenderOnceSaid : Prop := senderOnceRow.holds Try.pinned (OpenSpec.ofChange senderOnceSpec)

/-- ITS FALSE NEIGHBOUR: 'it returns false'. Refute it at one input. -/
def senderOnceWrong : ChangeSpec := { name := "senderOnce", fn := fun _ => fun
  | [d1, d2, d3] => { results := [.lit (.bool false)], args := [d1, d2, d3] }
  | _ => none }
def SenderOnceWrongFalsely : Prop := senderOnceRow.holds Try.pinned (OpenSpec.ofChange senderOnceWrong)

/-- 'catenarylaw13.SenderKnown': WHATEVER THE INPUT: true; the input reads as it did. -/
def senderKnownSpec : ChangeSpec := { name := "senderKnown", fn := fun _ => fun
  | [] => { results := [.lit (.bool true)], args := [] }
  | _ => none }
def senderKnownRow : OpenClaim := { program := "ytbglagllgppggaa", sum := "d97e4d94902ec5f922d86f580d01734a0a6e9edb17e5da5a9501ff2aec696747", func := "catenary/catenarylaw13.SenderKnown", spec := "senderKnown", apart := false }
def SenderKnownSaid : Prop := senderKnownRow.holds Try.pinned (OpenSpec.ofChange senderKnownSpec)

/-- ITS FALSE NEIGHBOUR: 'it returns false'. Refute it at one input. -/
def senderKnownWrong : ChangeSpec := { name := "senderKnown", fn := fun _ => fun
  | [] => { results := [.lit (.bool false)], args := [] }
  | _ => none }
def SenderKnownWrongFalsely : Prop := senderKnownRow.holds Try.pinned (OpenSpec.ofChange senderKnownWrong)

/-- 'catenarylaw13.SenderFull': WHATEVER THE INPUT: true; the input reads as it did. -/
def senderFullSpec : ChangeSpec := { name := "senderFull", fn := fun _ => fun
  | [d] => { results := [.lit (.bool true)], args := [d] }
  | _ => none }
def senderFullRow : OpenClaim := { program := "ytbglagllgppggaa", sum := "d97e4d94902ec5f922d86f580d01734a0a6e9edb17e5da5a9501ff2aec696747", func := "catenary/catenarylaw13.SenderFull", spec := "senderFull", apart := false }
def SenderFullSaid : Prop := senderFullRow.holds Try.pinned (OpenSpec.ofChange senderFullSpec)

/-- ITS FALSE NEIGHBOUR: 'it returns false'. Refute it at one input. -/
def senderFullWrong : ChangeSpec := { name := "senderFull", fn := fun _ => fun
  | [d] => { results := [.lit (.bool false)], args := [d] }
  | _ => none }
def SenderFullWrongFalsely : Prop := senderFullRow.holds Try.pinned (OpenSpec.ofChange senderFullWrong)

/-- 'catenarylaw13.SenderPlays': WHATEVER THE INPUT: true; the input reads as it did. -/
def senderPlaysSpec : ChangeSpec := { name := "senderPlays", fn := fun _ => fun
  | [d1, d2, d3] => { results := [.lit (.bool true)], args := [d1, d2, d3] }
  | _ => none }
def senderPlaysRow : OpenClaim := { program := "ytbglagllgppggaa", sum := "d97e4d94902ec5f922d86f580d01734a0a6e9edb17e5da5a9501ff2aec696747", func := "catenary/catenarylaw13.SenderPlays", spec := "senderPlays", apart := false }
def SenderPlaysSaid : Prop := senderPlaysRow.holds Try.pinned (OpenSpec.ofChange senderPlaysSpec)

/-- ITS FALSE NEIGHBOUR: 'it returns false'. Refute it at one input. -/
def senderPlaysWrong : ChangeSpec := { name := "senderPlays", fn := fun _ => fun
  | [d1, d2, d3] => { results := [.lit (.bool false)], args := [d1, d2, d3] }
  | _ => none }
def SenderPlaysWrongFalsely : Prop := senderPlaysRow.holds Try.pinned (OpenSpec.ofChange senderPlaysWrong)

/- THE SECOND FORM. 'bulk': how many values and letters a reading holds, each counted each time it is reached (what is shared counts as often as it is met; a slice's spare places count too). A statement '..UptoSaid' is the law's where the arguments, and the package variables that the reading takes, are together of bulk at most 1048576: NARROWER than '..Said'. Prove '..Said' where nothing that the law and all that it calls make is longer than what came in: it says more and counts as full. Else prove '..UptoSaid'. A law counts once. -/
mutual
def uptoBulk {H : Type} : DataW H → Nat
  | .lit (.string bytes) => bytes.length + 1
  | .lit _ => 1
  | .nil => 1
  | .ptr d => uptoBulk d + 1
  | .slice elems spare => uptoBulkAll elems + uptoBulkAll spare + 1
  | .agg parts => uptoBulkAll parts + 1
  | .iface _ d => uptoBulk d + 1
  | .map entries => uptoBulkEntries entries + 1
  | .held _ => 1
def uptoBulkAll {H : Type} : List (DataW H) → Nat
  | [] => 0
  | d :: r => uptoBulk d + uptoBulkAll r
def uptoBulkEntries {H : Type} : List (Lit × DataW H) → Nat
  | [] => 0
  | x :: r => uptoBulkEntry x + uptoBulkEntries r
def uptoBulkEntry {H : Type} : Lit × DataW H → Nat
  | (.string bytes, d) => bytes.length + uptoBulk d + 1
  | (_, d) => uptoBulk d + 1
 end
def uptoSmall : (H : Type) → List (DataW H) → Bool := fun _ ds => decide (uptoBulkAll ds ≤ 1048576)
def OpenSpec.upto (s : _root_.Go.ChangeSpec) : _root_.Go.OpenSpec := { _root_.Go.OpenSpec.ofChange s with cond := some uptoSmall }

/-- 'catenarylaw13.SenderOnce', WHERE WHAT IT READS IS OF BULK AT MOST 1048576: true; the input reads as it did. -/
def senderOnceUptoRow : OpenClaim := { program := "ytbglagllgppggaa", sum := "d97e4d94902ec5f922d86f580d01734a0a6e9edb17e5da5a9501ff2aec696747", func := "catenary/catenarylaw13.SenderOnce", spec := "senderOnce", apart := false, narrowed := true }
def SenderOnceUptoSaid : Prop := senderOnceUptoRow.holds Try.pinned (OpenSpec.upto senderOnceSpec)

/-- 'catenarylaw13.SenderKnown', WHERE WHAT IT READS IS OF BULK AT MOST 1048576: true; the input reads as it did. -/
def senderKnownUptoRow : OpenClaim := { program := "ytbglagllgppggaa", sum := "d97e4d94902ec5f922d86f580d01734a0a6e9edb17e5da5a9501ff2aec696747", func := "catenary/catenarylaw13.SenderKnown", spec := "senderKnown", apart := false, narrowed := true }
def SenderKnownUptoSaid : Prop := senderKnownUptoRow.holds Try.pinned (OpenSpec.upto senderKnownSpec)

/-- 'catenarylaw13.SenderFull', WHERE WHAT IT READS IS OF BULK AT MOST 1048576: true; the input reads as it did. -/
def senderFullUptoRow : OpenClaim := { program := "ytbglagllgppggaa", sum := "d97e4d94902ec5f922d86f580d01734a0a6e9edb17e5da5a9501ff2aec696747", func := "catenary/catenarylaw13.SenderFull", spec := "senderFull", apart := false, narrowed := true }
def SenderFullUptoSaid : Prop := senderFullUptoRow.holds Try.pinned (OpenSpec.upto senderFullSpec)

/-- 'catenarylaw13.SenderPlays', WHERE WHAT IT READS IS OF BULK AT MOST 1048576: true; the input reads as it did. -/
def senderPlaysUptoRow : OpenClaim := { program := "ytbglagllgppggaa", sum := "d97e4d94902ec5f922d86f580d01734a0a6e9edb17e5da5a9501ff2aec696747", func := "catenary/catenarylaw13.SenderPlays", spec := "senderPlays", apart := false, narrowed := true }
def SenderPlaysUptoSaid : Prop := senderPlaysUptoRow.holds Try.pinned (OpenSpec.upto senderPlaysSpec)

end Rows
end Go.Proofs.Ytbglagllgppggaa
