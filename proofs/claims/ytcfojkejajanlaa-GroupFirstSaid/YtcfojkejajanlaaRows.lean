/-
  No cell of these rows narrows 'for every input' (looked for: loops, veiled, ifaces, maps, wideKeys, modest, calm, conditions, laid).
  DERIVED. THE GIVEN ROWS OF THIS SEAT. 3 by the template 'for every input the law returns true; each argument reads behind the call as it read before'; 0 by the template 'total and deterministic' (their statements: YtcfojkejajanlaaTotals.lean).
  GIVEN WITH THE SEED: the statements are not yours to turn. If you find one false, say at which input.
  Laid BY PROGRAM, IN A SANDBOX (cutbox-rows.mjs): the forced cells as the released guide's own fill.sh prints them over the translation 2bed49caf12f4f4d… (all of the seat's roots in one cut). By AI agents, Wed Nov 11 2026. No macro, syntax, notation, axiom, sorry.
-/
import Derived.Test.YtcfojkejajanlaaChecked
import GoSem.Claim
import GoSem.ClaimJoined
import GoSem.ClaimMapViews
import Derived.JoinedTies
import Derived.KernelRfl
namespace Go.Proofs.Ytcfojkejajanlaa
/- THE CELL 'sum', in the pinned program and in every row, IS THE sha256 OF THE DUMP (.gsa) THAT YtcfojkejajanlaaProg.lean LOADS. Nothing in Lean hashes anything: it is a label: what it is worth is what the hold of that sum in a sandbox is worth. -/
noncomputable def Try.pinned : Pinned := { name := "ytcfojkejajanlaa", sum := "2bed49caf12f4f4d2411070f16b0c653ee90a2733ff3056b25d877c49acabea2", checked := Try.checked }
namespace Rows
def none {H : Type} : Left H := { results := [], args := [] }

/-- 'catenarylaw10.GroupPlays': WHATEVER THE INPUT: true; the input reads as it did. -/
def groupPlaysSpec : ChangeSpec := { name := "groupPlays", fn := fun _ => fun
  | [d1, d2] => { results := [.lit (.bool true)], args := [d1, d2] }
  | _ => none }
def groupPlaysRow : OpenClaim := { program := "ytcfojkejajanlaa", sum := "2bed49caf12f4f4d2411070f16b0c653ee90a2733ff3056b25d877c49acabea2", func := "catenary/catenarylaw10.GroupPlays", spec := "groupPlays", apart := false }
def GroupPlaysSaid : Prop := groupPlaysRow.holds Try.pinned (OpenSpec.ofChange groupPlaysSpec)

/-- ITS FALSE NEIGHBOUR: 'it returns false'. Refute it at one input. -/
def groupPlaysWrong : ChangeSpec := { name := "groupPlays", fn := fun _ => fun
  | [d1, d2] => { results := [.lit (.bool false)], args := [d1, d2] }
  | _ => none }
def GroupPlaysWrongFalsely : Prop := groupPlaysRow.holds Try.pinned (OpenSpec.ofChange groupPlaysWrong)

/-- 'catenarylaw10.GroupFirst': WHATEVER THE INPUT: true; the input reads as it did. -/
def groupFirstSpec : ChangeSpec := { name := "groupFirst", fn := fun _ => fun
  | [d1, d2, d3] => { results := [.lit (.bool true)], args := [d1, d2, d3] }
  | _ => none }
def groupFirstRow : OpenClaim := { program := "ytcfojkejajanlaa", sum := "2bed49caf12f4f4d2411070f16b0c653ee90a2733ff3056b25d877c49acabea2", func := "catenary/catenarylaw10.GroupFirst", spec := "groupFirst", apart := false }
def GroupFirstSaid : Prop := groupFirstRow.holds Try.pinned (OpenSpec.ofChange groupFirstSpec)

/-- ITS FALSE NEIGHBOUR: 'it returns false'. Refute it at one input. -/
def groupFirstWrong : ChangeSpec := { name := "groupFirst", fn := fun _ => fun
  | [d1, d2, d3] => { results := [.lit (.bool false)], args := [d1, d2, d3] }
  | _ => none }
def GroupFirstWrongFalsely : Prop := groupFirstRow.holds Try.pinned (OpenSpec.ofChange groupFirstWrong)

/-- 'catenarylaw10.GroupKnown': WHATEVER THE INPUT: true; the input reads as it did. -/
def groupKnownSpec : ChangeSpec := { name := "groupKnown", fn := fun _ => fun
  | [] => { results := [.lit (.bool true)], args := [] }
  | _ => none }
def groupKnownRow : OpenClaim := { program := "ytcfojkejajanlaa", sum := "2bed49caf12f4f4d2411070f16b0c653ee90a2733ff3056b25d877c49acabea2", func := "catenary/catenarylaw10.GroupKnown", spec := "groupKnown", apart := false }
def GroupKnownSaid : Prop := groupKnownRow.holds Try.pinned (OpenSpec.ofChange groupKnownSpec)

/-- ITS FALSE NEIGHBOUR: 'it returns false'. Refute it at one input. -/
def groupKnownWrong : ChangeSpec := { name := "groupKnown", fn := fun _ => fun
  | [] => { results := [.lit (.bool false)], args := [] }
  | _ => none }
def GroupKnownWrongFalsely : Prop := groupKnownRow.holds Try.pinned (OpenSpec.ofChange groupKnownWrong)

/- THE SECOND FORM. 'bulk': how many values and letters a reading holds, each counted each time it is reached (what is shared counts as often as it is met; a slice's spare places count too). A statement '..UptoSaid' is the law's where the arguments, and the package variables that the reading takes, are together of bulk at most 1048576: NARROWER than '..Said'. Prove '..Said' where nothing that the law and all that it calls make is longer than what came in: it says more and counts as full. Else prove '..UptoSaid'. A law counts once. -/
mutual
def uptoBulk {H : Type} : DataW H → Nat
  | .lit (.string bytes) => bytes.length + 1
  | .lit _ => 1
  | .nil => 1
  | .ptr d => uptoBulk d + 1
  | .slice elems spare => uptoBulkAll elems + uptoBulkAll spare + 1
  | .agg parts => uptoBulkAll parts + 1
  | .iface _ d => uptoBulk d + 1
  | .map entries => uptoBulkEntries entries + 1
  | .held _ => 1
def uptoBulkAll {H : Type} : List (DataW H) → Nat
  | [] => 0
  | d :: r => uptoBulk d + uptoBulkAll r
def uptoBulkEntries {H : Type} : List (Lit × DataW H) → Nat
  | [] => 0
  | x :: r => uptoBulkEntry x + uptoBulkEntries r
def uptoBulkEntry {H : Type} : Lit × DataW H → Nat
  | (.string bytes, d) => bytes.length + uptoBulk d + 1
  | (_, d) => uptoBulk d + 1
 end
def uptoSmall : (H : Type) → List (DataW H) → Bool := fun _ ds => decide (uptoBulkAll ds ≤ 1048576)
def OpenSpec.upto (s : _root_.Go.ChangeSpec) : _root_.Go.OpenSpec := { _root_.Go.OpenSpec.ofChange s with cond := some uptoSmall }

/-- 'catenarylaw10.GroupPlays', WHERE WHAT IT READS IS OF BULK AT MOST 1048576: true; the input reads as it did. -/
def groupPlaysUptoRow : OpenClaim := { program := "ytcfojkejajanlaa", sum := "2bed49caf12f4f4d2411070f16b0c653ee90a2733ff3056b25d877c49acabea2", func := "catenary/catenarylaw10.GroupPlays", spec := "groupPlays", apart := false, narrowed := true }
def GroupPlaysUptoSaid : Prop := groupPlaysUptoRow.holds Try.pinned (OpenSpec.upto groupPlaysSpec)

/-- 'catenarylaw10.GroupFirst', WHERE WHAT IT READS IS OF BULK AT MOST 1048576: true; the input reads as it did. -/
def groupFirstUptoRow : OpenClaim := { program := "ytcfojkejajanlaa", sum := "2bed49caf12f4f4d2411070f16b0c653ee90a2733ff3056b25d877c49acabea2", func := "catenary/catenarylaw10.GroupFirst", spec := "groupFirst", apart := false, narrowed := true }
def GroupFirstUptoSaid : Prop := groupFirstUptoRow.holds Try.pinned (OpenSpec.upto groupFirstSpec)

/-- 'catenarylaw10.GroupKnown', WHERE WHAT IT READS IS OF BULK AT MOST 1048576: true; the input reads as it did. -/
def groupKnownUptoRow : OpenClaim := { program := "ytcfojkejajanlaa", sum := "2bed49caf12f4f4d2411070f16b0c653ee90a2733ff3056b25d877c49acabea2", func := "catenary/catenarylaw10.GroupKnown", spec := "groupKnown", apart := false, narrowed := true }
def GroupKnownUptoSaid : Prop := groupKnownUptoRow.holds Try.pinned (OpenSpec.upto groupKnownSpec)

end Rows
end Go.Proofs.Ytcfojkejajanlaa
