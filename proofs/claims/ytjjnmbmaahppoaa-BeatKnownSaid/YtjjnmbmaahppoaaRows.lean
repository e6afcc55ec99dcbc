/-
  No cell of these rows narrows 'for every input' (looked for: loops, veiled, ifaces, maps, wideKeys, modest, calm, conditions, laid).
  DERIVED. THE GIVEN ROWS OF THIS SEAT. 3 by the template 'for every input the law returns true; each argument reads behind the call as it read before'; 0 by the template 'total and deterministic' (their statements: YtjjnmbmaahppoaaTotals.lean).
  GIVEN WITH THE SEED: the statements are not yours to turn. If you find one false, say at which input.
  Laid BY PROGRAM, IN A SANDBOX (cutbox-rows.mjs): the forced cells as the released guide's own fill.sh prints them over the translation c3e008d05d4cd492… (all of the seat's roots in one cut). By AI agents, Wed Nov 11 2026. No macro, syntax, notation, axiom, sorry.
-/
import Derived.Test.YtjjnmbmaahppoaaChecked
import GoSem.Claim
import GoSem.ClaimJoined
import GoSem.ClaimMapViews
import Derived.JoinedTies
import Derived.KernelRfl
namespace Go.Proofs.Ytjjnmbmaahppoaa
/- THE CELL 'sum', in the pinned program and in every row, IS THE sha256 OF THE DUMP (.gsa) THAT YtjjnmbmaahppoaaProg.lean LOADS. Nothing in Lean hashes anything: it is a label: what it is worth is what the hold of that sum in a sandbox is worth. -/
noncomputable def Try.pinned : Pinned := { name := "ytjjnmbmaahppoaa", sum := "c3e008d05d4cd492158e038d2e1980b0227890c7330bc6a8ed1ca4b55c4c7485", checked := Try.checked }
namespace Rows
def none {H : Type} : Left H := { results := [], args := [] }

/-- 'catenarylaw15.BeatWaits': WHATEVER THE INPUT: true; the input reads as it did. -/
def beatWaitsSpec : ChangeSpec := { name := "beatWaits", fn := fun _ => fun
  | [d1, d2, d3] => { results := [.lit (.bool true)], args := [d1, d2, d3] }
  | _ => none }
def beatWaitsRow : OpenClaim := { program := "ytjjnmbmaahppoaa", sum := "c3e008d05d4cd492158e038d2e1980b0227890c7330bc6a8ed1ca4b55c4c7485", func := "catenary/catenarylaw15.BeatWaits", spec := "beatWaits", unfollowed := true, recurses := true, apart := false }
def BeatWaitsSaid : Prop := beatWaitsRow.holds Try.pinned (OpenSpec.ofChange beatWaitsSpec)

/-- ITS FALSE NEIGHBOUR: 'it returns false'. Refute it at one input. -/
def beatWaitsWrong : ChangeSpec := { name := "beatWaits", fn := fun _ => fun
  | [d1, d2, d3] => { results := [.lit (.bool false)], args := [d1, d2, d3] }
  | _ => none }
def BeatWaitsWrongFalsely : Prop := beatWaitsRow.holds Try.pinned (OpenSpec.ofChange beatWaitsWrong)

/-- 'catenarylaw15.BeatFew': WHATEVER THE INPUT: true; the input reads as it did. -/
def beatFewSpec : ChangeSpec := { name := "beatFew", fn := fun _ => fun
  | [d1, d2, d3] => { results := [.lit (.bool true)], args := [d1, d2, d3] }
  | _ => none }
def beatFewRow : OpenClaim := { program := "ytjjnmbmaahppoaa", sum := "c3e008d05d4cd492158e038d2e1980b0227890c7330bc6a8ed1ca4b55c4c7485", func := "catenary/catenarylaw15.BeatFew", spec := "beatFew", unfollowed := true, recurses := true, apart := false }
def BeatFewSaid : Prop := beatFewRow.holds Try.pinned (OpenSpec.ofChange beatFewSpec)

/-- ITS FALSE NEIGHBOUR: 'it returns false'. Refute it at one input. -/
def beatFewWrong : ChangeSpec := { name := "beatFew", fn := fun _ => fun
  | [d1, d2, d3] => { results := [.lit (.bool false)], args := [d1, d2, d3] }
  | _ => none }
def BeatFewWrongFalsely : Prop := beatFewRow.holds Try.pinned (OpenSpec.ofChange beatFewWrong)

/-- 'catenarylaw15.BeatKnown': WHATEVER THE INPUT: true; the input reads as it did. -/
def beatKnownSpec : ChangeSpec := { name := "beatKnown", fn := fun _ => fun
  | [] => { results := [.lit (.bool true)], args := [] }
  | _ => none }
def beatKnownRow : OpenClaim := { program := "ytjjnmbmaahppoaa", sum := "c3e008d05d4cd492158e038d2e1980b0227890c7330bc6a8ed1ca4b55c4c7485", func := "catenary/catenarylaw15.BeatKnown", spec := "beatKnown", unfollowed := true, recurses := true, apart := false }
def BeatKnownSaid : Prop := beatKnownRow.holds Try.pinned (OpenSpec.ofChange beatKnownSpec)

/-- ITS FALSE NEIGHBOUR: 'it returns false'. Refute it at one input. -/
def beatKnownWrong : ChangeSpec := { name := "beatKnown", fn := fun _ => fun
  | [] => { results := [.lit (.bool false)], args := [] }
  | _ => none }
def BeatKnownWrongFalsely : Prop := beatKnownRow.holds Try.pinned (OpenSpec.ofChange beatKnownWrong)

/- THE SECOND FORM. 'bulk': how many values and letters a reading holds, each counted each time it is reached (what is shared counts as often as it is met; a slice's spare places count too). A statement '..UptoSaid' is the law's where the arguments, and the package variables that the reading takes, are together of bulk at most 1048576: NARROWER than '..Said'. Prove '..Said' where nothing that the law and all that it calls make is longer than what came in: it says more and counts as full. Else prove '..UptoSaid'. A law counts once. -/
mutual
def uptoBulk {H : Type} : DataW H → Nat
  | .lit (.string bytes) => bytes.length + 1
  | .lit _ => 1
  | .nil => 1
  | .ptr d => uptoBulk d + 1
  | .slice elems spare => uptoBulkAll elems + uptoBulkAll spare + 1
  | .agg parts => uptoBulkAll parts + 1
  | .iface _ d => uptoBulk d + 1
  | .map entries => uptoBulkEntries entries + 1
  | .held _ => 1
def uptoBulkAll {H : Type} : List (DataW H) → Nat
  | [] => 0
  | d :: r => uptoBulk d + uptoBulkAll r
def uptoBulkEntries {H : Type} : List (Lit × DataW H) → Nat
  | [] => 0
  | x :: r => uptoBulkEntry x + uptoBulkEntries r
def uptoBulkEntry {H : Type} : Lit × DataW H → Nat
  | (.string bytes, d) => bytes.length + uptoBulk d + 1
  | (_, d) => uptoBulk d + 1
 end
def uptoSmall : (H : Type) → List (DataW H) → Bool := fun _ ds => decide (uptoBulkAll ds ≤ 1048576)
def OpenSpec.upto (s : _root_.Go.ChangeSpec) : _root_.Go.OpenSpec := { _root_.Go.OpenSpec.ofChange s with cond := some uptoSmall }

/-- 'catenarylaw15.BeatWaits', WHERE WHAT IT READS IS OF BULK AT MOST 1048576: true; the input reads as it did. -/
def beatWaitsUptoRow : OpenClaim := { program := "ytjjnmbmaahppoaa", sum := "c3e008d05d4cd492158e038d2e1980b0227890c7330bc6a8ed1ca4b55c4c7485", func := "catenary/catenarylaw15.BeatWaits", spec := "beatWaits", unfollowed := true, recurses := true, apart := false, narrowed := true }
def BeatWaitsUptoSaid : Prop := beatWaitsUptoRow.holds Try.pinned (OpenSpec.upto beatWaitsSpec)

/-- 'catenarylaw15.BeatFew', WHERE WHAT IT READS IS OF BULK AT MOST 1048576: true; the input reads as it did. -/
def beatFewUptoRow : OpenClaim := { program := "ytjjnmbmaahppoaa", sum := "c3e008d05d4cd492158e038d2e1980b0227890c7330bc6a8ed1ca4b55c4c7485", func := "catenary/catenarylaw15.BeatFew", spec := "beatFew", unfollowed := true, recurses := true, apart := false, narrowed := true }
def BeatFewUptoSaid : Prop := beatFewUptoRow.holds Try.pinned (OpenSpec.upto beatFewSpec)

/-- 'catenarylaw15.BeatKnown', WHERE WHAT IT READS IS OF BULK AT MOST 1048576: true; the input reads as it did. -/
def beatKnownUptoRow : OpenClaim := { program := "ytjjnmbmaahppoaa", sum := "c3e008d05d4cd492158e038d2e1980b0227890c7330bc6a8ed1ca4b55c4c7485", func := "catenary/catenarylaw15.BeatKnown", spec := "beatKnown", unfollowed := true, recurses := true, apart := false, narrowed := true }
def BeatKnownUptoSaid : Prop := beatKnownUptoRow.holds Try.pinned (OpenSpec.upto beatKnownSpec)

end Rows
end Go.Proofs.Ytjjnmbmaahppoaa
