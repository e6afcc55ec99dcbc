-- PRINTED BY print.sh 35421559b90ae4d0a3588c463048766b98c2df88dd9212a6774a882060cdf62d: not written by this session
import Derived.Test.YtdfdopegkicnaaaProg
import Derived.Below
import Derived.Deep.Draws
import Derived.Deep.AppendLies
import Derived.Maps.AppendAt
import Derived.OwnWalk
import Derived.Laws.BytesArg
import Derived.Laws.MakeOwn
import Derived.Laws.OwnMore
import Derived.Deep.OwnRows
import Derived.Tactics
import Derived.Lib.ConvBytes
import Derived.Laws.Slices
import Derived.WalkKit
import Derived.KernelRfl
import Derived.RowKit3
import Derived.Deep.LoopGhost
import Derived.Deep.QuietTactic
import Derived.BigQuiet
import Derived.WideLaws
import Derived.Deep.DeepCutAuto
import Derived.Deep.CutBlock
import Derived.Deep.RegionHeld3
import Derived.Laws.Rows
import Derived.Lib.AppendStr
import Derived.ArgAppend
import Derived.Laws.IdiomCopy
import Derived.OrdersHeld
import Derived.Laws.BitsLemmas
import Derived.RowKit
import Derived.Test.YtdfdopegkicnaaaWWords
import Derived.Test.YtdfdopegkicnaaaWLast
import Derived.Test.YtdfdopegkicnaaaWTab
import Derived.Test.YtdfdopegkicnaaaWFour
import Derived.Test.YtdfdopegkicnaaaWQPut
import Derived.Test.YtdfdopegkicnaaaWApart
import Derived.Test.YtdfdopegkicnaaaWArr
import Derived.Test.YtdfdopegkicnaaaWZeros
import Derived.Test.YtdfdopegkicnaaaWFoot
import Derived.Test.YtdfdopegkicnaaaWKept
import Derived.Test.YtdfdopegkicnaaaWShare
import Derived.Test.YtdfdopegkicnaaaWN
import Derived.Test.YtdfdopegkicnaaaWFootNe
import Derived.Test.YtdfdopegkicnaaaWAt
import Derived.Test.YtdfdopegkicnaaaWEqStruct
import Derived.Test.YtdfdopegkicnaaaWRepsOne
import Derived.Test.YtdfdopegkicnaaaWInv
import Derived.Test.YtdfdopegkicnaaaWInvWords
import Derived.Test.YtdfdopegkicnaaaWGuard
import Derived.Test.YtdfdopegkicnaaaWNEv
import Derived.Test.YtdfdopegkicnaaaWMore
namespace Go.Proofs.Ytdfdopegkicnaaa.PSerialRow
open Go.RowKit Go.Proofs.YtdfdopegkicnaaaW.PrintWords Go.Proofs.YtdfdopegkicnaaaW.PrintLast Go.Proofs.YtdfdopegkicnaaaW.PrintMore
attribute [local go_sem] max2_int min2_int max_two min_two max_three min_three max_four min_four   -- for this text's walks alone
set_option linter.unusedVariables false
set_option linter.unusedSimpArgs false



def errW : Option Int → Value
  | none => .nilIface
  | some c => .iface 0 (.int .i64 c)
theorem errW_none : errW none = .nilIface := rfl
theorem errW_some (c : Int) : errW (some c) = .iface 0 (.int .i64 c) := rfl

-- the values' own types

end Go.Proofs.Ytdfdopegkicnaaa.PSerialRow
