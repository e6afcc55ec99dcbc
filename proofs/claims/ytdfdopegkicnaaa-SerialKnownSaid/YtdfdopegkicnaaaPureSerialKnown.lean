/- SerialKnown: the closed statement of layer 2: at both ends of all, SerialTwo and SerialStretch answer true. No condition. -/
import Derived.Test.YtdfdopegkicnaaaPSerialKnownx2
namespace Go.Proofs.Ytdfdopegkicnaaa.Pure
open Go.RowKit Go.Proofs.Ytdfdopegkicnaaa.PSerialKnown Go.Proofs.YtdfdopegkicnaaaW.PrintWords Go.Proofs.YtdfdopegkicnaaaW.PrintLast

theorem SerialKnown : catenarylaw02_SerialKnown.Pure := by
  refine ⟨1200, ?_⟩
  decide +kernel

end Go.Proofs.Ytdfdopegkicnaaa.Pure
