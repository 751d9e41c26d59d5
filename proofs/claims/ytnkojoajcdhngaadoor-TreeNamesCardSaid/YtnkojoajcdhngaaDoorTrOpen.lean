/- Layer 8: how what comes in reads. -/
import Derived.Test.YtnkojoajcdhngaaDoorRows
import Derived.Test.YtnkojoajcdhngaaDoorTr32
import Derived.PinnedBridge
import Derived.ProofKit
import Derived.OpenShut
import Derived.ChangeOld
import Derived.Carry
namespace Go.Proofs.YtnkojoajcdhngaaDoor
set_option linter.unusedVariables false
set_option linter.unusedSimpArgs false
set_option maxRecDepth 100000
open Go.ChangeShapes Go.WideShapes Go.ChangeAt Go.RowKit

theorem own : ownKnob Tryd.prog.godebug = none := by kernel_rfl
theorem laidOut : laidOutB Tryd.prog = true := by kernel_rfl
end Go.Proofs.YtnkojoajcdhngaaDoor
