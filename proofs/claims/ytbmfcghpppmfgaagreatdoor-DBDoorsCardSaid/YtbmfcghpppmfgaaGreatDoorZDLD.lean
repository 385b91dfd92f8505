/- One part of a proof: an evaluator of the model, shown right, and contracts that it yields. No condition beyond those that each theorem names. -/
import Derived.Test.YtbmfcghpppmfgaaGreatDoorZDH
section
set_option linter.unusedSimpArgs false
set_option linter.unusedVariables false
set_option linter.unusedSectionVars false
set_option linter.deprecated false
namespace Go.Z
open Go.X Go.RowKit Go.Proofs
set_option maxRecDepth 1000000
noncomputable section
set_option maxHeartbeats 0 in
theorem begin_8 : (newQ 8 && enterQ 8 && leaveQ 8) = true := by kernel_rfl
set_option maxHeartbeats 0 in
theorem rounds0_8 : roundsQ 8 0 3 = true := by kernel_rfl
set_option maxHeartbeats 0 in
theorem rounds3_8 : roundsQ 8 3 3 = true := by kernel_rfl
set_option maxHeartbeats 0 in
theorem rounds6_8 : roundsQ 8 6 2 = true := by kernel_rfl
end
end Go.Z
end
