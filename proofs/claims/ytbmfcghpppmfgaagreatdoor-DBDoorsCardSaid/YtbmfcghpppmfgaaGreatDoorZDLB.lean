/- One part of a proof: an evaluator of the model, shown right, and contracts that it yields. No condition beyond those that each theorem names. -/
import Derived.Test.YtbmfcghpppmfgaaGreatDoorZDH
section
set_option linter.unusedSimpArgs false
set_option linter.unusedVariables false
set_option linter.unusedSectionVars false
set_option linter.deprecated false
namespace Go.Z
open Go.X Go.RowKit Go.Proofs
set_option maxRecDepth 1000000
noncomputable section
set_option maxHeartbeats 0 in
theorem begin_4 : (newQ 4 && enterQ 4 && leaveQ 4) = true := by kernel_rfl
set_option maxHeartbeats 0 in
theorem rounds0_4 : roundsQ 4 0 3 = true := by kernel_rfl
set_option maxHeartbeats 0 in
theorem rounds3_4 : roundsQ 4 3 1 = true := by kernel_rfl
end
noncomputable section
set_option maxHeartbeats 0 in
theorem begin_5 : (newQ 5 && enterQ 5 && leaveQ 5) = true := by kernel_rfl
set_option maxHeartbeats 0 in
theorem rounds0_5 : roundsQ 5 0 3 = true := by kernel_rfl
set_option maxHeartbeats 0 in
theorem rounds3_5 : roundsQ 5 3 2 = true := by kernel_rfl
end
end Go.Z
end
