/- One part of a proof: an evaluator of the model, shown right, and contracts that it yields. No condition beyond those that each theorem names. -/
import Derived.Test.YtbmfcghpppmfgaaGreatDoorZDH
section
set_option linter.unusedSimpArgs false
set_option linter.unusedVariables false
set_option linter.unusedSectionVars false
set_option linter.deprecated false
namespace Go.Z
open Go.X Go.RowKit Go.Proofs
set_option maxRecDepth 1000000
noncomputable section
set_option maxHeartbeats 0 in
theorem begin_0 : (newQ 0 && enterQ 0 && leaveQ 0) = true := by kernel_rfl
end
noncomputable section
set_option maxHeartbeats 0 in
theorem begin_1 : (newQ 1 && enterQ 1 && leaveQ 1) = true := by kernel_rfl
set_option maxHeartbeats 0 in
theorem rounds0_1 : roundsQ 1 0 1 = true := by kernel_rfl
end
noncomputable section
set_option maxHeartbeats 0 in
theorem begin_2 : (newQ 2 && enterQ 2 && leaveQ 2) = true := by kernel_rfl
set_option maxHeartbeats 0 in
theorem rounds0_2 : roundsQ 2 0 2 = true := by kernel_rfl
end
noncomputable section
set_option maxHeartbeats 0 in
theorem begin_3 : (newQ 3 && enterQ 3 && leaveQ 3) = true := by kernel_rfl
set_option maxHeartbeats 0 in
theorem rounds0_3 : roundsQ 3 0 3 = true := by kernel_rfl
end
end Go.Z
end
