/- One part of a proof: an evaluator of the model, shown right, and contracts that it yields. No condition beyond those that each theorem names. -/
import Derived.Test.YtbmfcghpppmfgaaGreatDoorZEF
section
set_option linter.unusedSimpArgs false
set_option linter.unusedVariables false
set_option linter.unusedSectionVars false
set_option linter.deprecated false
/-! # runs of DBWaits, 0 -/
namespace Go.Z
set_option maxRecDepth 100000
set_option maxHeartbeats 0 in
theorem waits_0_f : waitsQ 0 false = true := by kernel_rfl
set_option maxHeartbeats 0 in
theorem waits_0_t : waitsQ 0 true = true := by kernel_rfl
end Go.Z
end
