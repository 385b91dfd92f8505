/- One part of a proof: an evaluator of the model, shown right, and contracts that it yields. No condition beyond those that each theorem names. -/
import Derived.Test.YtbmfcghpppmfgaaGreatDoorZCQ
section
set_option linter.unusedSimpArgs false
set_option linter.unusedVariables false
set_option linter.unusedSectionVars false
set_option linter.deprecated false
namespace Go.Z
open Go.X Go.RowKit Go.Proofs
set_option maxRecDepth 1000000
noncomputable section
set_option maxHeartbeats 0 in
theorem creates_1_pre : preQ 1 false = true := by kernel_rfl
set_option maxHeartbeats 0 in
theorem creates_1_sufA : sufFrom 1 false 0 9 = true := by kernel_rfl
set_option maxHeartbeats 0 in
theorem creates_1_sufB : sufFrom 1 false 9 9 = true := by kernel_rfl
set_option maxHeartbeats 0 in
theorem creates_1_sufC : sufFrom 1 false 18 8 = true := by kernel_rfl
theorem creates_1_f : partsC 1 false = true := partsC_of creates_1_pre creates_1_sufA creates_1_sufB creates_1_sufC
set_option maxHeartbeats 0 in
theorem creates_1_t : partsC 1 true = true := by kernel_rfl
end
end Go.Z
end
