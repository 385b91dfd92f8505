/- One part of a proof: an evaluator of the model, shown right, and contracts that it yields. No condition beyond those that each theorem names. -/
import Derived.Test.YtnhllgedoimhkaaGreatDoorCards
import Derived.SevenTiedAt
import Derived.Test.YtnhllgedoimhkaaGreatDoorZGO
set_option linter.unusedSimpArgs false
set_option linter.unusedVariables false
set_option linter.unusedSectionVars false
set_option linter.deprecated false
section
namespace Go.Proofs.YtnhllgedoimhkaaGreatDoor.scriptBytes
set_option maxRecDepth 100000
theorem cw : Rows.scriptBytesRow.wfByText (OpenSpec.ofChange Rows.scriptBytesSpec) = true := by kernel_rfl
theorem cm : Tryz.pinned.checked.prog.mainIs = some (true, "655b6f8755a61698088b69d04135def86d7c88bb907dd4365debea4df8dfb78f".toList) := by kernel_rfl
theorem cf : Tryz.prog.funcNamed "quarantine/quarantinelaw30.ScriptBytes" = some 4 := by kernel_rfl
theorem cl : false = Tryz.prog.looks [] := by kernel_rfl
theorem cs : ([37, 38].all fun u => !Tryz.prog.wantsStandIn u) = true := by kernel_rfl
theorem noGo : Tryz.prog.funcs.any Func.goes = false := by kernel_rfl
theorem cg : false = Rows.scriptBytesRow.goesBy Tryz.pinned.checked.prog := Go.Z.goes_none (P := Tryz.prog) noGo Rows.scriptBytesRow rfl
end Go.Proofs.YtnhllgedoimhkaaGreatDoor.scriptBytes
end
