/- One part of a proof: an evaluator of the model, shown right, and contracts that it yields. No condition beyond those that each theorem names. -/
import Derived.Test.YtnhllgedoimhkaaGreatDoorCards
import Derived.SevenTiedAt
import Derived.Test.YtnhllgedoimhkaaGreatDoorZGO
set_option linter.unusedSimpArgs false
set_option linter.unusedVariables false
set_option linter.unusedSectionVars false
set_option linter.deprecated false
section
namespace Go.Proofs.YtnhllgedoimhkaaGreatDoor.scriptBack
set_option maxRecDepth 100000
theorem cw : Rows.scriptBackRow.wfByText (OpenSpec.ofChange Rows.scriptBackSpec) = true := by kernel_rfl
theorem cm : Tryz.pinned.checked.prog.mainIs = some (true, "655b6f8755a61698088b69d04135def86d7c88bb907dd4365debea4df8dfb78f".toList) := by kernel_rfl
theorem cf : Tryz.prog.funcNamed "quarantine/quarantinelaw30.ScriptBack" = some 5 := by kernel_rfl
theorem cl : false = Tryz.prog.looks [] := by kernel_rfl
theorem cs : ([37].all fun u => !Tryz.prog.wantsStandIn u) = true := by kernel_rfl
theorem noGo : Tryz.prog.funcs.any Func.goes = false := by kernel_rfl
theorem cg : false = Rows.scriptBackRow.goesBy Tryz.pinned.checked.prog := Go.Z.goes_none (P := Tryz.prog) noGo Rows.scriptBackRow rfl
end Go.Proofs.YtnhllgedoimhkaaGreatDoor.scriptBack
end
