/- One part of a proof: an evaluator of the model, shown right, and contracts that it yields. No condition beyond those that each theorem names. -/
import Derived.Test.YtnhllgedoimhkaaGreatDoorFA
import Derived.Test.YtnhllgedoimhkaaGreatDoorXZ
import Derived.WalkKit
import Derived.OpenShut
set_option linter.unusedSimpArgs false
set_option linter.unusedVariables false
set_option linter.unusedSectionVars false
set_option linter.deprecated false
section
namespace Go.Proofs.LB
open Go.X Go.ChangeShapes Go.WideShapes Go.RowKit
set_option maxRecDepth 100000
section
variable {H : Type} {enc : TypeId × Value → H} {w : World}
theorem ValsAt.plain {V : View} {l : List Val} {b : Option Addr} (h : ValsAt V l b) : PlainR l b := by
 by_cases hl : l = []
 ·exact .inl hl
 ·obtain ⟨p, off, hb, _⟩ := h.has hl
  exact .inr (.inr ⟨p, off, hb⟩)
end
end Go.Proofs.LB
end
