/- One part of a proof: an evaluator of the model, shown right, and contracts that it yields. No condition beyond those that each theorem names. -/
import Derived.Test.YtepojdlgfmmjgaaGreatJC
import Derived.Test.YtepojdlgfmmjgaaGreatZTB
import Derived.Test.YtepojdlgfmmjgaaGreatLP
set_option linter.unusedSimpArgs false
set_option linter.unusedVariables false
set_option linter.unusedSectionVars false
set_option linter.deprecated false
section
namespace Go.Z
open Go.X Go.RowKit Go.Proofs Go.Proofs.LB Go.Sort
set_option maxRecDepth 100000
theorem begun_calls (w : World) : Calls Tryz.prog 7 #[] w fun e w' => e = .returned (.bool true) ∧ Aside (Below w.heap.size w w') :=
 (calls_of_run (envS_ok (σ := sig0)) (v := .bool true) rfl begun_run w).mono fun e W ⟨he, hk⟩ => ⟨he, ⟨hk.os, hk.tape, hk.output, hk.size, hk.block⟩⟩
theorem may_calls {a : Lab} {w : World} (h : a.at (viewOf w)) {p : Bool} (hp : p = true ↔ Rising a.l ∧ a.l.length ≤ 8) : Calls Tryz.prog 8 #[a.slice] w fun e w' => e = .returned (.bool p) ∧ Aside (Below w.heap.size w w') :=
 (calls_of_pspec (may_spec a _ h)).mono fun e W ⟨v, he, ⟨_, b, hv, hb⟩, hB⟩ => ⟨by rw [he, hv, bool_eq hb hp], hB⟩
theorem below_both {w w1 w2 : World} (h : Below w.heap.size w w1) (k : Below w1.heap.size w1 w2) : Below w.heap.size w w2 := h.trans (k.mono h.size)
end Go.Z
end
