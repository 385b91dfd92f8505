/- One part of a proof: an evaluator of the model, shown right, and contracts that it yields. No condition beyond those that each theorem names. -/
import Derived.Sort.Walk0
import Derived.Test.YtepojdlgfmmjgaaGreatProg
set_option linter.unusedSimpArgs false
set_option linter.unusedVariables false
set_option linter.unusedSectionVars false
set_option linter.deprecated false
section
namespace Go.Proofs
abbrev encU : Int → Value := fun x => Value.int .u16 x
set_option maxHeartbeats 1000000 in
theorem Su.cmp_isNaN_int (x : Int) (w : World) : Calls Tryz.prog 302 #[.int .u16 x] w fun e w' => e = .returned (.bool false) ∧ w' = w := by
 go_enter Tryz.func302, Tryz.ntmps302
 go_wp2
 go_ret
 exact ⟨by simp, rfl⟩
set_option maxHeartbeats 1000000 in
theorem Su.cmp_Less_int (x y : Int) (w : World) : Calls Tryz.prog 252 #[.int .u16 x, .int .u16 y] w fun e w' => e = .returned (.bool (Sort.ltInt x y)) ∧ w' = w := by
 go_enter Tryz.func252, Tryz.ntmps252
 go_wp2_with (go_at_call 302; refine (Su.cmp_isNaN_int _ _).mono ?_; rintro e w' ⟨rfl, rfl⟩)
 go_ret
 exact ⟨rfl, rfl⟩
end Go.Proofs
end
