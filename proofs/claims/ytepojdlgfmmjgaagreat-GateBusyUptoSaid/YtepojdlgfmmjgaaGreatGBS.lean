/- One part of a proof: an evaluator of the model, shown right, and contracts that it yields. No condition beyond those that each theorem names. -/
import Derived.Test.YtepojdlgfmmjgaaGreatGBR0
import Derived.Test.YtepojdlgfmmjgaaGreatGBR1
import Derived.Test.YtepojdlgfmmjgaaGreatGBR2
import Derived.Test.YtepojdlgfmmjgaaGreatGBR3
import Derived.Test.YtepojdlgfmmjgaaGreatGBR4
import Derived.Test.YtepojdlgfmmjgaaGreatGBR5
import Derived.Test.YtepojdlgfmmjgaaGreatGBR6
import Derived.Test.YtepojdlgfmmjgaaGreatGBR7
import Derived.Test.YtepojdlgfmmjgaaGreatGBR8
import Derived.Test.YtepojdlgfmmjgaaGreatGBX
set_option linter.unusedSimpArgs false
set_option linter.unusedVariables false
set_option linter.unusedSectionVars false
set_option linter.deprecated false
section
namespace Go.Z
open Go.X Go.RowKit Go.Proofs Go.Proofs.LB
theorem busy_runs : ∀ m, m < 9 → ∀ r v : Bool, busyQ m r v = true
 | 0, _, false, false => busy_0_ff
 | 0, _, false, true => busy_0_ft
 | 0, _, true, false => busy_0_tf
 | 0, _, true, true => busy_0_tt
 | 1, _, false, false => busy_1_ff
 | 1, _, false, true => busy_1_ft
 | 1, _, true, false => busy_1_tf
 | 1, _, true, true => busy_1_tt
 | 2, _, false, false => busy_2_ff
 | 2, _, false, true => busy_2_ft
 | 2, _, true, false => busy_2_tf
 | 2, _, true, true => busy_2_tt
 | 3, _, false, false => busy_3_ff
 | 3, _, false, true => busy_3_ft
 | 3, _, true, false => busy_3_tf
 | 3, _, true, true => busy_3_tt
 | 4, _, false, false => busy_4_ff
 | 4, _, false, true => busy_4_ft
 | 4, _, true, false => busy_4_tf
 | 4, _, true, true => busy_4_tt
 | 5, _, false, false => busy_5_ff
 | 5, _, false, true => busy_5_ft
 | 5, _, true, false => busy_5_tf
 | 5, _, true, true => busy_5_tt
 | 6, _, false, false => busy_6_ff
 | 6, _, false, true => busy_6_ft
 | 6, _, true, false => busy_6_tf
 | 6, _, true, true => busy_6_tt
 | 7, _, false, false => busy_7_ff
 | 7, _, false, true => busy_7_ft
 | 7, _, true, false => busy_7_tf
 | 7, _, true, true => busy_7_tt
 | 8, _, false, false => busy_8_ff
 | 8, _, false, true => busy_8_ft
 | 8, _, true, false => busy_8_tf
 | 8, _, true, true => busy_8_tt
 | m + 9, h, _, _ => absurd h (by omega)
theorem busy_said {a c : Lab} {W : World} {m n : Nat} (ha : a.at (viewOf W)) (qa : ArgOf W m a.slice a.l) (hc : c.at (viewOf W)) (qc : ArgOf W n c.slice c.l) (hL : a.l.length + c.l.length ≤ 1100000) (r v : Bool) : Calls Tryz.prog 6 #[a.slice, c.slice, .bool r, .bool v] W fun e w' => e = .returned (.bool true) ∧ Below W.heap.size W w' := by
 by_cases h : (Rising a.l ∧ a.l.length ≤ 8) ∧ (Rising c.l ∧ c.l.length ≤ 8) ∧ (normL (a.l ++ c.l)).length ≤ 8
 ·exact busy_yes busy_runs ha qa hc qc h.1 h.2.1 h.2.2 r v
 ·exact busy_not ha hc hL h r v
end Go.Z
end
