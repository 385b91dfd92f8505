/- One part of a proof: an evaluator of the model, shown right, and contracts that it yields. No condition beyond those that each theorem names. -/
import Derived.Test.YtbmfcghpppmfgaaGreatDoorZBW0
import Derived.Test.YtbmfcghpppmfgaaGreatDoorZBW1
import Derived.Test.YtbmfcghpppmfgaaGreatDoorZBW2
import Derived.Test.YtbmfcghpppmfgaaGreatDoorZBW3
import Derived.Test.YtbmfcghpppmfgaaGreatDoorZBW4
import Derived.Test.YtbmfcghpppmfgaaGreatDoorZBW5
import Derived.Test.YtbmfcghpppmfgaaGreatDoorZBW6
import Derived.Test.YtbmfcghpppmfgaaGreatDoorZBW7
import Derived.Test.YtbmfcghpppmfgaaGreatDoorZBW8
import Derived.Test.YtbmfcghpppmfgaaGreatDoorZBW9
section
set_option linter.unusedSimpArgs false
set_option linter.unusedVariables false
set_option linter.unusedSectionVars false
set_option linter.deprecated false
/-! # the runs of DBWaits, all -/
namespace Go.Z
theorem waits_runs : ∀ (m : Nat), m < 10 → ∀ (b : Bool), waitsQ m b = true
  | 0, _, false => waits_0_f
  | 0, _, true => waits_0_t
  | 1, _, false => waits_1_f
  | 1, _, true => waits_1_t
  | 2, _, false => waits_2_f
  | 2, _, true => waits_2_t
  | 3, _, false => waits_3_f
  | 3, _, true => waits_3_t
  | 4, _, false => waits_4_f
  | 4, _, true => waits_4_t
  | 5, _, false => waits_5_f
  | 5, _, true => waits_5_t
  | 6, _, false => waits_6_f
  | 6, _, true => waits_6_t
  | 7, _, false => waits_7_f
  | 7, _, true => waits_7_t
  | 8, _, false => waits_8_f
  | 8, _, true => waits_8_t
  | 9, _, false => waits_9_f
  | 9, _, true => waits_9_t
  | m + 10, h, _ => absurd h (by omega)
end Go.Z
end
