/- One part of a proof: an evaluator of the model, shown right, and contracts that it yields. No condition beyond those that each theorem names. -/
import Derived.Test.YtijfpknflhdemaaGreatZQR0
import Derived.Test.YtijfpknflhdemaaGreatZQR1
import Derived.Test.YtijfpknflhdemaaGreatZQR2
import Derived.Test.YtijfpknflhdemaaGreatZQR3
import Derived.Test.YtijfpknflhdemaaGreatZQR4
import Derived.Test.YtijfpknflhdemaaGreatZQR5
import Derived.Test.YtijfpknflhdemaaGreatZQR6
import Derived.Test.YtijfpknflhdemaaGreatZQR7
import Derived.Test.YtijfpknflhdemaaGreatZQR8
import Derived.Test.YtijfpknflhdemaaGreatZQR9
section
set_option linter.unusedSimpArgs false
set_option linter.unusedVariables false
set_option linter.unusedSectionVars false
set_option linter.deprecated false
namespace Go.Z
/-- every run of the table -/
theorem rows : ∀ m n k, m ≤ 9 → n ≤ 9 → k ∈ kindsQ m n → oneQ m n k = true := by
  intro m n k hm hn hk
  match m, n, hm, hn with
  | 0, 0, _, _ => exact colQ_get run0_0 hk
  | 0, 1, _, _ => exact colQ_get run0_1 hk
  | 0, 2, _, _ => exact colQ_get run0_2 hk
  | 0, 3, _, _ => exact colQ_get run0_3 hk
  | 0, 4, _, _ => exact colQ_get run0_4 hk
  | 0, 5, _, _ => exact colQ_get run0_5 hk
  | 0, 6, _, _ => exact colQ_get run0_6 hk
  | 0, 7, _, _ => exact colQ_get run0_7 hk
  | 0, 8, _, _ => exact colQ_get run0_8 hk
  | 0, 9, _, _ => exact colQ_get run0_9 hk
  | 1, 0, _, _ => exact colQ_get run1_0 hk
  | 1, 1, _, _ => exact colQ_get run1_1 hk
  | 1, 2, _, _ => exact colQ_get run1_2 hk
  | 1, 3, _, _ => exact colQ_get run1_3 hk
  | 1, 4, _, _ => exact colQ_get run1_4 hk
  | 1, 5, _, _ => exact colQ_get run1_5 hk
  | 1, 6, _, _ => exact colQ_get run1_6 hk
  | 1, 7, _, _ => exact colQ_get run1_7 hk
  | 1, 8, _, _ => exact colQ_get run1_8 hk
  | 1, 9, _, _ => exact colQ_get run1_9 hk
  | 2, 0, _, _ => exact colQ_get run2_0 hk
  | 2, 1, _, _ => exact colQ_get run2_1 hk
  | 2, 2, _, _ => exact colQ_get run2_2 hk
  | 2, 3, _, _ => exact colQ_get run2_3 hk
  | 2, 4, _, _ => exact colQ_get run2_4 hk
  | 2, 5, _, _ => exact colQ_get run2_5 hk
  | 2, 6, _, _ => exact colQ_get run2_6 hk
  | 2, 7, _, _ => exact colQ_get run2_7 hk
  | 2, 8, _, _ => exact colQ_get run2_8 hk
  | 2, 9, _, _ => exact colQ_get run2_9 hk
  | 3, 0, _, _ => exact colQ_get run3_0 hk
  | 3, 1, _, _ => exact colQ_get run3_1 hk
  | 3, 2, _, _ => exact colQ_get run3_2 hk
  | 3, 3, _, _ => exact colQ_get run3_3 hk
  | 3, 4, _, _ => exact colQ_get run3_4 hk
  | 3, 5, _, _ => exact colQ_get run3_5 hk
  | 3, 6, _, _ => exact colQ_get run3_6 hk
  | 3, 7, _, _ => exact colQ_get run3_7 hk
  | 3, 8, _, _ => exact colQ_get run3_8 hk
  | 3, 9, _, _ => exact colQ_get run3_9 hk
  | 4, 0, _, _ => exact colQ_get run4_0 hk
  | 4, 1, _, _ => exact colQ_get run4_1 hk
  | 4, 2, _, _ => exact colQ_get run4_2 hk
  | 4, 3, _, _ => exact colQ_get run4_3 hk
  | 4, 4, _, _ => exact colQ_get run4_4 hk
  | 4, 5, _, _ => exact colQ_get run4_5 hk
  | 4, 6, _, _ => exact colQ_get run4_6 hk
  | 4, 7, _, _ => exact colQ_get run4_7 hk
  | 4, 8, _, _ => exact colQ_get run4_8 hk
  | 4, 9, _, _ => exact colQ_get run4_9 hk
  | 5, 0, _, _ => exact colQ_get run5_0 hk
  | 5, 1, _, _ => exact colQ_get run5_1 hk
  | 5, 2, _, _ => exact colQ_get run5_2 hk
  | 5, 3, _, _ => exact colQ_get run5_3 hk
  | 5, 4, _, _ => exact colQ_get run5_4 hk
  | 5, 5, _, _ => exact colQ_get run5_5 hk
  | 5, 6, _, _ => exact colQ_get run5_6 hk
  | 5, 7, _, _ => exact colQ_get run5_7 hk
  | 5, 8, _, _ => exact colQ_get run5_8 hk
  | 5, 9, _, _ => exact colQ_get run5_9 hk
  | 6, 0, _, _ => exact colQ_get run6_0 hk
  | 6, 1, _, _ => exact colQ_get run6_1 hk
  | 6, 2, _, _ => exact colQ_get run6_2 hk
  | 6, 3, _, _ => exact colQ_get run6_3 hk
  | 6, 4, _, _ => exact colQ_get run6_4 hk
  | 6, 5, _, _ => exact colQ_get run6_5 hk
  | 6, 6, _, _ => exact colQ_get run6_6 hk
  | 6, 7, _, _ => exact colQ_get run6_7 hk
  | 6, 8, _, _ => exact colQ_get run6_8 hk
  | 6, 9, _, _ => exact colQ_get run6_9 hk
  | 7, 0, _, _ => exact colQ_get run7_0 hk
  | 7, 1, _, _ => exact colQ_get run7_1 hk
  | 7, 2, _, _ => exact colQ_get run7_2 hk
  | 7, 3, _, _ => exact colQ_get run7_3 hk
  | 7, 4, _, _ => exact colQ_get run7_4 hk
  | 7, 5, _, _ => exact colQ_get run7_5 hk
  | 7, 6, _, _ => exact colQ_get run7_6 hk
  | 7, 7, _, _ => exact colQ_get run7_7 hk
  | 7, 8, _, _ => exact colQ_get run7_8 hk
  | 7, 9, _, _ => exact colQ_get run7_9 hk
  | 8, 0, _, _ => exact colQ_get run8_0 hk
  | 8, 1, _, _ => exact colQ_get run8_1 hk
  | 8, 2, _, _ => exact colQ_get run8_2 hk
  | 8, 3, _, _ => exact colQ_get run8_3 hk
  | 8, 4, _, _ => exact colQ_get run8_4 hk
  | 8, 5, _, _ => exact colQ_get run8_5 hk
  | 8, 6, _, _ => exact colQ_get run8_6 hk
  | 8, 7, _, _ => exact colQ_get run8_7 hk
  | 8, 8, _, _ => exact colQ_get run8_8 hk
  | 8, 9, _, _ => exact colQ_get run8_9 hk
  | 9, 0, _, _ => exact colQ_get run9_0 hk
  | 9, 1, _, _ => exact colQ_get run9_1 hk
  | 9, 2, _, _ => exact colQ_get run9_2 hk
  | 9, 3, _, _ => exact colQ_get run9_3 hk
  | 9, 4, _, _ => exact colQ_get run9_4 hk
  | 9, 5, _, _ => exact colQ_get run9_5 hk
  | 9, 6, _, _ => exact colQ_get run9_6 hk
  | 9, 7, _, _ => exact colQ_get run9_7 hk
  | 9, 8, _, _ => exact colQ_get run9_8 hk
  | 9, 9, _, _ => exact colQ_get run9_9 hk
  | m + 10, _, hm, _ => omega
  | m, n + 10, _, hn => omega
end Go.Z
end
