/- One part of a proof: an evaluator of the model, shown right, and contracts that it yields. No condition beyond those that each theorem names. -/
import Derived.Test.YtijfpknflhdemaaGreatZLR0
import Derived.Test.YtijfpknflhdemaaGreatZLR1
import Derived.Test.YtijfpknflhdemaaGreatZLR2
import Derived.Test.YtijfpknflhdemaaGreatZLR3
import Derived.Test.YtijfpknflhdemaaGreatZLR4
import Derived.Test.YtijfpknflhdemaaGreatZLR5
import Derived.Test.YtijfpknflhdemaaGreatZLR6
import Derived.Test.YtijfpknflhdemaaGreatZLR7
import Derived.Test.YtijfpknflhdemaaGreatZLR8
import Derived.Test.YtijfpknflhdemaaGreatZLR9
import Derived.Test.YtijfpknflhdemaaGreatZLR10
import Derived.Test.YtijfpknflhdemaaGreatZLR11
import Derived.Test.YtijfpknflhdemaaGreatZLR12
import Derived.Test.YtijfpknflhdemaaGreatZLR13
import Derived.Test.YtijfpknflhdemaaGreatZLR14
import Derived.Test.YtijfpknflhdemaaGreatZLR15
import Derived.Test.YtijfpknflhdemaaGreatZLR16
import Derived.Test.YtijfpknflhdemaaGreatZLR17
import Derived.Test.YtijfpknflhdemaaGreatZLR18
import Derived.Test.YtijfpknflhdemaaGreatZLR19
import Derived.Test.YtijfpknflhdemaaGreatZLR20
import Derived.Test.YtijfpknflhdemaaGreatZLR21
section
set_option linter.unusedSimpArgs false
set_option linter.unusedVariables false
set_option linter.unusedSectionVars false
set_option linter.deprecated false
namespace Go.Z
/-- every run of the table -/
theorem leftRuns : ∀ m n kk above, m ≤ 9 → n ≤ 9 → m - 1 < n - 1 → kk < 2 → left4 m n kk above = true := by
  intro m n kk above hm hn hl hk
  match m, n, hm, hn, hl with
  | 0, 0, _, _, hl => omega
  | 0, 1, _, _, hl => omega
  | 0, 2, _, _, _ => exact left0_2 kk above hk
  | 0, 3, _, _, _ => exact left0_3 kk above hk
  | 0, 4, _, _, _ => exact left0_4 kk above hk
  | 0, 5, _, _, _ => exact left0_5 kk above hk
  | 0, 6, _, _, _ => exact left0_6 kk above hk
  | 0, 7, _, _, _ => exact left0_7 kk above hk
  | 0, 8, _, _, _ => exact left0_8 kk above hk
  | 0, 9, _, _, _ => exact left0_9 kk above hk
  | 1, 0, _, _, hl => omega
  | 1, 1, _, _, hl => omega
  | 1, 2, _, _, _ => exact left1_2 kk above hk
  | 1, 3, _, _, _ => exact left1_3 kk above hk
  | 1, 4, _, _, _ => exact left1_4 kk above hk
  | 1, 5, _, _, _ => exact left1_5 kk above hk
  | 1, 6, _, _, _ => exact left1_6 kk above hk
  | 1, 7, _, _, _ => exact left1_7 kk above hk
  | 1, 8, _, _, _ => exact left1_8 kk above hk
  | 1, 9, _, _, _ => exact left1_9 kk above hk
  | 2, 0, _, _, hl => omega
  | 2, 1, _, _, hl => omega
  | 2, 2, _, _, hl => omega
  | 2, 3, _, _, _ => exact left2_3 kk above hk
  | 2, 4, _, _, _ => exact left2_4 kk above hk
  | 2, 5, _, _, _ => exact left2_5 kk above hk
  | 2, 6, _, _, _ => exact left2_6 kk above hk
  | 2, 7, _, _, _ => exact left2_7 kk above hk
  | 2, 8, _, _, _ => exact left2_8 kk above hk
  | 2, 9, _, _, _ => exact left2_9 kk above hk
  | 3, 0, _, _, hl => omega
  | 3, 1, _, _, hl => omega
  | 3, 2, _, _, hl => omega
  | 3, 3, _, _, hl => omega
  | 3, 4, _, _, _ => exact left3_4 kk above hk
  | 3, 5, _, _, _ => exact left3_5 kk above hk
  | 3, 6, _, _, _ => exact left3_6 kk above hk
  | 3, 7, _, _, _ => exact left3_7 kk above hk
  | 3, 8, _, _, _ => exact left3_8 kk above hk
  | 3, 9, _, _, _ => exact left3_9 kk above hk
  | 4, 0, _, _, hl => omega
  | 4, 1, _, _, hl => omega
  | 4, 2, _, _, hl => omega
  | 4, 3, _, _, hl => omega
  | 4, 4, _, _, hl => omega
  | 4, 5, _, _, _ => exact left4_5 kk above hk
  | 4, 6, _, _, _ => exact left4_6 kk above hk
  | 4, 7, _, _, _ => exact left4_7 kk above hk
  | 4, 8, _, _, _ => exact left4_8 kk above hk
  | 4, 9, _, _, _ => exact left4_9 kk above hk
  | 5, 0, _, _, hl => omega
  | 5, 1, _, _, hl => omega
  | 5, 2, _, _, hl => omega
  | 5, 3, _, _, hl => omega
  | 5, 4, _, _, hl => omega
  | 5, 5, _, _, hl => omega
  | 5, 6, _, _, _ => exact left5_6 kk above hk
  | 5, 7, _, _, _ => exact left5_7 kk above hk
  | 5, 8, _, _, _ => exact left5_8 kk above hk
  | 5, 9, _, _, _ => exact left5_9 kk above hk
  | 6, 0, _, _, hl => omega
  | 6, 1, _, _, hl => omega
  | 6, 2, _, _, hl => omega
  | 6, 3, _, _, hl => omega
  | 6, 4, _, _, hl => omega
  | 6, 5, _, _, hl => omega
  | 6, 6, _, _, hl => omega
  | 6, 7, _, _, _ => exact left6_7 kk above hk
  | 6, 8, _, _, _ => exact left6_8 kk above hk
  | 6, 9, _, _, _ => exact left6_9 kk above hk
  | 7, 0, _, _, hl => omega
  | 7, 1, _, _, hl => omega
  | 7, 2, _, _, hl => omega
  | 7, 3, _, _, hl => omega
  | 7, 4, _, _, hl => omega
  | 7, 5, _, _, hl => omega
  | 7, 6, _, _, hl => omega
  | 7, 7, _, _, hl => omega
  | 7, 8, _, _, _ => exact left7_8 kk above hk
  | 7, 9, _, _, _ => exact left7_9 kk above hk
  | 8, 0, _, _, hl => omega
  | 8, 1, _, _, hl => omega
  | 8, 2, _, _, hl => omega
  | 8, 3, _, _, hl => omega
  | 8, 4, _, _, hl => omega
  | 8, 5, _, _, hl => omega
  | 8, 6, _, _, hl => omega
  | 8, 7, _, _, hl => omega
  | 8, 8, _, _, hl => omega
  | 8, 9, _, _, _ => exact left8_9 kk above hk
  | 9, 0, _, _, hl => omega
  | 9, 1, _, _, hl => omega
  | 9, 2, _, _, hl => omega
  | 9, 3, _, _, hl => omega
  | 9, 4, _, _, hl => omega
  | 9, 5, _, _, hl => omega
  | 9, 6, _, _, hl => omega
  | 9, 7, _, _, hl => omega
  | 9, 8, _, _, hl => omega
  | 9, 9, _, _, hl => omega
  | m + 10, _, hm, _, _ => omega
  | m, n + 10, _, hn, _ => omega
end Go.Z
end
