/- One part of a proof: an evaluator of the model, shown right, and contracts that it yields. No condition beyond those that each theorem names. -/
import Derived.Test.YtbmfcghpppmfgaaGreatDoorZBR0
import Derived.Test.YtbmfcghpppmfgaaGreatDoorZBR1
import Derived.Test.YtbmfcghpppmfgaaGreatDoorZBR2
import Derived.Test.YtbmfcghpppmfgaaGreatDoorZBR3
import Derived.Test.YtbmfcghpppmfgaaGreatDoorZBR4
import Derived.Test.YtbmfcghpppmfgaaGreatDoorZBR5
import Derived.Test.YtbmfcghpppmfgaaGreatDoorZTC
section
set_option linter.unusedSimpArgs false
set_option linter.unusedVariables false
set_option linter.unusedSectionVars false
set_option linter.deprecated false
/-! # DBRaises: its runs, for every number -/
namespace Go.Z
open Go.X Go.RowKit Go.Proofs Go.Proofs.LB
set_option linter.unusedVariables false
theorem raises_runs : ∀ (w : Bool) (r : Nat), r < 3 → ∀ (s : Bool), raisesQ w r s = true
  | false, 0, _, false => raises_f_0_f
  | false, 0, _, true => raises_f_0_t
  | false, 1, _, false => raises_f_1_f
  | false, 1, _, true => raises_f_1_t
  | false, 2, _, false => raises_f_2_f
  | false, 2, _, true => raises_f_2_t
  | true, 0, _, false => raises_t_0_f
  | true, 0, _, true => raises_t_0_t
  | true, 1, _, false => raises_t_1_f
  | true, 1, _, true => raises_t_1_t
  | true, 2, _, false => raises_t_2_f
  | true, 2, _, true => raises_t_2_t
  | _, r + 3, h, _ => absurd h (by omega)
theorem raises_of (runs : ∀ (w : Bool) (r : Nat), r < 3 → ∀ (s : Bool), raisesQ w r s = true) (W : World) (p s : Bool) {n : Int} (hn : 0 ≤ n ∧ n < 256) :
    Calls Tryz.prog 6 #[.bool p, .int .u8 n, .bool s] W fun e W' => e = .returned (.bool true) ∧ KeptZ W W' := by
  obtain ⟨q, r, hr, hq, rfl⟩ : ∃ q r : Nat, r < 3 ∧ q < 86 ∧ n = ((3 * q + r : Nat) : Int) := ⟨n.toNat / 3, n.toNat % 3, by omega, by omega, by omega⟩
  haveI := sigOf_ok (k := (q : Int)) tags_nil tags_nil (by omega)
  have hs : sigOf [] [] (q : Int) 784 (96 + r) = .int .u8 ((3 * q + r : Nat) : Int) := by
    show sval (Tof [] [] 784) (Kof (q : Int) 784) (96 + r) = _
    rw [sval6 _ _ (by omega), show Kof (q : Int) 784 = (q : Int) from rfl, Int.toNat_natCast, Nat.mod_eq_of_lt hq, show (96 + r) / 32 % 32 = 3 by omega, show (96 + r) % 32 = r by omega]
  have r3 : Rep (sigOf [] [] (q : Int)) (fun _ => none) (.complex .f64 784 (96 + r)) (.int .u8 ((3 * q + r : Nat) : Int)) := by
    have := Rep.sym (σ := sigOf [] [] (q : Int)) (ρ := fun _ => none) (i := 784) (j := 96 + r) (by rw [hs]; rfl)
    rwa [hs] at this
  exact calls_of_run_at (envT_ok (σ := sigOf [] [] (q : Int)) paT_ok) (d := 80) (v := .bool true) rfl (says_le (runV_le (E := envT paT) stT 80 6 _ .nil 0) (runs p r hr s)) (ρ := fun _ => none) (fun _ _ h => by cases h) (.cons (.plain rfl) (.cons r3 (.cons (.plain rfl) .nil))) (wi_start _ W)
end Go.Z
end
