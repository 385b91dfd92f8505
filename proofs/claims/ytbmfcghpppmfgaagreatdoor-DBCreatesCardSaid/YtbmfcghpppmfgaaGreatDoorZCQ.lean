/- One part of a proof: an evaluator of the model, shown right, and contracts that it yields. No condition beyond those that each theorem names. -/
import Derived.Test.YtbmfcghpppmfgaaGreatDoorZCH
section
set_option linter.unusedSimpArgs false
set_option linter.unusedVariables false
set_option linter.unusedSectionVars false
set_option linter.deprecated false
namespace Go.Z
open Go.X Go.RowKit Go.Proofs
noncomputable section
def sufFrom (m : Nat) (o : Bool) : Nat → Nat → Bool
 | _, 0 => true
 | i, n + 1 => sufQ m o i && sufFrom m o (i + 1) n
theorem sufFrom_at {m : Nat} {o : Bool} : ∀ {n i r : Nat}, sufFrom m o i n = true → i ≤ r → r < i + n → sufQ m o r = true
 | 0, i, r, _, h1, h2 => absurd h2 (by omega)
 | n + 1, i, r, h, h1, h2 => by
  simp only [sufFrom, Bool.and_eq_true] at h
  by_cases e : r = i
  ·subst e; exact h.1
  ·exact sufFrom_at h.2 (by omega) (by omega)
theorem allSuf_of {m : Nat} {o : Bool} : ∀ {n : Nat}, (∀ r, r < n → sufQ m o r = true) → allSuf m o n = true
 | 0, _ => rfl
 | n + 1, h => by
  simp only [allSuf, Bool.and_eq_true]
  exact ⟨h n (by omega), allSuf_of fun r hr => h r (by omega)⟩
theorem partsC_of {m : Nat} {o : Bool} (h0 : preQ m o = true) (h1 : sufFrom m o 0 9 = true) (h2 : sufFrom m o 9 9 = true) (h3 : sufFrom m o 18 8 = true) : partsC m o = true := by
 unfold partsC
 rw [h0, Bool.true_and]
 refine allSuf_of fun r hr => ?_
 by_cases e1 : r < 9
 ·exact sufFrom_at h1 (by omega) (by omega)
 ·by_cases e2 : r < 18
  ·exact sufFrom_at h2 (by omega) (by omega)
  ·exact sufFrom_at h3 (by omega) (by omega)
end
end Go.Z
end
