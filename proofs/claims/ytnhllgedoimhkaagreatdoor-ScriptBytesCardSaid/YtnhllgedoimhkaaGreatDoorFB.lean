/- One part of a proof: an evaluator of the model, shown right, and contracts that it yields. No condition beyond those that each theorem names. -/
import Derived.Test.YtnhllgedoimhkaaGreatDoorFA
import Derived.Test.YtnhllgedoimhkaaGreatDoorXZ
import Derived.WalkKit
import Derived.OpenShut
set_option linter.unusedSimpArgs false
set_option linter.unusedVariables false
set_option linter.unusedSectionVars false
set_option linter.deprecated false
section
namespace Go.Proofs.LB
open Go.X Go.ChangeShapes Go.WideShapes Go.RowKit
set_option maxRecDepth 100000
section
variable {H : Type} {enc : TypeId × Value → H} {w : World}
structure FitV (x : Val) : Prop where
 k : InR x.k
 n : InR x.n
 t : x.t.size ≤ maxLen
theorem cellsOf_3 : Tryz.prog.cellsOf 3 = 1 := by kernel_rfl
theorem cellsOf_9 : Tryz.prog.cellsOf 9 = 1 := by kernel_rfl
theorem exists_list {α : Type} {P : Nat → α → Prop} : ∀ (n : Nat), (∀ i, i < n → ∃ x, P i x) → ∃ l : List α, l.length = n ∧ ∀ (i : Nat) (x : α), l[i]? = some x → P i x
 | 0, _ => ⟨[], rfl, fun i x h => by simp at h⟩
 | n + 1, h => by
  obtain ⟨l, hl, hp⟩ := exists_list n (fun i hi => h i (by omega))
  obtain ⟨x, hx⟩ := h n (by omega)
  refine ⟨l ++ [x], by simp [hl], fun i y hi => ?_⟩
  by_cases hin : i < n
  ·rw [List.getElem?_append_left (by omega)] at hi
   exact hp i y hi
  ·rw [List.getElem?_append_right (by omega)] at hi
   have : i - l.length = 0 := by
    cases hd : i - l.length with
    | zero => rfl
    | succ d => rw [hd] at hi; simp at hi
   rw [this] at hi
   simp only [List.getElem?_cons_zero, Option.some.injEq] at hi
   subst hi
   have : i = n := by omega
   rw [this]; exact hx
theorem has_of_each {V : View} {p off : Nat} {l : List Val} (h : ∀ (i : Nat) (x : Val), l[i]? = some x → V.has p (off + i * 3) (vcells x)) : V.has p off (l.flatMap vcells) := by
 intro j v hj
 have : ∀ (l : List Val) (off : Nat), (∀ (i : Nat) (x : Val), l[i]? = some x → V.has p (off + i * 3) (vcells x)) → V.has p off (l.flatMap vcells) := fun l => by
  induction l with
  | nil => intro off _ j v hj; simp at hj
  | cons x l ih =>
   intro off h j v hj
   rw [List.flatMap_cons] at hj
   by_cases hj3 : j < 3
   ·rw [List.getElem?_append_left (show j < (vcells x).length from hj3)] at hj
    have := h 0 x rfl j v hj
    simpa using this
   ·rw [List.getElem?_append_right (show (vcells x).length ≤ j from by show 3 ≤ j; omega)] at hj
    have := ih (off + 3) (fun i y hy => by
     have := h (i + 1) y (by simpa using hy)
     rw [show off + (i + 1) * 3 = off + 3 + i * 3 from by omega] at this
     exact this) (j - 3) v hj
    rw [show off + 3 + (j - 3) = off + j from by omega] at this
    exact this
 exact this l off h j v hj
theorem none_spot {a : Addr} {v : Value} (h : w.cell? a = some v) : ∃ b o, a = ⟨b, o, none⟩ := by
 obtain ⟨b, off, spot⟩ := a
 cases spot with
 | none => exact ⟨b, off, rfl⟩
 | some s =>
  simp only [World.cell?] at h
  split at h
  ·simp at h
  ·cases h
theorem ValsAt.plain {V : View} {l : List Val} {b : Option Addr} (h : ValsAt V l b) : PlainR l b := by
 by_cases hl : l = []
 ·exact .inl hl
 ·obtain ⟨p, off, hb, _⟩ := h.has hl
  exact .inr (.inr ⟨p, off, hb⟩)
end
end Go.Proofs.LB
end
