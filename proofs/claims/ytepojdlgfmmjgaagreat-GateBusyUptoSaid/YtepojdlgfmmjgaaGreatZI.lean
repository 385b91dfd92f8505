/- One part of a proof: an evaluator of the model, shown right, and contracts that it yields. No condition beyond those that each theorem names. -/
import Derived.Test.YtepojdlgfmmjgaaGreatZP
import Derived.Test.YtepojdlgfmmjgaaGreatZV
import Derived.Shelf.Spec.SlicesInsertGrow
set_option linter.unusedSimpArgs false
set_option linter.unusedVariables false
set_option linter.unusedSectionVars false
set_option linter.deprecated false
section
namespace Go.Z
open Go.X Go.Proofs
noncomputable section
theorem put_self {w : World} {b : Nat} {O : Obj} (h : w.heap[b]? = some O) : put w b O = w := by
 unfold put
 have : w.heap.setIfInBounds b O = w.heap := by
  apply Array.ext
  ·simp
  ·intro i h1 h2
   rw [Array.getElem_setIfInBounds (by simpa using h1)]
   by_cases e : b = i
   ·subst e
    rw [if_pos rfl]
    exact ((Array.getElem?_eq_some_iff.1 h).2).symm
   ·rw [if_neg e]
 rw [this]
theorem put_put {w : World} {b : Nat} {O O' : Obj} : put (put w b O) b O' = put w b O' := by
 unfold put
 simp [Array.setIfInBounds_setIfInBounds]
theorem setCell_put {w : World} {b o : Nat} {cs : Array Value} {t : TypeId} {fr : Nat × Nat} {v : Value} (h : w.heap[b]? = some (.cells cs t fr)) : w.setCell ⟨b, o, none⟩ v = put w b (.cells (cs.setIfInBounds o v) t fr) := by
 have hlt : b < w.heap.size := (Array.getElem?_eq_some_iff.1 h).1
 have hv : w.heap[b] = .cells cs t fr := (Array.getElem?_eq_some_iff.1 h).2
 unfold World.setCell put
 congr 1
 apply Array.ext
 ·simp
 ·intro i h1 h2
  rw [Array.getElem_modify, Array.getElem_setIfInBounds (by simpa using h1)]
  by_cases e : b = i
  ·subst e
   rw [if_pos rfl, if_pos rfl, hv]
   rfl
  ·rw [if_neg e, if_neg e]
theorem setCells_put {b : Nat} {t : TypeId} {fr : Nat × Nat} {B : List Value} : ∀ (vs : List Value) {A old : List Value} {w : World}, old.length = vs.length → w.heap[b]? = some (.cells (A ++ old ++ B).toArray t fr) →
  w.setCells b A.length vs = put w b (.cells (A ++ vs ++ B).toArray t fr)
 | [], A, old, w, hl, h => by
  obtain rfl := List.eq_nil_of_length_eq_zero hl
  exact (put_self h).symm
 | v :: r, A, [], w, hl, h => by cases hl
 | v :: r, A, x :: old, w, hl, h => by
  have hlt : b < w.heap.size := (Array.getElem?_eq_some_iff.1 h).1
  have e1 : (A ++ x :: old ++ B).toArray.setIfInBounds A.length v = ((A ++ [v]) ++ old ++ B).toArray := by
   simp
  rw [World.setCells, setCell_put h, e1]
  have h2 := setCells_put r (A := A ++ [v]) (old := old) (w := put w b (.cells ((A ++ [v]) ++ old ++ B).toArray t fr)) (by simpa using hl) (put_get hlt)
  rw [show A.length + 1 = (A ++ [v]).length by simp, h2, put_put]
  simp
variable {P : Program} {σ : Nat → Nat → Value} [SigOk σ]
end
end Go.Z
end
