/- One part of a proof: an evaluator of the model, shown right, and contracts that it yields. No condition beyond those that each theorem names. -/
import Derived.Test.YtnhllgedoimhkaaGreatDoorZP
import Derived.Test.YtnhllgedoimhkaaGreatDoorZV
import Derived.Shelf.Spec.SlicesInsertGrow
set_option linter.unusedSimpArgs false
set_option linter.unusedVariables false
set_option linter.unusedSectionVars false
set_option linter.deprecated false
section
namespace Go.Z
open Go.X Go.Proofs
noncomputable section
theorem put_self {w : World} {b : Nat} {O : Obj} (h : w.heap[b]? = some O) : put w b O = w := by
 unfold put
 have : w.heap.setIfInBounds b O = w.heap := by
  apply Array.ext
  ·simp
  ·intro i h1 h2
   rw [Array.getElem_setIfInBounds (by simpa using h1)]
   by_cases e : b = i
   ·subst e
    rw [if_pos rfl]
    exact ((Array.getElem?_eq_some_iff.1 h).2).symm
   ·rw [if_neg e]
 rw [this]
theorem put_put {w : World} {b : Nat} {O O' : Obj} : put (put w b O) b O' = put w b O' := by
 unfold put
 simp [Array.setIfInBounds_setIfInBounds]
theorem setCell_put {w : World} {b o : Nat} {cs : Array Value} {t : TypeId} {fr : Nat × Nat} {v : Value} (h : w.heap[b]? = some (.cells cs t fr)) : w.setCell ⟨b, o, none⟩ v = put w b (.cells (cs.setIfInBounds o v) t fr) := by
 have hlt : b < w.heap.size := (Array.getElem?_eq_some_iff.1 h).1
 have hv : w.heap[b] = .cells cs t fr := (Array.getElem?_eq_some_iff.1 h).2
 unfold World.setCell put
 congr 1
 apply Array.ext
 ·simp
 ·intro i h1 h2
  rw [Array.getElem_modify, Array.getElem_setIfInBounds (by simpa using h1)]
  by_cases e : b = i
  ·subst e
   rw [if_pos rfl, if_pos rfl, hv]
   rfl
  ·rw [if_neg e, if_neg e]
theorem setCells_put {b : Nat} {t : TypeId} {fr : Nat × Nat} {B : List Value} : ∀ (vs : List Value) {A old : List Value} {w : World}, old.length = vs.length → w.heap[b]? = some (.cells (A ++ old ++ B).toArray t fr) →
  w.setCells b A.length vs = put w b (.cells (A ++ vs ++ B).toArray t fr)
 | [], A, old, w, hl, h => by
  obtain rfl := List.eq_nil_of_length_eq_zero hl
  exact (put_self h).symm
 | v :: r, A, [], w, hl, h => by cases hl
 | v :: r, A, x :: old, w, hl, h => by
  have hlt : b < w.heap.size := (Array.getElem?_eq_some_iff.1 h).1
  have e1 : (A ++ x :: old ++ B).toArray.setIfInBounds A.length v = ((A ++ [v]) ++ old ++ B).toArray := by
   simp
  rw [World.setCells, setCell_put h, e1]
  have h2 := setCells_put r (A := A ++ [v]) (old := old) (w := put w b (.cells ((A ++ [v]) ++ old ++ B).toArray t fr)) (by simpa using hl) (put_get hlt)
  rw [show A.length + 1 = (A ++ [v]).length by simp, h2, put_put]
  simp
def insZ (e : TypeId) (h : Heap) (nx : Nat) (args : List Value) : Option (List Out) := match args with
 | [.slice (some ⟨n, 0, some 0⟩) len _, .int .i64 (.ofNat i), .slice (some ⟨n', 0, none⟩) 1 _] => (match h.get n, h.get n' with
  | some (.grown t z l), some (.cells _ [v]) => (match Nat.beq t e && Nat.beq z 1 && Nat.beq l.length len && Nat.blt i len && Nat.ble len 100000 && allOne l && allOne [v] && !Nat.beq n n' with
   | true => some [(.slice (some ⟨nx, 0, some 0⟩) (len + 1) 0, (h.ins n (some .dead)).ins nx (some (.grown e 1 (l.take i ++ v :: l.drop i))), nx + 1)]
   | false => none)
  | _, _ => none)
 | _ => none
variable {P : Program} {σ : Nat → Nat → Value} [SigOk σ]
theorem allOne_mem : ∀ {l : List Value}, allOne l = true → ∀ v ∈ l, v.oneCell' = true
 | x :: l, h, v, hv => by
  have h' : (match x.oneCell' with | true => allOne l | false => false) = true := h
  cases hx : x.oneCell' with
  | false => rw [hx] at h'; cases h'
  | true =>
   rw [hx] at h'
   rcases List.mem_cons.1 hv with rfl | hv
   ·exact hx
   ·exact allOne_mem h' v hv
end
noncomputable section
variable {P : Program} {σ : Nat → Nat → Value} [SigOk σ] {w0 w : World} {h : Heap} {ρ : Ren}
theorem WI.forget (k : WI σ w0 h ρ w) {n : Nat} {t : TypeId} {l : List Value} (hg : h.get n = some (.grown t 1 l)) (m : Nat) : WI σ w0 (h.ins n (some (.grown t 1 (l.take m)))) ρ w := by
 have hlive : ∀ j, Live (h.ins n (some (.grown t 1 (l.take m)))) j → Live h j := fun j ⟨o, ho, hl⟩ => by
  rcases Heap.ins_get ho with ⟨rfl, _⟩ | ⟨_, e⟩
  ·exact ⟨_, hg, rfl⟩
  ·exact ⟨o, e, hl⟩
 refine ⟨fun j b c o hn ho => ?_, k.lt, fun i j b c c' h1 h2 l1 l2 => k.inj i j b c c' h1 h2 (hlive i l1) (hlive j l2), fun j b c hn l1 => k.own j b c hn (hlive j l1), fun j b c l1 hn ho hd => ?_, k.kept⟩
 ·rcases Heap.ins_get ho with ⟨rfl, rfl⟩ | ⟨_, e⟩
  ·obtain ⟨l', rest, hb, hl, hlc, hcm, hz⟩ := k.rel j b c _ hn hg
   exact ⟨l'.take m, l'.drop m ++ rest, by rw [← List.append_assoc, List.take_append_drop]; exact hb, hl.take m, by rw [← List.append_assoc, List.take_append_drop]; exact hlc, hcm, hz⟩
  ·exact k.rel j b c o hn e
 ·rcases Heap.ins_get ho with ⟨_, e⟩ | ⟨_, e⟩
  ·subst e; cases hd
  ·exact k.old j b c l1 hn e hd
def insF (e : TypeId) (h : Heap) (nx : Nat) (args : List Value) : Option (List Out) := match args with
 | .slice (some ⟨n, 0, some 0⟩) len cp :: r => (match h.get n with
  | some (.grown t 1 l) => insZ e (h.ins n (some (.grown t 1 (l.take len)))) nx (.slice (some ⟨n, 0, some 0⟩) len cp :: r)
  | _ => none)
 | _ => none
end
end Go.Z
end
