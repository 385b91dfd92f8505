/- One part of a proof: an evaluator of the model, shown right, and contracts that it yields. No condition beyond those that each theorem names. -/
import Derived.Test.YtenpginanhnkbaaXD1
namespace Go.X
open Go.RowKit

/-- an operand reads alike in two states -/
def SameOp (st st' : St) (x : Operand) : Prop := opd st'.env x = opd st.env x ∧ st'.val x = st.val x

theorem vals_same {st st' : St} : ∀ {l : List Operand}, (∀ x ∈ l, SameOp st st' x) → st'.vals l = st.vals l
  | [], _ => rfl
  | x :: l, h => by
    simp only [St.vals, (h x (by simp)).2, vals_same (l := l) (fun y hy => h y (by simp [hy]))]
theorem parts_same {st st' : St} : ∀ {l : List (Nat × Operand)}, (∀ x ∈ l, SameOp st st' x.2) → st'.parts l = st.parts l
  | [], _ => rfl
  | (i, x) :: l, h => by
    simp only [St.parts, (h (i, x) (by simp)).2, parts_same (l := l) (fun y hy => h y (by simp [hy]))]

theorem effOf_same {P : Program} {o : Oper} {st st' : St} (h : ∀ x ∈ o.op.operands, SameOp st st' x)
    (hl : ∀ t a id off, o.op = .load t a → opd st.env a = some (.own id off) → st'.mem id = st.mem id) : effOf P o st' = effOf P o st := by
  obtain ⟨dst, op, type, pos, after, guard⟩ := o
  cases op
  case move x => simp only [effOf, (h x (by simp [Op.operands])).1]
  case assign x => simp only [effOf, (h x (by simp [Op.operands])).1]
  case pick c x y => simp only [effOf, (h c (by simp [Op.operands])).1, (h x (by simp [Op.operands])).1, (h y (by simp [Op.operands])).1]
  case box t x => simp only [effOf, (h x (by simp [Op.operands])).2]
  case load t x =>
    have e := (h x (by simp [Op.operands])).1
    simp only [effOf, e]
    split
    · rename_i id off hx
      rw [hl t x id off rfl hx]
    · rfl
    · rfl
  case store t x y => simp only [effOf, (h x (by simp [Op.operands])).1, (h y (by simp [Op.operands])).2]
  case fieldAddr s x f => simp only [effOf, (h x (by simp [Op.operands])).1]
  case indexAddr t x i => simp only [effOf, (h x (by simp [Op.operands])).1, (h x (by simp [Op.operands])).2, (h i (by simp [Op.operands])).2]
  case binOp op t x y yt => simp only [effOf, (h x (by simp [Op.operands])).2, (h y (by simp [Op.operands])).2]
  case unOp op t x => simp only [effOf, (h x (by simp [Op.operands])).2]
  case convert s d x => simp only [effOf, (h x (by simp [Op.operands])).2]
  case makeInterface t x => simp only [effOf, (h x (by simp [Op.operands])).2]
  case extract t i => simp only [effOf, (h t (by simp [Op.operands])).2]
  case field t x f => simp only [effOf, (h x (by simp [Op.operands])).2]
  case index t x i => simp only [effOf, (h x (by simp [Op.operands])).2, (h i (by simp [Op.operands])).2]
  case build t ps =>
    have e := parts_same (st := st) (st' := st') (l := ps.toList) (fun x hx => h x.2 (by simp only [Op.operands]; simp; exact ⟨x.1, by simpa using hx⟩))
    simp only [effOf, e]
  case buildSlice t len ps =>
    have e := parts_same (st := st) (st' := st') (l := ps.toList) (fun x hx => h x.2 (by simp only [Op.operands]; simp; exact ⟨x.1, by simpa using hx⟩))
    simp only [effOf, e]
  case makeFunc fn first captured =>
    have e1 := vals_same (st := st) (st' := st') (l := first.toList) (fun x hx => h x (by simp only [Op.operands]; simp; exact .inl (by simpa using hx)))
    have e2 := vals_same (st := st) (st' := st') (l := captured.toList) (fun x hx => h x (by simp only [Op.operands]; simp; exact .inr (by simpa using hx)))
    simp only [effOf, e1, e2]
  case nilCheck x => simp only [effOf, (h x (by simp [Op.operands])).1]
  case call c =>
    obtain ⟨callee, args, argTypes⟩ := c
    have ea := vals_same (st := st) (st' := st') (l := args.toList) (fun x hx => h x (by simp only [Op.operands, Call.operands]; simp; exact .inr (by simpa using hx)))
    cases callee with
    | value f =>
      have ef := (h f (by simp [Op.operands, Call.operands])).2
      simp only [effOf, ea, ef]
    | invoke r m => rfl
    | builtin b =>
      cases b <;> try (simp only [effOf, ea]; done)
      case append =>
        simp only [effOf]
        split
        · rename_i s x t t' hargs htypes
          have hs := h s (by simp only [Op.operands, Call.operands]; simp; have : s ∈ args.toList := by rw [hargs]; simp
                             simpa using this)
          have hx := h x (by simp only [Op.operands, Call.operands]; simp; have : x ∈ args.toList := by rw [hargs]; simp
                             simpa using this)
          simp only [hs.1, hx.2]
        · rfl
      all_goals rfl
  all_goals rfl
end Go.X
