/- One part of a proof: an evaluator of the model, shown right, and contracts that it yields. No condition beyond those that each theorem names. -/
import Derived.Test.YtenpginanhnkbaaXD3
namespace Go.X
open Go.RowKit
section
variable {P : Program} {ops : Array Oper}

theorem opd_own {env : Nat → Option SV} {x : Operand} {s : SV} {i : Nat} (h : opd env x = some s) (hn : s.name = some i) : ∃ t, x = .tmp t ∧ env t = some s := by
  cases x with
  | tmp t => exact ⟨t, rfl, h⟩
  | const v => cases v <;> simp only [opd, Option.some.injEq] at h <;> subst h <;> cases hn
  | global g => simp only [opd, Option.some.injEq] at h; subst h; cases hn
  | func f => simp only [opd, Option.some.injEq] at h; subst h; cases hn

/-- whence a named value comes -/
def From (ops : Array Oper) (o : Oper) (st : St) (s : SV) : Prop := ∀ i, s.name = some i → ∃ t ∈ looks ops o, ∃ s', st.env t = some s' ∧ s'.name = some i ∧ (∀ j, s = .row j → s' = .row j) ∧ ∀ j k, s = .own j k → ∃ k', s' = .own j k'
theorem From.v {o : Oper} {st : St} {x : Value} : From ops o st (.v x) := fun i hi => by cases hi
theorem From.opd {o : Oper} {st : St} {x : Operand} {s : SV} (hx : x ∈ o.op.operands) (h : X.opd st.env x = some s) : From ops o st s := fun i hi => by
  obtain ⟨t, rfl, ht⟩ := opd_own h hi
  exact ⟨t, mem_looks hx, s, ht, hi, fun j hj => hj, fun j k hj => ⟨k, hj⟩⟩

def Eff.from (ops : Array Oper) (o : Oper) (st : St) : Eff → Prop
  | .val s => From ops o st s
  | .pick _ s t => From ops o st s ∧ From ops o st t
  | _ => True
theorem pureVal_from {o : Oper} {st : St} (s : Sem Value) : (pureVal P s).from ops o st := by
  unfold pureVal; split
  · exact From.v
  · trivial

set_option maxHeartbeats 1000000 in
theorem effOf_from {o : Oper} {st : St} : (effOf P o st).from ops o st := by
  obtain ⟨dst, op, type, pos, after, guard⟩ := o
  cases op
  case move x => simp only [effOf]; split; · exact From.opd (x := x) (by simp [Op.operands]) ‹_›
                 · trivial
  case assign x => simp only [effOf]; split; · exact From.opd (x := x) (by simp [Op.operands]) ‹_›
                   · trivial
  case pick c x y =>
    simp only [effOf]
    split
    · split
      · exact From.opd (x := x) (by simp [Op.operands]) ‹_›
      · trivial
    · split
      · exact From.opd (x := y) (by simp [Op.operands]) ‹_›
      · trivial
    · split
      · exact ⟨From.opd (x := x) (by simp [Op.operands]) ‹_›, From.opd (x := y) (by simp [Op.operands]) ‹_›⟩
      · trivial
    · trivial
  case fieldAddr s x f =>
    simp only [effOf]
    split
    · rename_i id off k hx hk
      intro i hi
      obtain ⟨t, hm, s', hs, hn, _, hj⟩ := From.opd (ops := ops) (o := ⟨dst, .fieldAddr s x f, type, pos, after, guard⟩) (x := x) (by simp [Op.operands]) hx i hi
      exact ⟨t, hm, s', hs, hn, (fun j hj => by cases hj), (fun j k hjk => by cases hjk; exact hj _ _ rfl)⟩
    · exact From.v
    · trivial
  case indexAddr t x i =>
    simp only [effOf]
    split
    · split <;> trivial
    · split
      · rename_i id off k m z hx hi hz
        split
        · intro i' hi'
          obtain ⟨t', hm, s', hs, hn, _, hj⟩ := From.opd (ops := ops) (o := ⟨dst, .indexAddr t x i, type, pos, after, guard⟩) (x := x) (by simp [Op.operands]) hx i' hi'
          exact ⟨t', hm, s', hs, hn, (fun j hj => by cases hj), (fun j k hjk => by cases hjk; exact hj _ _ rfl)⟩
        · trivial
      · split
        · exact From.v
        · trivial
      · trivial
    · trivial
  case nilCheck x =>
    simp only [effOf]
    split
    · exact From.opd (x := x) (by simp [Op.operands]) ‹_›
    · exact From.v
    · trivial
  case call c =>
    obtain ⟨callee, args, argTypes⟩ := c
    cases callee with
    | value f => simp only [effOf]; repeat' split
                 all_goals trivial
    | invoke r m => trivial
    | builtin b =>
      cases b <;> simp only [effOf] <;> repeat' split
      all_goals first | exact pureVal_from _ | trivial
  all_goals
    simp only [effOf]
    repeat' split
    all_goals first | exact pureVal_from _ | exact From.v | trivial


/-- what it yields by name has a value -/
def EffWF (mem : Nat → Option Res) : Eff → Prop
  | .val s => ∃ v, toVal mem s = some v
  | .pick _ s t => (∃ v, toVal mem s = some v) ∧ ∃ v, toVal mem t = some v
  | _ => True
theorem From.wf {o : Oper} {st : St} {s : SV} (hwf : WF st) (h : From ops o st s) : ∃ v, toVal st.mem s = some v := by
  cases s with
  | v x => exact ⟨_, rfl⟩
  | kb b => exact ⟨_, rfl⟩
  | own i off =>
    obtain ⟨t, _, s', hs, hn, _, hj⟩ := h i rfl
    obtain ⟨k', rfl⟩ := hj i off rfl
    obtain ⟨v, hv⟩ := hwf t _ hs
    simp only [toVal] at hv ⊢
    split at hv
    · exact ⟨_, rfl⟩
    · cases hv
  | row i =>
    obtain ⟨t, _, s', hs, hn, hj, _⟩ := h i rfl
    rw [hj i rfl] at hs
    exact hwf t _ hs
theorem effOf_wf {o : Oper} {st : St} (hwf : WF st) : EffWF st.mem (effOf P o st) := by
  have h := effOf_from (P := P) (ops := #[]) (o := o) (st := st)
  generalize effOf P o st = e at h
  cases e with
  | val s => exact From.wf hwf h
  | pick c s t => exact ⟨From.wf hwf h.1, From.wf hwf h.2⟩
  | _ => trivial
end
end Go.X
