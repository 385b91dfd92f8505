/- One part of a proof: an evaluator of the model, shown right, and contracts that it yields. No condition beyond those that each theorem names. -/
import Derived.Test.YtenpginanhnkbaaXD2
namespace Go.X
open Go.RowKit
section
variable {P : Program} {ops : Array Oper}

def WF (st : St) : Prop := ∀ k s, st.env k = some s → ∃ v, toVal st.mem s = some v
theorem Inv.wf {w0 : World} {M : Nat → Prop} {V0 : View} {n : Nat} {st : St} {V : View} {a : Act} {w : World} (h : Inv w0 M V0 n st V a w) : WF st := fun k s hk => ⟨_, h.env k s hk⟩

/-- the temporaries that an operation looks at -/
def looks (ops : Array Oper) (o : Oper) : List Nat :=
  (o.op.operands.toList.filterMap fun | .tmp t => some t | _ => none) ++ (match o.guard with | some (j, _) => (match dstOf ops j with | some d => [d] | none => []) | none => [])

theorem mem_looks {o : Oper} {t : Nat} (h : Operand.tmp t ∈ o.op.operands) : t ∈ looks ops o := by
  unfold looks
  refine List.mem_append.2 (.inl (List.mem_filterMap.2 ⟨.tmp t, by simpa using h, rfl⟩))

theorem guardOf_same {o : Oper} {env env' : Nat → Option SV} (h : ∀ t ∈ looks ops o, env' t = env t) : guardOf ops o env' = guardOf ops o env := by
  unfold guardOf
  cases hg : o.guard with
  | none => rfl
  | some jw =>
    obtain ⟨j, want⟩ := jw
    simp only
    cases hd : dstOf ops j with
    | none => rfl
    | some d =>
      simp only
      rw [h d (by unfold looks; rw [hg]; simp [hd])]

/-- what a state must have in common with another for an operation to do the same -/
structure Like (ops : Array Oper) (o : Oper) (st st' : St) : Prop where
  env : ∀ t ∈ looks ops o, st'.env t = st.env t
  val : ∀ t ∈ looks ops o, ∀ s, st.env t = some s → toVal st'.mem s = toVal st.mem s
  load : ∀ t a id off, o.op = .load t a → opd st.env a = some (.own id off) → st'.mem id = st.mem id

theorem Like.effOf {o : Oper} {st st' : St} (h : Like ops o st st') : X.effOf P o st' = X.effOf P o st := by
  refine effOf_same (fun x hx => ?_) h.load
  cases x with
  | tmp t =>
    have ht := mem_looks (ops := ops) hx
    have he := h.env t ht
    refine ⟨he, ?_⟩
    unfold St.val
    simp only [X.opd, he]
    cases hs : st.env t with
    | none => rfl
    | some s => exact h.val t ht s hs
  | const v => cases v <;> exact ⟨rfl, rfl⟩
  | global g => exact ⟨rfl, rfl⟩
  | func f => exact ⟨rfl, rfl⟩
theorem Like.guard {o : Oper} {st st' : St} (h : Like ops o st st') : guardOf ops o st'.env = guardOf ops o st.env := guardOf_same h.env

/-! ## quiet operations -/
def qv (P : Program) (V : View) (s : SV) : Eff → Prop
  | .val s' => s = s'
  | .pick c a b => s = if c then a else b
  | .ldv t b off n => ∃ l v, l.length = n ∧ V.has b off l ∧ asVar P t l = some v ∧ s = .v v
  | .idx base len i size => ∃ b off, base = some ⟨b, off, none⟩ ∧ 0 ≤ i ∧ i < len ∧ s = .v (.pointer (some ⟨b, off + i.toNat * size, none⟩))
  | .sem x => ∃ y, (∀ w, x.run P w = .ok y w) ∧ s = .v y
  | _ => False
theorem qv_mono {V V' : View} (h : V.le V') {s : SV} {e : Eff} (hq : qv P V s e) : qv P V' s e := by
  cases e with
  | ldv t b off n => obtain ⟨l, v, h1, h2, h3, h4⟩ := hq; exact ⟨l, v, h1, h2.mono h, h3, h4⟩
  | _ => exact hq

def quietVal (P : Program) (ops : Array Oper) (o : Oper) (st : St) (V : View) (s : SV) : Prop := match guardOf ops o st.env with
  | some (none, true) => qv P V s (effOf P o st)
  | some (none, false) => s = .v undef
  | some (some b, true) => if b then qv P V s (effOf P o st) else s = .v undef
  | some (some b, false) => if b then s = .v undef else qv P V s (effOf P o st)
  | none => False

theorem dQ_quiet {o : Oper} {e : Eff} {rdL rdR : List Nat} {mem : Nat → Option Res} {V : View} {K : Upd → View → Prop} (hq : e.quiet = true) :
    dQ P o e rdL rdR mem V K ↔ ∃ s, qv P V s e ∧ K (.put o.dst s) V := by
  cases e <;> simp only [Eff.quiet] at hq <;> try (exact absurd hq (by decide))
  case val s => exact ⟨fun h => ⟨s, rfl, h⟩, fun ⟨s', h1, h2⟩ => by cases h1; exact h2⟩
  case pick c a b =>
    refine ⟨fun h => ?_, fun ⟨s, h1, h2⟩ => ?_⟩
    · cases c with
      | true => exact ⟨a, rfl, h.yes rfl⟩
      | false => exact ⟨b, rfl, h.no rfl⟩
    · simp only [qv] at h1
      subst h1
      exact ⟨fun hc => by subst hc; exact h2, fun hc => by subst hc; exact h2⟩
  case ldv t b off n =>
    refine ⟨fun h => ?_, fun ⟨s, ⟨l, v, h1, h2, h3, h4⟩, hk⟩ => ⟨l, h1, h2, by subst h4; simp only [h3]; exact hk⟩⟩
    obtain ⟨l, h1, h2, h3⟩ := h.get
    split at h3
    · rename_i v hv; exact ⟨.v v, ⟨l, v, h1, h2, hv, rfl⟩, h3⟩
    · exact h3.no.elim
  case idx base len i size =>
    refine ⟨fun h => ?_, fun ⟨s, ⟨b, off, h1, h2, h3, h4⟩, hk⟩ => ⟨b, off, h1, h2, h3, by subst h4; exact hk⟩⟩
    obtain ⟨b, off, h1, h2, h3, h4⟩ := h.get
    exact ⟨_, ⟨b, off, h1, h2, h3, rfl⟩, h4⟩
  case sem x =>
    refine ⟨fun h => ?_, fun ⟨s, ⟨y, h1, h4⟩, hk⟩ => ⟨y, h1, by subst h4; exact hk⟩⟩
    obtain ⟨y, h1, h3⟩ := h.get
    exact ⟨_, ⟨y, h1, rfl⟩, h3⟩
  case bad => exact ⟨fun h => h.no.elim, fun ⟨_, h, _⟩ => h.elim⟩

theorem act_quiet {o : Oper} {rdL rdR : List Nat} {st : St} {V : View} {K : Upd → View → Prop} (hq : isQuiet o = true) :
    act P ops o rdL rdR st V K ↔ ∃ s, quietVal P ops o st V s ∧ K (.put o.dst s) V := by
  have hd := dQ_quiet (P := P) (o := o) (rdL := rdL) (rdR := rdR) (mem := st.mem) (V := V) (K := K) (effOf_quiet (P := P) (st := st) hq)
  unfold act quietVal
  generalize guardOf ops o st.env = g
  rcases g with _ | ⟨_ | b, w⟩
  · exact ⟨fun h => h.no.elim, fun ⟨_, h, _⟩ => h.elim⟩
  · cases w
    · exact ⟨fun h => ⟨_, rfl, h⟩, fun ⟨s, h1, h2⟩ => by cases h1; exact h2⟩
    · exact hd
  · cases w <;> cases b <;> simp only [if_true, if_false, Bool.false_eq_true]
    · exact ⟨fun h => hd.1 (h.no rfl), fun h => ⟨(fun h => by cases h), fun _ => hd.2 h⟩⟩
    · exact ⟨fun h => ⟨_, rfl, h.yes rfl⟩, fun ⟨s, h1, h2⟩ => ⟨(fun _ => by cases h1; exact h2), (fun h => by cases h)⟩⟩
    · exact ⟨fun h => ⟨_, rfl, h.no rfl⟩, fun ⟨s, h1, h2⟩ => ⟨(fun h => by cases h), (fun _ => by cases h1; exact h2)⟩⟩
    · exact ⟨fun h => hd.1 (h.yes rfl), fun h => ⟨fun _ => hd.2 h, (fun h => by cases h)⟩⟩

theorem quietVal_like {o : Oper} {st st' : St} {V V' : View} {s : SV} (h : Like ops o st st') (hV : V.le V') (hq : quietVal P ops o st V s) : quietVal P ops o st' V' s := by
  unfold quietVal at *
  rw [h.guard, h.effOf]
  revert hq
  generalize guardOf ops o st.env = g
  rcases g with _ | ⟨_ | b, w⟩
  · exact id
  · cases w
    · exact id
    · exact qv_mono hV
  · cases w <;> cases b <;> simp only [if_true, if_false, Bool.false_eq_true] <;> first | exact id | exact qv_mono hV
end
end Go.X
