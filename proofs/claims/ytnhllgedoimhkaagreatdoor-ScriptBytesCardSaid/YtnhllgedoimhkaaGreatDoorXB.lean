/- One part of a proof: an evaluator of the model, shown right, and contracts that it yields. No condition beyond those that each theorem names. -/
import Derived.Test.YtnhllgedoimhkaaGreatDoorXA
set_option linter.unusedSimpArgs false
set_option linter.unusedVariables false
set_option linter.unusedSectionVars false
set_option linter.deprecated false
section
namespace Go.X
open Go.RowKit
def memB (i : Nat) : List Nat → Bool
 | [] => false
 | j :: l => match Nat.beq i j with | true => true | false => memB i l
theorem memB_false {i : Nat} : ∀ {l : List Nat}, memB i l = false → i ∉ l
 | [], _ => by simp
 | j :: l, h => by
  unfold memB at h
  split at h
  ·cases h
  ·rename_i hb
   simp only [List.mem_cons, not_or]
   refine ⟨fun e => ?_, memB_false h⟩
   subst e; rw [Nat.beq_refl] at hb; cases hb
theorem memB_of_not {i : Nat} : ∀ {l : List Nat}, i ∉ l → memB i l = false
 | [], _ => rfl
 | j :: l, h => by
  simp only [List.mem_cons, not_or] at h
  unfold memB
  have : Nat.beq i j = false := by
   cases hb : Nat.beq i j with
   | false => rfl
   | true => exact absurd (Nat.eq_of_beq_eq_true hb) h.1
  rw [this]; exact memB_of_not h.2
structure Prot (rd : List Nat) (dst : Option Nat) (m' m : Nat → Option Res) (X : Prop) : Prop where
 same : ∀ i ∈ rd, m' i = m i
 fresh : ∀ i, m i = none → dst ≠ some i → m' i = none
 go : X
theorem Prot.refl {rd : List Nat} {dst : Option Nat} {m : Nat → Option Res} {X : Prop} (h : X) : Prot rd dst m m X := ⟨fun _ _ => rfl, fun _ h _ => h, h⟩
theorem Prot.box {rd : List Nat} {dst : Option Nat} {m : Nat → Option Res} {X : Prop} {id : Nat} {r r0 : Res} (hm : m id = some r0) (hd : memB id rd = false) (h : X) : Prot rd dst (upd (del m id) id r) m X :=
 ⟨fun i hi => by
  have hne : i ≠ id := fun e => memB_false hd (e ▸ hi)
  rw [upd_ne _ _ hne, del_ne _ hne], fun i hi _ => by
  have hne : i ≠ id := fun e => by subst e; rw [hm] at hi; cases hi
  rw [upd_ne _ _ hne, del_ne _ hne]; exact hi, h⟩
theorem Prot.new {rd : List Nat} {dst : Option Nat} {m : Nat → Option Res} {X : Prop} {id : Nat} {r : Res} (hid : dst = some id) (hd : memB id rd = false) (h : X) : Prot rd dst (upd m id r) m X :=
 ⟨fun _ hi => upd_ne _ _ (fun e => memB_false hd (e ▸ hi)), fun i hi hne => by rw [upd_ne _ _ (fun e => hne (by rw [hid, e]))]; exact hi, h⟩
inductive Upd where
 | put (d : Option Nat) (s : SV)
 | box (d : Nat) (r : Res)
 | mem (m : Nat → Option Res) (d : Option Nat) (s : SV)
 | row (g : Option Nat) (d : Nat) (r : Res)
def Upd.app (u : Upd) (st : St) : St := match u with
 | .put d s => st.put d s
 | .box d r => ⟨upd st.env d (.own d 0), upd st.mem d r⟩
 | .mem m d s => (⟨st.env, m⟩ : St).put d s
 | .row g d r => st.newRow g d r
def View.addU (V : View) (b : Nat) (cells : List Value) : View := fun k o => match V k o with | some v => some v | none => if k = b then cells[o]? else none
theorem View.addU_le (V : View) (b : Nat) (cells : List Value) : V.le (V.addU b cells) := fun k o v hv => by simp [View.addU, hv]
structure LitOk (V : View) (mem : Nat → Option Res) (b : Nat) (cells : List Value) : Prop where
 has : (V.addU b cells).has b 0 cells
 free : cells ≠ [] → ∀ i r, mem i = some r → r.blk ≠ some b
def goneOk (d : Nat) (mem : Nat → Option Res) (g : Option Nat) (rdR : List Nat) : Bool := match g with
 | none => (match mem d with | none => true | some _ => false)
 | some g => (match memB g rdR with | true => false | false => (match Nat.beq g d with | true => true | false => (match mem d with | none => true | some _ => false)))
structure AppVD (V : View) (mem : Nat → Option Res) (rdR : List Nat) (d : Nat) (v : Value) (e : TypeId) (size bytes : Nat) (x : Value) (K : Option Nat → Value → Nat → View → Prop) (K0 : Prop) : Prop where
 get : ∃ id n, match mem id with
  | some r => r = .row v e size n ∧ goneOk d mem (some id) rdR = true ∧ AppN V mem (some id) v n size bytes x (K (some id))
  | none => (FullS v n x ∧ goneOk d mem none rdR = true ∧ AppF V mem v n size bytes x (K none)) ∨ (NoneS v n x ∧ K0)
theorem AppVD.full {V : View} {mem : Nat → Option Res} {rdR : List Nat} {d : Nat} {e : TypeId} {size bytes : Nat} {K : Option Nat → Value → Nat → View → Prop} {K0 : Prop} (id : Nat) {b off n m cx : Nat} {bx : Option Addr} (hm : mem id = none) (hg : goneOk d mem none rdR = true) (h : AppF V mem (.slice (some ⟨b, off, none⟩) n n) n size bytes (.slice bx (m + 1) cx) (K none)) :
  AppVD V mem rdR d (.slice (some ⟨b, off, none⟩) n n) e size bytes (.slice bx (m + 1) cx) K K0 := ⟨⟨id, n, by rw [hm]; exact .inl ⟨⟨b, off, m, rfl, .inl ⟨_, _, rfl⟩⟩, hg, h⟩⟩⟩
def dQ (P : Program) (o : Oper) (e : Eff) (rdL rdR : List Nat) (mem : Nat → Option Res) (V : View) (K : Upd → View → Prop) : Prop :=
 match e with
 | .val s => K (.put o.dst s) V
 | .pick c s t => Br c (K (.put o.dst s) V) (K (.put o.dst t) V)
 | .ldv f b off n => LoadN V (fun _ => none) b off n (fun l => match f l with | some v => K (.put o.dst (.v v)) V | none => Stuck o)
 | .idx base len i size => IdxN base len i size (fun b off => K (.put o.dst (.v (.pointer (some ⟨b, off, none⟩)))) V)
 | .sem s => SemN P s (fun v => K (.put o.dst (.v v)) V)
 | .box t cells => match o.dst with
  | some d => (match mem d with | none => ∀ blk : Nat, (∀ o, V blk o = none) → K (.box d (.box blk t cells)) V | some _ => Stuck o)
  | none => Stuck o
 | .lit _ len cells => ∀ b : Nat, LitOk V mem b cells → K (.put o.dst (.v (.slice (some ⟨b, 0, none⟩) len len))) (V.addU b cells)
 | .sto false id off cells => match mem id with
  | some (.box b t old) => (match Nat.ble (off + cells.length) old.length, memB id rdL with | true, false => K (.mem (upd mem id (.box b t (setAt old off cells))) o.dst (.v undef)) V | _, _ => Stuck o)
  | _ => Stuck o
 | .sto true _ _ _ => Stuck o
 | .call f args => CallN P f args V mem (fun s V' mem' => Prot rdL o.dst mem' mem (K (.mem mem' o.dst s) V'))
 | .app s e size bytes x => match o.dst with
  | some d => (match s with
   | .row id => (match goneOk d mem (some id) rdR with
    | true => (match mem id with
     | some (.row v ty sz n) => (match Nat.beq ty e, Nat.beq sz size with
      | true, true => AppN V mem (some id) v n size bytes x (fun v' n' V' => K (.row (some id) d (.row v' e size n')) V')
      | _, _ => Stuck o)
     | _ => Stuck o)
    | false => Stuck o)
   | .v (.slice base 0 0) => (match goneOk d mem none rdR with
    | true => AppN V mem none (.slice base 0 0) 0 size bytes x (fun v' n' V' => K (.row none d (.row v' e size n')) V')
    | false => Stuck o)
   | .v v => AppVD V mem rdR d v e size bytes x (fun g v' n' V' => K (.row g d (.row v' e size n')) V') (K (.put (some d) (.v v)) V)
   | _ => Stuck o)
  | none => Stuck o
 | .bad => Stuck o
def guardOf (ops : Array Oper) (o : Oper) (env : Nat → Option SV) : Option (Option Bool × Bool) := match o.guard with
 | none => some (none, true)
 | some (j, want) => match dstOf ops j with
  | none => none
  | some d => match env d with
   | some (.kb b) => (match b, want with | true, true => some (none, true) | false, false => some (none, true) | _, _ => some (none, false))
   | some (.v (.bool b)) => some (some b, want)
   | some (.v (.tuple _)) => some (none, false)
   | _ => none
def act (P : Program) (ops : Array Oper) (o : Oper) (rdL rdR : List Nat) (st : St) (V : View) (K : Upd → View → Prop) : Prop :=
 match guardOf ops o st.env with
 | some (none, true) => dQ P o (effOf P o st) rdL rdR st.mem V K
 | some (none, false) => K (.put o.dst (.v undef)) V
 | some (some b, true) => Br b (dQ P o (effOf P o st) rdL rdR st.mem V K) (K (.put o.dst (.v undef)) V)
 | some (some b, false) => Br b (K (.put o.dst (.v undef)) V) (dQ P o (effOf P o st) rdL rdR st.mem V K)
 | none => Stuck o
def isQuiet (o : Oper) : Bool := match o.op with
 | .move _ | .assign _ | .pick .. | .load .. | .fieldAddr .. | .indexAddr .. | .binOp .. | .unOp .. | .convert .. | .makeInterface .. | .extract .. | .field .. | .index .. | .build .. | .makeFunc .. | .nilCheck _ | .slice .. => true
 | .call c => (match c.callee with | .builtin .len | .builtin .cap | .builtin .min | .builtin .max => true | _ => false)
 | _ => false
def isLate (o : Oper) : Bool := match o.op with
 | .box .. | .alloc _ | .buildSlice .. => true
 | _ => false
def Eff.quiet : Eff → Bool
 | .val _ | .pick .. | .ldv .. | .idx .. | .sem .. | .bad => true
 | _ => false
def Eff.late : Eff → Bool
 | .box .. | .lit .. | .bad => true
 | _ => false
theorem pureVal_quiet (P : Program) (s : Sem Value) : (pureVal P s).quiet = true := by
 unfold pureVal; split <;> rfl
set_option maxHeartbeats 1000000 in
theorem effOf_quiet {P : Program} {o : Oper} {st : St} (h : isQuiet o = true) : (effOf P o st).quiet = true := by
 obtain ⟨dst, op, type, pos, after, guard⟩ := o
 cases op <;> simp only [isQuiet] at h <;> try (exact absurd h (by decide))
 case call c =>
  obtain ⟨callee, args, argTypes⟩ := c
  cases callee <;> simp only at h <;> try (exact absurd h (by decide))
  rename_i b
  cases b <;> simp only at h <;> try (exact absurd h (by decide))
  all_goals
   simp only [effOf]
   split <;> first | exact pureVal_quiet _ _ | rfl
 all_goals
  simp only [effOf]
  repeat' split
  all_goals first | rfl | exact pureVal_quiet _ _
def SameOp (st st' : St) (x : Operand) : Prop := opd st'.env x = opd st.env x ∧ st'.val x = st.val x
theorem vals_same {st st' : St} : ∀ {l : List Operand}, (∀ x ∈ l, SameOp st st' x) → st'.vals l = st.vals l
 | [], _ => rfl
 | x :: l, h => by
  simp only [St.vals, (h x (by simp)).2, vals_same (l := l) (fun y hy => h y (by simp [hy]))]
theorem parts_same {st st' : St} : ∀ {l : List (Nat × Operand)}, (∀ x ∈ l, SameOp st st' x.2) → st'.parts l = st.parts l
 | [], _ => rfl
 | (i, x) :: l, h => by
  simp only [St.parts, (h (i, x) (by simp)).2, parts_same (l := l) (fun y hy => h y (by simp [hy]))]
theorem optv_same {st st' : St} {x : Option Operand} (h : ∀ y, x = some y → SameOp st st' y) : st'.optv x = st.optv x := by
 cases x with
 | none => rfl
 | some y => simp only [St.optv, (h y rfl).2]
theorem effOf_same {P : Program} {o : Oper} {st st' : St} (h : ∀ x ∈ o.op.operands, SameOp st st' x)
    (hl : ∀ t a id off, o.op = .load t a → opd st.env a = some (.own id off) → st'.mem id = st.mem id) : effOf P o st' = effOf P o st := by
  obtain ⟨dst, op, type, pos, after, guard⟩ := o
  cases op
  case move x => simp only [effOf, (h x (by simp [Op.operands])).1]
  case assign x => simp only [effOf, (h x (by simp [Op.operands])).1]
  case pick c x y => simp only [effOf, (h c (by simp [Op.operands])).1, (h x (by simp [Op.operands])).1, (h y (by simp [Op.operands])).1]
  case box t x => simp only [effOf, (h x (by simp [Op.operands])).2]
  case load t x =>
    have e := (h x (by simp [Op.operands])).1
    simp only [effOf, e]
    split
    · rename_i id off hx
      rw [hl t x id off rfl hx]
    · rfl
    · rfl
  case store t x y => simp only [effOf, (h x (by simp [Op.operands])).1, (h y (by simp [Op.operands])).2]
  case fieldAddr s x f => simp only [effOf, (h x (by simp [Op.operands])).1]
  case indexAddr t x i => simp only [effOf, (h x (by simp [Op.operands])).1, (h x (by simp [Op.operands])).2, (h i (by simp [Op.operands])).2]
  case binOp op t x y yt => simp only [effOf, (h x (by simp [Op.operands])).2, (h y (by simp [Op.operands])).2]
  case unOp op t x => simp only [effOf, (h x (by simp [Op.operands])).2]
  case convert s d x => simp only [effOf, (h x (by simp [Op.operands])).2]
  case makeInterface t x => simp only [effOf, (h x (by simp [Op.operands])).2]
  case extract t i => simp only [effOf, (h t (by simp [Op.operands])).2]
  case field t x f => simp only [effOf, (h x (by simp [Op.operands])).2]
  case index t x i => simp only [effOf, (h x (by simp [Op.operands])).2, (h i (by simp [Op.operands])).2]
  case build t ps =>
    have e := parts_same (st := st) (st' := st') (l := ps.toList) (fun x hx => h x.2 (by simp only [Op.operands]; simp; exact ⟨x.1, by simpa using hx⟩))
    simp only [effOf, e]
  case buildSlice t len ps =>
    have e := parts_same (st := st) (st' := st') (l := ps.toList) (fun x hx => h x.2 (by simp only [Op.operands]; simp; exact ⟨x.1, by simpa using hx⟩))
    simp only [effOf, e]
  case slice t x lo hi mx =>
    have e0 := (h x (by simp [Op.operands])).2
    have e1 := optv_same (x := lo) (fun y hy => h y (by simp [Op.operands, hy]))
    have e2 := optv_same (x := hi) (fun y hy => h y (by simp [Op.operands, hy]))
    have e3 := optv_same (x := mx) (fun y hy => h y (by simp [Op.operands, hy]))
    simp only [effOf, e0, e1, e2, e3]
  case makeFunc fn first captured =>
    have e1 := vals_same (st := st) (st' := st') (l := first.toList) (fun x hx => h x (by simp only [Op.operands]; simp; exact .inl (by simpa using hx)))
    have e2 := vals_same (st := st) (st' := st') (l := captured.toList) (fun x hx => h x (by simp only [Op.operands]; simp; exact .inr (by simpa using hx)))
    simp only [effOf, e1, e2]
  case nilCheck x => simp only [effOf, (h x (by simp [Op.operands])).1]
  case call c =>
    obtain ⟨callee, args, argTypes⟩ := c
    have ea := vals_same (st := st) (st' := st') (l := args.toList) (fun x hx => h x (by simp only [Op.operands, Call.operands]; simp; exact .inr (by simpa using hx)))
    cases callee with
    | value f =>
      have ef := (h f (by simp [Op.operands, Call.operands])).2
      simp only [effOf, ea, ef]
    | invoke r m => rfl
    | builtin b =>
      cases b <;> try (simp only [effOf, ea]; done)
      case append =>
        simp only [effOf]
        split
        · rename_i s x t t' hargs htypes
          have hs := h s (by simp only [Op.operands, Call.operands]; simp; have : s ∈ args.toList := by rw [hargs]; simp
                             simpa using this)
          have hx := h x (by simp only [Op.operands, Call.operands]; simp; have : x ∈ args.toList := by rw [hargs]; simp
                             simpa using this)
          simp only [hs.1, hx.2]
        · rfl
      all_goals rfl
  all_goals rfl
section
variable {P : Program} {ops : Array Oper}
def WF (st : St) : Prop := ∀ k s, st.env k = some s → ∃ v, toVal st.mem s = some v
theorem Inv.wf {w0 : World} {M : Nat → Prop} {V0 : View} {n : Nat} {st : St} {V : View} {a : Act} {w : World} (h : Inv w0 M V0 n st V a w) : WF st := fun k s hk => ⟨_, h.env k s hk⟩
def looks (ops : Array Oper) (o : Oper) : List Nat :=
 (o.op.operands.toList.filterMap fun | .tmp t => some t | _ => none) ++ (match o.guard with | some (j, _) => (match dstOf ops j with | some d => [d] | none => []) | none => [])
theorem mem_looks {o : Oper} {t : Nat} (h : Operand.tmp t ∈ o.op.operands) : t ∈ looks ops o := by
 unfold looks
 refine List.mem_append.2 (.inl (List.mem_filterMap.2 ⟨.tmp t, by simpa using h, rfl⟩))
theorem guardOf_same {o : Oper} {env env' : Nat → Option SV} (h : ∀ t ∈ looks ops o, env' t = env t) : guardOf ops o env' = guardOf ops o env := by
 unfold guardOf
 cases hg : o.guard with
 | none => rfl
 | some jw =>
  obtain ⟨j, want⟩ := jw
  simp only
  cases hd : dstOf ops j with
  | none => rfl
  | some d =>
   simp only
   rw [h d (by unfold looks; rw [hg]; simp [hd])]
structure Like (ops : Array Oper) (o : Oper) (st st' : St) : Prop where
 env : ∀ t ∈ looks ops o, st'.env t = st.env t
 val : ∀ t ∈ looks ops o, ∀ s, st.env t = some s → toVal st'.mem s = toVal st.mem s
 load : ∀ t a id off, o.op = .load t a → opd st.env a = some (.own id off) → st'.mem id = st.mem id
theorem Like.effOf {o : Oper} {st st' : St} (h : Like ops o st st') : X.effOf P o st' = X.effOf P o st := by
 refine effOf_same (fun x hx => ?_) h.load
 cases x with
 | tmp t =>
  have ht := mem_looks (ops := ops) hx
  have he := h.env t ht
  refine ⟨he, ?_⟩
  unfold St.val
  simp only [X.opd, he]
  cases hs : st.env t with
  | none => rfl
  | some s => exact h.val t ht s hs
 | const v => cases v <;> exact ⟨rfl, rfl⟩
 | global g => exact ⟨rfl, rfl⟩
 | func f => exact ⟨rfl, rfl⟩
theorem Like.guard {o : Oper} {st st' : St} (h : Like ops o st st') : guardOf ops o st'.env = guardOf ops o st.env := guardOf_same h.env
def qv (P : Program) (V : View) (s : SV) : Eff → Prop
 | .val s' => s = s'
 | .pick c a b => s = if c then a else b
 | .ldv f b off n => ∃ l v, l.length = n ∧ V.has b off l ∧ f l = some v ∧ s = .v v
 | .idx base len i size => ∃ b off, base = some ⟨b, off, none⟩ ∧ 0 ≤ i ∧ i < len ∧ s = .v (.pointer (some ⟨b, off + i.toNat * size, none⟩))
 | .sem x => ∃ y, (∀ w, x.run P w = .ok y w) ∧ s = .v y
 | _ => False
theorem qv_mono {V V' : View} (h : V.le V') {s : SV} {e : Eff} (hq : qv P V s e) : qv P V' s e := by
 cases e with
 | ldv t b off n => obtain ⟨l, v, h1, h2, h3, h4⟩ := hq; exact ⟨l, v, h1, h2.mono h, h3, h4⟩
 | _ => exact hq
def quietVal (P : Program) (ops : Array Oper) (o : Oper) (st : St) (V : View) (s : SV) : Prop := match guardOf ops o st.env with
 | some (none, true) => qv P V s (effOf P o st)
 | some (none, false) => s = .v undef
 | some (some b, true) => if b then qv P V s (effOf P o st) else s = .v undef
 | some (some b, false) => if b then s = .v undef else qv P V s (effOf P o st)
 | none => False
theorem dQ_quiet {o : Oper} {e : Eff} {rdL rdR : List Nat} {mem : Nat → Option Res} {V : View} {K : Upd → View → Prop} (hq : e.quiet = true) :
  dQ P o e rdL rdR mem V K ↔ ∃ s, qv P V s e ∧ K (.put o.dst s) V := by
 cases e <;> simp only [Eff.quiet] at hq <;> try (exact absurd hq (by decide))
 case val s => exact ⟨fun h => ⟨s, rfl, h⟩, fun ⟨s', h1, h2⟩ => by cases h1; exact h2⟩
 case pick c a b =>
  refine ⟨fun h => ?_, fun ⟨s, h1, h2⟩ => ?_⟩
  ·cases c with
   | true => exact ⟨a, rfl, h.yes rfl⟩
   | false => exact ⟨b, rfl, h.no rfl⟩
  ·simp only [qv] at h1
   subst h1
   exact ⟨fun hc => by subst hc; exact h2, fun hc => by subst hc; exact h2⟩
 case ldv t b off n =>
  refine ⟨fun h => ?_, fun ⟨s, ⟨l, v, h1, h2, h3, h4⟩, hk⟩ => ⟨l, h1, .inl h2, by subst h4; simp only [h3]; exact hk⟩⟩
  obtain ⟨l, h1, h2, h3⟩ := h.get
  split at h3
  ·rename_i v hv; exact ⟨.v v, ⟨l, v, h1, h2.none, hv, rfl⟩, h3⟩
  ·exact h3.no.elim
 case idx base len i size =>
  refine ⟨fun h => ?_, fun ⟨s, ⟨b, off, h1, h2, h3, h4⟩, hk⟩ => ⟨b, off, h1, h2, h3, by subst h4; exact hk⟩⟩
  obtain ⟨b, off, h1, h2, h3, h4⟩ := h.get
  exact ⟨_, ⟨b, off, h1, h2, h3, rfl⟩, h4⟩
 case sem x =>
  refine ⟨fun h => ?_, fun ⟨s, ⟨y, h1, h4⟩, hk⟩ => ⟨y, h1, by subst h4; exact hk⟩⟩
  obtain ⟨y, h1, h3⟩ := h.get
  exact ⟨_, ⟨y, h1, rfl⟩, h3⟩
 case bad => exact ⟨fun h => h.no.elim, fun ⟨_, h, _⟩ => h.elim⟩
theorem act_quiet {o : Oper} {rdL rdR : List Nat} {st : St} {V : View} {K : Upd → View → Prop} (hq : isQuiet o = true) :
  act P ops o rdL rdR st V K ↔ ∃ s, quietVal P ops o st V s ∧ K (.put o.dst s) V := by
 have hd := dQ_quiet (P := P) (o := o) (rdL := rdL) (rdR := rdR) (mem := st.mem) (V := V) (K := K) (effOf_quiet (P := P) (st := st) hq)
 unfold act quietVal
 generalize guardOf ops o st.env = g
 rcases g with _ | ⟨_ | b, w⟩
 ·exact ⟨fun h => h.no.elim, fun ⟨_, h, _⟩ => h.elim⟩
 ·cases w
  ·exact ⟨fun h => ⟨_, rfl, h⟩, fun ⟨s, h1, h2⟩ => by cases h1; exact h2⟩
  ·exact hd
 ·cases w <;> cases b <;> simp only [if_true, if_false, Bool.false_eq_true]
  ·exact ⟨fun h => hd.1 (h.no rfl), fun h => ⟨(fun h => by cases h), fun _ => hd.2 h⟩⟩
  ·exact ⟨fun h => ⟨_, rfl, h.yes rfl⟩, fun ⟨s, h1, h2⟩ => ⟨(fun _ => by cases h1; exact h2), (fun h => by cases h)⟩⟩
  ·exact ⟨fun h => ⟨_, rfl, h.no rfl⟩, fun ⟨s, h1, h2⟩ => ⟨(fun h => by cases h), (fun _ => by cases h1; exact h2)⟩⟩
  ·exact ⟨fun h => hd.1 (h.yes rfl), fun h => ⟨fun _ => hd.2 h, (fun h => by cases h)⟩⟩
theorem quietVal_like {o : Oper} {st st' : St} {V V' : View} {s : SV} (h : Like ops o st st') (hV : V.le V') (hq : quietVal P ops o st V s) : quietVal P ops o st' V' s := by
 unfold quietVal at *
 rw [h.guard, h.effOf]
 revert hq
 generalize guardOf ops o st.env = g
 rcases g with _ | ⟨_ | b, w⟩
 ·exact id
 ·cases w
  ·exact id
  ·exact qv_mono hV
 ·cases w <;> cases b <;> simp only [if_true, if_false, Bool.false_eq_true] <;> first | exact id | exact qv_mono hV
end
section
variable {P : Program} {ops : Array Oper}
theorem opd_own {env : Nat → Option SV} {x : Operand} {s : SV} {i : Nat} (h : opd env x = some s) (hn : s.name = some i) : ∃ t, x = .tmp t ∧ env t = some s := by
 cases x with
 | tmp t => exact ⟨t, rfl, h⟩
 | const v => cases v <;> simp only [opd, Option.some.injEq] at h <;> subst h <;> cases hn
 | global g => simp only [opd, Option.some.injEq] at h; subst h; cases hn
 | func f => simp only [opd, Option.some.injEq] at h; subst h; cases hn
def From (ops : Array Oper) (o : Oper) (st : St) (s : SV) : Prop := ∀ i, s.name = some i → ∃ t ∈ looks ops o, ∃ s', st.env t = some s' ∧ s'.name = some i ∧ (∀ j, s = .row j → s' = .row j) ∧ ∀ j k, s = .own j k → ∃ k', s' = .own j k'
theorem From.v {o : Oper} {st : St} {x : Value} : From ops o st (.v x) := fun i hi => by cases hi
theorem From.opd {o : Oper} {st : St} {x : Operand} {s : SV} (hx : x ∈ o.op.operands) (h : X.opd st.env x = some s) : From ops o st s := fun i hi => by
 obtain ⟨t, rfl, ht⟩ := opd_own h hi
 exact ⟨t, mem_looks hx, s, ht, hi, fun j hj => hj, fun j k hj => ⟨k, hj⟩⟩
def Eff.from (ops : Array Oper) (o : Oper) (st : St) : Eff → Prop
 | .val s => From ops o st s
 | .pick _ s t => From ops o st s ∧ From ops o st t
 | _ => True
theorem pureVal_from {o : Oper} {st : St} (s : Sem Value) : (pureVal P s).from ops o st := by
 unfold pureVal; split
 ·exact From.v
 ·trivial
set_option maxHeartbeats 1000000 in
theorem effOf_from {o : Oper} {st : St} : (effOf P o st).from ops o st := by
  obtain ⟨dst, op, type, pos, after, guard⟩ := o
  cases op
  case move x => simp only [effOf]; split; · exact From.opd (x := x) (by simp [Op.operands]) ‹_›
                 · trivial
  case assign x => simp only [effOf]; split; · exact From.opd (x := x) (by simp [Op.operands]) ‹_›
                   · trivial
  case pick c x y =>
    simp only [effOf]
    split
    · split
      · exact From.opd (x := x) (by simp [Op.operands]) ‹_›
      · trivial
    · split
      · exact From.opd (x := y) (by simp [Op.operands]) ‹_›
      · trivial
    · split
      · exact ⟨From.opd (x := x) (by simp [Op.operands]) ‹_›, From.opd (x := y) (by simp [Op.operands]) ‹_›⟩
      · trivial
    · trivial
  case fieldAddr s x f =>
    simp only [effOf]
    split
    · rename_i id off k hx hk
      intro i hi
      obtain ⟨t, hm, s', hs, hn, _, hj⟩ := From.opd (ops := ops) (o := ⟨dst, .fieldAddr s x f, type, pos, after, guard⟩) (x := x) (by simp [Op.operands]) hx i hi
      exact ⟨t, hm, s', hs, hn, (fun j hj => by cases hj), (fun j k hjk => by cases hjk; exact hj _ _ rfl)⟩
    · exact From.v
    · trivial
  case indexAddr t x i =>
    simp only [effOf]
    split
    · split <;> trivial
    · split
      · rename_i id off k m z hx hi hz
        split
        · intro i' hi'
          obtain ⟨t', hm, s', hs, hn, _, hj⟩ := From.opd (ops := ops) (o := ⟨dst, .indexAddr t x i, type, pos, after, guard⟩) (x := x) (by simp [Op.operands]) hx i' hi'
          exact ⟨t', hm, s', hs, hn, (fun j hj => by cases hj), (fun j k hjk => by cases hjk; exact hj _ _ rfl)⟩
        · trivial
      · split
        · exact From.v
        · trivial
      · trivial
    · trivial
  case nilCheck x =>
    simp only [effOf]
    split
    · exact From.opd (x := x) (by simp [Op.operands]) ‹_›
    · exact From.v
    · trivial
  case call c =>
    obtain ⟨callee, args, argTypes⟩ := c
    cases callee with
    | value f => simp only [effOf]; repeat' split
                 all_goals trivial
    | invoke r m => trivial
    | builtin b =>
      cases b <;> simp only [effOf] <;> repeat' split
      all_goals first | exact pureVal_from _ | trivial
  all_goals
    simp only [effOf]
    repeat' split
    all_goals first | exact pureVal_from _ | exact From.v | trivial
def EffWF (mem : Nat → Option Res) : Eff → Prop
 | .val s => ∃ v, toVal mem s = some v
 | .pick _ s t => (∃ v, toVal mem s = some v) ∧ ∃ v, toVal mem t = some v
 | _ => True
theorem From.wf {o : Oper} {st : St} {s : SV} (hwf : WF st) (h : From ops o st s) : ∃ v, toVal st.mem s = some v := by
 cases s with
 | v x => exact ⟨_, rfl⟩
 | kb b => exact ⟨_, rfl⟩
 | own i off =>
  obtain ⟨t, _, s', hs, hn, _, hj⟩ := h i rfl
  obtain ⟨k', rfl⟩ := hj i off rfl
  obtain ⟨v, hv⟩ := hwf t _ hs
  simp only [toVal] at hv ⊢
  split at hv
  ·exact ⟨_, rfl⟩
  ·cases hv
 | row i =>
  obtain ⟨t, _, s', hs, hn, hj, _⟩ := h i rfl
  rw [hj i rfl] at hs
  exact hwf t _ hs
theorem effOf_wf {o : Oper} {st : St} (hwf : WF st) : EffWF st.mem (effOf P o st) := by
 have h := effOf_from (P := P) (ops := #[]) (o := o) (st := st)
 generalize effOf P o st = e at h
 cases e with
 | val s => exact From.wf hwf h
 | pick c s t => exact ⟨From.wf hwf h.1, From.wf hwf h.2⟩
 | _ => trivial
end
section
variable {P : Program} {ops : Array Oper}
def Good (o : Oper) (rdL rdR : List Nat) (mem : Nat → Option Res) (V : View) (u : Upd) (V1 : View) : Prop := V.le V1 ∧ match u with
 | .put d s => d = o.dst ∧ ∃ v, toVal mem s = some v
 | .box d r => o.dst = some d ∧ mem d = none ∧ ∃ b t c, r = .box b t c
 | .mem m d s => d = o.dst ∧ (∀ t x, toVal mem t = some x → toVal m t = some x) ∧ (∀ i ∈ rdL, m i = mem i) ∧ (∃ v, toVal m s = some v) ∧ ∀ i, mem i = none → o.dst ≠ some i → m i = none
 | .row g d r => o.dst = some d ∧ (∀ i, g = some i → i ∉ rdR ∧ ∃ v t s k, mem i = some (.row v t s k)) ∧ (mem d = none ∨ g = some d) ∧ ∃ v t s k, r = .row v t s k
theorem goneOk_spec {d : Nat} {mem : Nat → Option Res} {g : Option Nat} {rdR : List Nat} (h : goneOk d mem g rdR = true) : (∀ i, g = some i → i ∉ rdR) ∧ (mem d = none ∨ g = some d) := by
 unfold goneOk at h
 cases g with
 | none =>
  simp only at h
  refine ⟨(fun i hi => by cases hi), .inl ?_⟩
  cases hm : mem d with
  | none => rfl
  | some r => rw [hm] at h; cases h
 | some g =>
  simp only at h
  cases hb : memB g rdR with
  | true => rw [hb] at h; cases h
  | false =>
   rw [hb] at h
   refine ⟨(fun i hi => by cases hi; exact memB_false hb), ?_⟩
   cases hgd : Nat.beq g d with
   | true => exact .inr (by rw [Nat.eq_of_beq_eq_true hgd])
   | false =>
    rw [hgd] at h
    left
    cases hm : mem d with
    | none => rfl
    | some r => rw [hm] at h; cases h
theorem goneOk_mono {d : Nat} {mem : Nat → Option Res} {g : Option Nat} {rdR rdR' : List Nat} (hs : ∀ i ∈ rdR', i ∈ rdR) (h : goneOk d mem g rdR = true) : goneOk d mem g rdR' = true := by
 unfold goneOk at *
 cases g with
 | none => exact h
 | some g =>
  simp only at *
  cases hb : memB g rdR with
  | true => rw [hb] at h; cases h
  | false =>
   rw [hb] at h
   rw [memB_of_not (fun hi => memB_false hb (hs _ hi))]
   exact h
theorem dQ_good {o : Oper} {e : Eff} {rdL rdR rdL' rdR' : List Nat} {mem : Nat → Option Res} {V : View} {K K' : Upd → View → Prop} (hw : EffWF mem e) (hL : ∀ i ∈ rdL', i ∈ rdL) (hR : ∀ i ∈ rdR', i ∈ rdR)
  (hK : ∀ u V1, Good o rdL rdR mem V u V1 → K u V1 → K' u V1) (h : dQ P o e rdL rdR mem V K) : dQ P o e rdL' rdR' mem V K' := by
 cases e with
 | val s => exact hK _ _ ⟨View.le_refl _, rfl, hw⟩ h
 | pick c s t => exact ⟨fun hc => hK _ _ ⟨View.le_refl _, rfl, hw.1⟩ (h.yes hc), fun hc => hK _ _ ⟨View.le_refl _, rfl, hw.2⟩ (h.no hc)⟩
 | ldv t b off n =>
  obtain ⟨l, h1, h2, h3⟩ := h.get
  refine ⟨⟨l, h1, h2, ?_⟩⟩
  split at h3
  ·exact hK _ _ ⟨View.le_refl _, rfl, _, rfl⟩ h3
  ·exact h3
 | idx base len i size => obtain ⟨b, off, h1, h2, h3, h4⟩ := h.get; exact ⟨⟨b, off, h1, h2, h3, hK _ _ ⟨View.le_refl _, rfl, _, rfl⟩ h4⟩⟩
 | sem s => obtain ⟨x, h1, h3⟩ := h.get; exact ⟨⟨x, h1, hK _ _ ⟨View.le_refl _, rfl, _, rfl⟩ h3⟩⟩
 | box t cells =>
  simp only [dQ] at h ⊢
  split at h
  ·rename_i d hd
   split at h
   ·rename_i hm
    exact fun blk hf => hK _ _ ⟨View.le_refl _, hd, hm, _, _, _, rfl⟩ (h blk hf)
   ·exact h.no.elim
  ·exact h.no.elim
 | lit t len cells => exact fun b hc => hK _ _ ⟨View.addU_le _ _ _, rfl, _, rfl⟩ (h b hc)
 | sto pl id off cells =>
  obtain rfl : pl = false := by
   cases pl
   ·rfl
   ·exact h.no.elim
  simp only [dQ] at h ⊢
  split at h
  ·rename_i b t old hm
   split at h
   ·rename_i h1 h2
    simp only [h1, memB_of_not (fun hi => memB_false h2 (hL _ hi))]
    refine hK _ _ ⟨View.le_refl _, rfl, fun s x hx => ?_, fun i hi => upd_ne _ _ (fun e => memB_false h2 (e ▸ hi)), ⟨_, rfl⟩, fun i hi _ => by rw [upd_ne _ _ (fun e => by subst e; rw [hm] at hi; cases hi)]; exact hi⟩ h
    cases s with
    | v y => exact hx
    | kb y => exact hx
    | own i o =>
     by_cases hi : i = id
     ·subst hi; simp only [toVal, hm] at hx; simp only [toVal, upd_same]; exact hx
     ·simp only [toVal, upd_ne _ _ hi]; exact hx
    | row i =>
     by_cases hi : i = id
     ·subst hi; simp only [toVal, hm] at hx; cases hx
     ·simp only [toVal, upd_ne _ _ hi]; exact hx
   ·exact h.no.elim
  ·exact h.no.elim
 | call f args =>
  refine ⟨fun w hw => (h.run w hw).mono fun e w' ⟨v, s, V', mem', he, hv, hKs, hsame, hp, hk, hg, hn⟩ => ⟨v, s, V', mem', he, hv, ⟨fun i hi => hKs.same i (hL i hi), hKs.fresh, ?_⟩, hsame, hp, hk, hg, hn⟩⟩
  exact hK _ _ ⟨hg.1, rfl, hsame, hKs.same, ⟨v, hv⟩, hKs.fresh⟩ hKs.go
 | app s e size bytes x =>
  simp only [dQ] at h ⊢
  split at h
  ·rename_i d hd
   split at h
   ·rename_i id
    split at h
    ·rename_i hgo
     obtain ⟨g1, g2⟩ := goneOk_spec hgo
     simp only [goneOk_mono hR hgo]
     split at h
     ·rename_i v ty sz n hm
      split at h
      ·rename_i h1 h2
       obtain ⟨xs, news, m, a1, a2, a3, a4, a5, a6, a7, a8, a9⟩ := h.get
       exact ⟨⟨xs, news, m, a1, a2, a3, a4, a5, a6, a7, a8, fun v' V' hle hc hs hao => hK _ _ ⟨hle, hd, (fun i hi => ⟨g1 i hi, by cases hi; exact ⟨_, _, _, _, hm⟩⟩), g2, _, _, _, _, rfl⟩ (a9 v' V' hle hc hs hao)⟩⟩
      ·exact h.no.elim
     ·exact h.no.elim
    ·exact h.no.elim
   ·rename_i base
    split at h
    ·rename_i hgo
     obtain ⟨g1, g2⟩ := goneOk_spec hgo
     simp only [goneOk_mono hR hgo]
     obtain ⟨xs, news, m, a1, a2, a3, a4, a5, a6, a7, a8, a9⟩ := h.get
     exact ⟨⟨xs, news, m, a1, a2, a3, a4, a5, a6, a7, a8, fun v' V' hle hc hs hao => hK _ _ ⟨hle, hd, (fun i hi => by cases hi), g2, _, _, _, _, rfl⟩ (a9 v' V' hle hc hs hao)⟩⟩
    ·exact h.no.elim
   ·rename_i v hv
    obtain ⟨id, n, h⟩ := h.get
    have key : AppVD V mem rdR' d v e size bytes x (fun g v' n' V' => K' (.row g d (.row v' e size n')) V') (K' (.put (some d) (.v v)) V) := by
     refine ⟨⟨id, n, ?_⟩⟩
     cases hm : mem id with
     | some r =>
      rw [hm] at h
      obtain ⟨rfl, hgo, h⟩ := h
      obtain ⟨g1, g2⟩ := goneOk_spec hgo
      obtain ⟨xs, news, m, a1, a2, a3, a4, a5, a6, a7, a8, a9⟩ := h.get
      exact ⟨rfl, goneOk_mono hR hgo, ⟨xs, news, m, a1, a2, a3, a4, a5, a6, a7, a8, fun v' V' hle hc hs hao => hK _ _ ⟨hle, hd, (fun i hi => ⟨g1 i hi, by cases hi; exact ⟨_, _, _, _, hm⟩⟩), g2, _, _, _, _, rfl⟩ (a9 v' V' hle hc hs hao)⟩⟩
     | none =>
      rw [hm] at h
      rcases h with ⟨hf, hgo, h⟩ | ⟨hf, h⟩
      rotate_left
      ·exact .inr ⟨hf, hK _ _ ⟨View.le_refl _, hd.symm, _, rfl⟩ h⟩
      obtain ⟨g1, g2⟩ := goneOk_spec hgo
      obtain ⟨xs, news, m, a1, a2, a3, a4, a5, a6, a7, a8, a9⟩ := h.get
      exact .inl ⟨hf, goneOk_mono hR hgo, ⟨xs, news, m, a1, a2, a3, a4, a5, a6, a7, a8, fun v' V' hle hc hs hao => hK _ _ ⟨hle, hd, (fun i hi => by cases hi), g2, _, _, _, _, rfl⟩ (a9 v' V' hle hc hs hao)⟩⟩
    exact key
   ·exact h.no.elim
  ·exact h.no.elim
 | bad => exact h.no.elim
theorem act_good {o : Oper} {rdL rdR rdL' rdR' : List Nat} {st : St} {V : View} {K K' : Upd → View → Prop} (hwf : WF st) (hL : ∀ i ∈ rdL', i ∈ rdL) (hR : ∀ i ∈ rdR', i ∈ rdR)
  (hK : ∀ u V1, Good o rdL rdR st.mem V u V1 → K u V1 → K' u V1) (h : act P ops o rdL rdR st V K) : act P ops o rdL' rdR' st V K' := by
 have hs : ∀ s, K (.put o.dst (.v s)) V → K' (.put o.dst (.v s)) V := fun s => hK _ _ ⟨View.le_refl _, rfl, _, rfl⟩
 have hd : dQ P o (effOf P o st) rdL rdR st.mem V K → dQ P o (effOf P o st) rdL' rdR' st.mem V K' := dQ_good (effOf_wf hwf) hL hR hK
 unfold act at *
 generalize guardOf ops o st.env = g at *
 rcases g with _ | ⟨_ | b, w⟩
 ·exact h.no.elim
 ·cases w
  ·exact hs _ h
  ·exact hd h
 ·cases w
  ·exact ⟨fun hb => hs _ (h.yes hb), fun hb => hd (h.no hb)⟩
  ·exact ⟨fun hb => hd (h.yes hb), fun hb => hs _ (h.no hb)⟩
theorem act_like {o : Oper} {rdL rdR : List Nat} {st st' : St} {V : View} {K : Upd → View → Prop} (hl : Like ops o st st') (hm : st'.mem = st.mem) (h : act P ops o rdL rdR st V K) :
  act P ops o rdL rdR st' V K := by
 unfold act at *
 rw [hl.guard, hl.effOf, hm]
 exact h
def loadsOf (o : Oper) (st : St) : List Nat := match o.op with
 | .load _ a => (match opd st.env a with | some (.own id _) => [id] | _ => [])
 | _ => []
def rowsOf (st : St) : List Nat → List Nat
 | [] => []
 | t :: l => match st.env t with | some (.row i) => i :: rowsOf st l | _ => rowsOf st l
theorem mem_rowsOf {st : St} {i : Nat} : ∀ {l : List Nat} {t : Nat}, t ∈ l → st.env t = some (.row i) → i ∈ rowsOf st l
 | [], _, h, _ => by cases h
 | x :: l, t, h, hs => by
  unfold rowsOf
  rcases List.mem_cons.1 h with rfl | h
  ·rw [hs]; simp
  ·split
   ·exact List.mem_cons_of_mem _ (mem_rowsOf h hs)
   ·exact mem_rowsOf h hs
theorem purge_keep {env : Nat → Option SV} {mem : Nat → Option Res} {g t : Nat} {s : SV} (hs : env t = some s) (hn : s.name ≠ some g) : purge env mem g t = some s := by
 unfold purge
 rw [hs]
 cases s with
 | v x => rfl
 | kb x => rfl
 | own i o =>
  have : Nat.beq i g = false := by
   cases hb : Nat.beq i g with
   | false => rfl
   | true => exact absurd (by rw [← Nat.eq_of_beq_eq_true hb]; rfl) hn
  simp [demote, this]
 | row i =>
  have : Nat.beq i g = false := by
   cases hb : Nat.beq i g with
   | false => rfl
   | true => exact absurd (by rw [← Nat.eq_of_beq_eq_true hb]; rfl) hn
  simp [demote, this]
theorem purge_upd {env : Nat → Option SV} {mem : Nat → Option Res} {g d : Nat} {s : SV} (hn : s.name ≠ some g) : purge (upd env d s) mem g = upd (purge env mem g) d s := by
 funext k
 by_cases hk : k = d
 ·subst hk
  rw [upd_same]
  exact purge_keep (upd_same _ _ _) hn
 ·rw [upd_ne _ _ hk]
  unfold purge
  rw [upd_ne _ _ hk]
def Away (s : SV) (_mem : Nat → Option Res) (u : Upd) : Prop := match u with
 | .row g d _ => s.name ≠ some d ∧ ∀ i, g = some i → s.name ≠ some i
 | .box d _ => s.name ≠ some d
 | _ => True
theorem app_put {u : Upd} {st : St} {dx : Option Nat} {s : SV} {dr : Option Nat} (hd : ∀ d, dx = some d → dr ≠ some d) (hu : match u with | .put d _ => d = dr | .box d _ => some d = dr | .mem _ d _ => d = dr | .row _ d _ => some d = dr)
  (ha : Away s st.mem u) : u.app (st.put dx s) = (u.app st).put dx s := by
 cases dx with
 | none => rfl
 | some x =>
  have hne : ∀ d, dr = some d → x ≠ d := fun d hdd e => hd x rfl (by rw [hdd, e])
  cases u with
  | put d t =>
   simp only at hu
   cases d with
   | none => rfl
   | some d => simp only [Upd.app, St.put]; rw [upd_comm _ _ _ (hne d hu.symm)]
  | box d r => simp only [Upd.app, St.put]; rw [upd_comm _ _ _ (hne d hu.symm)]
  | mem m d t =>
   simp only at hu
   cases d with
   | none => rfl
   | some d => simp only [Upd.app, St.put]; rw [upd_comm _ _ _ (hne d hu.symm)]
  | row g d r =>
   obtain ⟨h1, h2⟩ := ha
   cases g with
   | none => simp only [Upd.app, St.put, St.newRow]; rw [purge_upd h1, upd_comm _ _ _ (hne d hu.symm)]
   | some g => simp only [Upd.app, St.put, St.newRow]; rw [purge_upd (h2 g rfl), purge_upd h1, upd_comm _ _ _ (hne d hu.symm)]
end
section
variable {P : Program} {ops : Array Oper}
theorem quietVal_from {o : Oper} {st : St} {V : View} {s : SV} (h : quietVal P ops o st V s) : From ops o st s := by
 have he := effOf_from (P := P) (ops := ops) (o := o) (st := st)
 have hq : qv P V s (effOf P o st) → From ops o st s := by
  generalize effOf P o st = e at *
  cases e with
  | val s' => intro h; cases h; exact he
  | pick c a b => intro h; simp only [qv] at h; subst h; cases c; exact he.2; exact he.1
  | ldv t b off n => rintro ⟨l, v, _, _, _, rfl⟩; exact From.v
  | idx base len i size => rintro ⟨b, off, _, _, _, rfl⟩; exact From.v
  | sem x => rintro ⟨y, _, rfl⟩; exact From.v
  | _ => intro h; exact h.elim
 unfold quietVal at h
 revert h
 generalize guardOf ops o st.env = g
 rcases g with _ | ⟨_ | b, w⟩
 ·exact fun h => h.elim
 ·cases w
  ·intro h; cases h; exact From.v
  ·exact hq
 ·cases w <;> cases b <;> simp only [if_true, if_false, Bool.false_eq_true] <;> first | exact hq | (intro h; cases h; exact From.v)
structure Apart (ops : Array Oper) (x r : Oper) : Prop where
 a : ∀ d, x.dst = some d → d ∉ looks ops r
 b : ∀ d, x.dst = some d → r.dst ≠ some d
 c : ∀ d, r.dst = some d → d ∉ looks ops x
theorem put_env {st : St} {d : Option Nat} {s : SV} {t : Nat} (h : d ≠ some t) : (st.put d s).env t = st.env t := by
 cases d with
 | none => rfl
 | some d => exact upd_ne _ _ (fun e => h (by rw [e]))
theorem put_mem {st : St} {d : Option Nat} {s : SV} : (st.put d s).mem = st.mem := by cases d <;> rfl
theorem like_app {x r : Oper} {st : St} {u : Upd} {V V1 : View} {rdL rdR : List Nat} (hwf : WF st) (hap : Apart ops x r) (hL : ∀ i ∈ loadsOf x st, i ∈ rdL) (hR : ∀ i ∈ rowsOf st (looks ops x), i ∈ rdR)
  (hg : Good r rdL rdR st.mem V u V1) : Like ops x st (u.app st) := by
 have hload : ∀ (t : TypeId) (a : Operand) (id off : Nat), x.op = .load t a → opd st.env a = some (.own id off) → id ∈ rdL ∧ ∃ k ∈ looks ops x, st.env k = some (.own id off) := fun t a id off ho hs => by
  refine ⟨hL id (by unfold loadsOf; rw [ho]; simp only [hs]; simp), ?_⟩
  obtain ⟨k, rfl, hk⟩ := opd_own (i := id) hs rfl
  exact ⟨k, mem_looks (by rw [ho]; simp [Op.operands]), hk⟩
 obtain ⟨_, hu⟩ := hg
 cases u with
 | put d s =>
  obtain ⟨rfl, _⟩ := hu
  exact ⟨fun t ht => put_env (fun e => hap.c t e ht), fun t _ s' _ => by rw [show (Upd.put r.dst s).app st = st.put r.dst s from rfl, put_mem], fun _ _ _ _ _ _ => by rw [show (Upd.put r.dst s).app st = st.put r.dst s from rfl, put_mem]⟩
 | box d b =>
  obtain ⟨hd, hm, _⟩ := hu
  have hne : ∀ t ∈ looks ops x, ∀ s', st.env t = some s' → s'.name ≠ some d := fun t _ s' hs e => by
   obtain ⟨v, hv⟩ := hwf t s' hs
   cases s' with
   | v y => cases e
   | kb y => cases e
   | own i o => simp only [SV.name, Option.some.injEq] at e; subst e; simp [toVal, hm] at hv
   | row i => simp only [SV.name, Option.some.injEq] at e; subst e; simp [toVal, hm] at hv
  refine ⟨fun t ht => upd_ne _ _ (fun e => hap.c d hd (e ▸ ht)), fun t ht s' hs => toVal_of fun i hi => upd_ne _ _ (fun e => hne t ht s' hs (by rw [hi, e])), fun t a id off ho hs => ?_⟩
  obtain ⟨_, k, hk, hks⟩ := hload t a id off ho hs
  exact upd_ne _ _ (fun e => hne k hk _ hks (by simp [SV.name, e]))
 | mem m d s =>
  obtain ⟨rfl, hsame, hprot, _⟩ := hu
  refine ⟨fun t ht => put_env (st := ⟨st.env, m⟩) (fun e => hap.c t e ht), fun t _ s' hs => ?_, fun t a id off ho hs => ?_⟩
  ·obtain ⟨v, hv⟩ := hwf t s' hs
   rw [show ((Upd.mem m r.dst s).app st).mem = m from put_mem, hv]
   exact hsame s' v hv
  ·rw [show ((Upd.mem m r.dst s).app st).mem = m from put_mem]
   exact hprot id (hload t a id off ho hs).1
 | row g d b =>
  obtain ⟨hd, hgs, hmd, _⟩ := hu
  have hneg : ∀ t ∈ looks ops x, ∀ s', st.env t = some s' → ∀ i, g = some i → s'.name ≠ some i := fun t ht s' hs i hi e => by
   obtain ⟨hnot, v, ty, sz, k, hrow⟩ := hgs i hi
   obtain ⟨y, hy⟩ := hwf t s' hs
   cases s' with
   | v y => cases e
   | kb y => cases e
   | own j o => simp only [SV.name, Option.some.injEq] at e; subst e; simp [toVal, hrow] at hy
   | row j => simp only [SV.name, Option.some.injEq] at e; subst e; exact hnot (hR _ (mem_rowsOf ht hs))
  have hned : ∀ t ∈ looks ops x, ∀ s', st.env t = some s' → s'.name ≠ some d := fun t ht s' hs e => by
   rcases hmd with hmd | hmd
   ·obtain ⟨v, hv⟩ := hwf t s' hs
    cases s' with
    | v y => cases e
    | kb y => cases e
    | own i o => simp only [SV.name, Option.some.injEq] at e; subst e; simp [toVal, hmd] at hv
    | row i => simp only [SV.name, Option.some.injEq] at e; subst e; simp [toVal, hmd] at hv
   ·exact hneg t ht s' hs d hmd e
  have hnone : ∀ {env : Nat → Option SV} {mem : Nat → Option Res} {k t : Nat}, env t = none → purge env mem k t = none := fun h => by unfold purge; rw [h]
  cases g with
  | none =>
   refine ⟨fun t ht => ?_, fun t ht s' hs => toVal_of fun i hi => upd_ne _ _ (fun e => hned t ht s' hs (by rw [hi, e])), fun t a id off ho hs => ?_⟩
   ·show upd (purge st.env st.mem d) d (.row d) t = _
    rw [upd_ne _ _ (show t ≠ d from fun e => hap.c d hd (by rw [← e]; exact ht))]
    cases hs : st.env t with
    | none => exact hnone hs
    | some s' => exact purge_keep hs (hned t ht s' hs)
   ·obtain ⟨_, k, hk, hks⟩ := hload t a id off ho hs
    exact upd_ne _ _ (fun e => hned k hk _ hks (by simp [SV.name, e]))
  | some g =>
   have hmem : ∀ i, i ≠ g → i ≠ d → ((Upd.row (some g) d b).app st).mem i = st.mem i := fun i h1 h2 => by
    show upd (del st.mem g) d b i = _
    rw [upd_ne _ _ h2, del_ne _ h1]
   refine ⟨fun t ht => ?_, fun t ht s' hs => toVal_of fun i hi => hmem i (fun e => hneg t ht s' hs g rfl (by rw [hi, e])) (fun e => hned t ht s' hs (by rw [hi, e])), fun t a id off ho hs => ?_⟩
   ·show upd (purge (purge st.env st.mem g) (del st.mem g) d) d (.row d) t = _
    rw [upd_ne _ _ (show t ≠ d from fun e => hap.c d hd (by rw [← e]; exact ht))]
    cases hs : st.env t with
    | none => exact hnone (hnone hs)
    | some s' => exact purge_keep (purge_keep hs (hneg t ht s' hs g rfl)) (hned t ht s' hs)
   ·obtain ⟨_, k, hk, hks⟩ := hload t a id off ho hs
    exact hmem id (fun e => hneg k hk _ hks g rfl (by simp [SV.name, e])) (fun e => hned k hk _ hks (by simp [SV.name, e]))
theorem away_of {x r : Oper} {st : St} {u : Upd} {s : SV} {V V1 : View} {rdL rdR : List Nat} (hwf : WF st) (hR : ∀ i ∈ rowsOf st (looks ops x), i ∈ rdR) (hg : Good r rdL rdR st.mem V u V1) (hs : From ops x st s) : Away s st.mem u := by
 obtain ⟨_, hu⟩ := hg
 have hnm : ∀ d, st.mem d = none → s.name ≠ some d := fun d hm e => by
  obtain ⟨t, ht, s', hs', hn, _, _⟩ := hs d e
  obtain ⟨v, hv⟩ := hwf t s' hs'
  cases s' with
  | v y => cases hn
  | kb y => cases hn
  | own i o => simp only [SV.name, Option.some.injEq] at hn; subst hn; simp [toVal, hm] at hv
  | row i => simp only [SV.name, Option.some.injEq] at hn; subst hn; simp [toVal, hm] at hv
 cases u with
 | put d t => trivial
 | mem m d t => trivial
 | box d b => exact hnm d hu.2.1
 | row g d b =>
  obtain ⟨hd, hgs, hmd, _⟩ := hu
  have hneg : ∀ i, g = some i → s.name ≠ some i := fun i hi e => by
   obtain ⟨hnot, v, ty, sz, k, hrow⟩ := hgs i hi
   obtain ⟨t, ht, s', hs', hn, _, _⟩ := hs i e
   obtain ⟨y, hy⟩ := hwf t s' hs'
   cases s' with
   | v y => cases hn
   | kb y => cases hn
   | own j o => simp only [SV.name, Option.some.injEq] at hn; subst hn; simp [toVal, hrow] at hy
   | row j => simp only [SV.name, Option.some.injEq] at hn; subst hn; exact hnot (hR _ (mem_rowsOf ht hs'))
  refine ⟨?_, hneg⟩
  rcases hmd with hmd | hmd
  ·exact hnm d hmd
  ·exact hneg d hmd
theorem swap_quiet {x r : Oper} {st : St} {V : View} {K : St → View → Prop} {rdL rdR rdL1 rdR1 aL aR bL bR : List Nat} (hq : isQuiet x = true) (hwf : WF st) (hap : Apart ops x r)
  (hL : ∀ i ∈ rdL, i ∈ rdL1) (hL2 : ∀ i ∈ loadsOf x st, i ∈ rdL1) (hR : ∀ i ∈ rdR, i ∈ rdR1) (hR2 : ∀ i ∈ rowsOf st (looks ops x), i ∈ rdR1)
  (h : act P ops x aL aR st V (fun ux V1 => act P ops r rdL1 rdR1 (ux.app st) V1 (fun ur V2 => K (ur.app (ux.app st)) V2))) :
  act P ops r rdL rdR st V (fun ur V1 => Like ops x st (ur.app st) ∧ act P ops x bL bR (ur.app st) V1 (fun ux V2 => K (ux.app (ur.app st)) V2)) := by
 obtain ⟨s, hs, hr⟩ := (act_quiet hq).1 h
 have hlk : Like ops r ((Upd.put x.dst s).app st) st := ⟨fun t ht => (put_env (st := st) (fun e => hap.a t e ht)).symm, fun t _ s' _ => by rw [show ((Upd.put x.dst s).app st).mem = st.mem from put_mem], fun _ _ _ _ _ _ => by rw [show ((Upd.put x.dst s).app st).mem = st.mem from put_mem]⟩
 have hr' := act_like hlk (show st.mem = ((Upd.put x.dst s).app st).mem from put_mem.symm) hr
 refine act_good hwf hL hR (fun u V1 hg hk => ⟨like_app hwf hap hL2 hR2 hg, (act_quiet hq).2 ⟨s, quietVal_like (like_app hwf hap hL2 hR2 hg) hg.1 hs, ?_⟩⟩) hr'
 have hcm : u.app (st.put x.dst s) = (u.app st).put x.dst s := by
  refine app_put (dr := r.dst) hap.b ?_ (away_of hwf hR2 hg (quietVal_from hs))
  obtain ⟨_, hu⟩ := hg
  cases u with
  | put d t => exact hu.1
  | box d b => exact hu.1.symm
  | mem m d t => exact hu.1
  | row g d b => exact hu.1.symm
 rw [← show ((u.app st).put x.dst s) = (Upd.put x.dst s).app (u.app st) from rfl, ← hcm]
 exact hk
end
section
variable {P : Program} {ops : Array Oper}
theorem addU_nil (V : View) (b : Nat) : V.addU b [] = V := by
 funext k o
 unfold View.addU
 cases h : V k o with
 | none => simp
 | some v => rfl
theorem addU_some {V : View} {b : Nat} {cells : List Value} {k o : Nat} {u : Value} (h : V.addU b cells k o = some u) : V k o = some u ∨ (k = b ∧ cells[o]? = some u) := by
 unfold View.addU at h
 cases hv : V k o with
 | some v => rw [hv] at h; exact .inl h
 | none =>
  rw [hv] at h
  simp only at h
  split at h
  ·rename_i hk; exact .inr ⟨hk, h⟩
  ·cases h
theorem addU_ne {V : View} {b : Nat} {cells : List Value} {k o : Nat} (h : k ≠ b) : V.addU b cells k o = V k o := by
 unfold View.addU
 cases hv : V k o with
 | some v => rfl
 | none => simp [h]
theorem LitOk.first {V : View} {mem : Nat → Option Res} {b : Nat} {cells : List Value} (h : LitOk V mem b cells) (hc : cells ≠ []) : ∃ u, V.addU b cells b 0 = some u := by
 cases cells with
 | nil => exact absurd rfl hc
 | cons c l => exact ⟨c, by have := h.has 0 c rfl; simpa using this⟩
theorem CallN.frameBox {f : FuncId} {args : List Value} {V : View} {mem : Nat → Option Res} {K1 K2 : SV → View → (Nat → Option Res) → Prop} {d blk : Nat} {t : TypeId} {cells : List Value} (hd : mem d = none)
  (h : CallN P f args V mem K1) (hk : ∀ s V' mem', (∀ o, V' blk o = none) → K1 s V' mem' → mem' d = none ∧ K2 s V' (upd mem' d (.box blk t cells))) :
  CallN P f args V (upd mem d (.box blk t cells)) K2 := by
 refine ⟨fun w hw => ?_⟩
 have hne : ∀ i r, mem i = some r → i ≠ d := fun i r hr e => by subst e; rw [hd] at hr; cases hr
 have hup : ∀ i r, mem i = some r → upd mem d (.box blk t cells) i = some r := fun i r hr => by rw [upd_ne _ _ (hne i r hr)]; exact hr
 have hw0 : MPre mem V w := ⟨hw.sub, fun i r hr => hw.ok i r (hup i r hr), fun i j r r' b hij hi hj => hw.apart i j r r' b hij (hup i r hi) (hup j r' hj)⟩
 have hbox := hw.ok d _ (upd_same _ _ _)
 have hlt : blk < w.heap.size := blk_lt hbox rfl
 have hnb : ¬ blksM mem blk := fun ⟨i, r, hr, hb⟩ => hw.apart i d r _ blk (hne i r hr) (hup i r hr) (upd_same _ _ _) hb rfl
 have hbm : ∀ b, blksM mem b → blksM (upd mem d (.box blk t cells)) b := fun b ⟨i, r, hr, hb⟩ => ⟨i, r, hup i r hr, hb⟩
 refine (h.run w hw0).mono fun e w' ⟨v, s, V', mem', he, hv, hK, hsame, hp, hkept, hg, hn⟩ => ?_
 have hVb : ∀ o, V' blk o = none := fun o => by
  cases hx : V' blk o with
  | none => rfl
  | some u =>
   rcases hg.2 blk o u hx with h1 | h1 | h1
   ·rw [hbox.2 o] at h1; cases h1
   ·omega
   ·exact absurd h1 hnb
 obtain ⟨hmd, hK2⟩ := hk s V' mem' hVb hK
 have hnm : ∀ t x, toVal mem' t = some x → t.name ≠ some d := fun t x hx e => by
  cases t with
  | v y => cases e
  | kb y => cases e
  | own i o => simp only [SV.name, Option.some.injEq] at e; subst e; simp [toVal, hmd] at hx
  | row i => simp only [SV.name, Option.some.injEq] at e; subst e; simp [toVal, hmd] at hx
 have hlift2 : ∀ s x, toVal mem' s = some x → toVal (upd mem' d (.box blk t cells)) s = some x := fun s x hx => by
  rw [← hx]; exact toVal_of fun i hi => upd_ne _ _ (fun e => hnm s x hx (by rw [hi, e]))
 refine ⟨v, s, V', upd mem' d (.box blk t cells), he, hlift2 s v hv, hK2, fun s x hx => ?_, ⟨hp.sub, fun i r hr => ?_, fun i j r r' b hij hi hj hb hb' => ?_⟩, ⟨hkept.os, hkept.tape, hkept.output, hkept.size, fun k hk0 hm => hkept.block k hk0 (fun h1 => hm (hbm k h1))⟩, ⟨hg.1, fun b o u hu => ?_⟩, fun b hb => ?_⟩
 ·by_cases hs : s.name = some d
  ·cases s with
   | v y => cases hs
   | kb y => cases hs
   | own i o => simp only [SV.name, Option.some.injEq] at hs; subst hs; simpa [toVal, upd_same] using hx
   | row i => simp only [SV.name, Option.some.injEq] at hs; subst hs; simp [toVal, upd_same] at hx
  ·refine hlift2 s x (hsame s x ?_)
   rw [← hx]; exact (toVal_of fun i hi => upd_ne _ _ (fun e => hs (by rw [hi, e]))).symm
 ·by_cases hi : i = d
  ·subst hi
   rw [upd_same, Option.some.injEq] at hr; subst hr
   exact ⟨(hkept.block blk hlt hnb).trans hbox.1, hVb⟩
  ·rw [upd_ne _ _ hi] at hr; exact hp.ok i r hr
 ·have hsep : ∀ j r', j ≠ d → mem' j = some r' → r'.blk ≠ some blk := fun j r' _ hj hb => by
   rcases hn blk ⟨j, r', hj, hb⟩ with h1 | h1
   ·exact hnb h1
   ·omega
  by_cases hid : i = d
  ·subst hid
   rw [upd_same, Option.some.injEq] at hi; subst hi
   simp only [Res.blk, Option.some.injEq] at hb; subst hb
   rw [upd_ne _ _ (Ne.symm hij)] at hj
   exact hsep j r' (Ne.symm hij) hj hb'
  ·rw [upd_ne _ _ hid] at hi
   by_cases hjd : j = d
   ·subst hjd
    rw [upd_same, Option.some.injEq] at hj; subst hj
    simp only [Res.blk, Option.some.injEq] at hb'; subst hb'
    exact hsep i r hid hi hb
   ·rw [upd_ne _ _ hjd] at hj
    exact hp.apart i j r r' b hij hi hj hb hb'
 ·rcases hg.2 b o u hu with h1 | h1 | h1
  ·exact .inl h1
  ·exact .inr (.inl h1)
  ·exact .inr (.inr (hbm b h1))
 ·obtain ⟨i, r, hr, hrb⟩ := hb
  by_cases hi : i = d
  ·subst hi
   rw [upd_same, Option.some.injEq] at hr; subst hr
   exact .inl ⟨i, _, upd_same _ _ _, hrb⟩
  ·rw [upd_ne _ _ hi] at hr
   rcases hn b ⟨i, r, hr, hrb⟩ with h1 | h1
   ·exact .inl (hbm b h1)
   ·exact .inr h1
theorem CallN.frameLit {f : FuncId} {args : List Value} {V : View} {mem : Nat → Option Res} {K1 K2 : SV → View → (Nat → Option Res) → Prop} {b : Nat} {cells : List Value} (hb : LitOk V mem b cells)
  (h : CallN P f args V mem K1) (hk : ∀ s V' mem', LitOk V' mem' b cells → K1 s V' mem' → K2 s (V'.addU b cells) mem') : CallN P f args (V.addU b cells) mem K2 := by
 by_cases hc : cells = []
 ·subst hc
  rw [addU_nil]
  refine ⟨fun w hw => (h.run w hw).mono fun e w' ⟨v, s, V', mem', he, hv, hK, rest⟩ => ⟨v, s, V', mem', he, hv, ?_, rest⟩⟩
  have := hk s V' mem' ⟨by rw [addU_nil]; intro i v hi; simp at hi, fun h => absurd rfl h⟩ hK
  rwa [addU_nil] at this
 ·obtain ⟨u0, hu0⟩ := hb.first hc
  refine ⟨fun w hw => ?_⟩
  have hlt : b < w.heap.size := sub_lt hw.sub hu0
  have hle : V.le (V.addU b cells) := View.addU_le _ _ _
  have hnone : ∀ k o, V.addU b cells k o = none → V k o = none := fun k o hn => by
   cases hv : V k o with
   | none => rfl
   | some v => rw [hle _ _ _ hv] at hn; cases hn
  have hnb : ¬ blksM mem b := fun ⟨i, r, hr, hrb⟩ => hb.free hc i r hr hrb
  have hw0 : MPre mem V w := ⟨fun k o v hv => hw.sub k o v (hle _ _ _ hv), fun i r hr => (hw.ok i r hr).keep (fun _ _ => rfl) (fun k _ o hn => hnone k o hn), hw.apart⟩
  refine (h.run w hw0).mono fun e w' ⟨v, s, V', mem', he, hv, hK, hsame, hp, hkept, hg, hn⟩ => ?_
  have hcell : ∀ i c, cells[i]? = some c → w'.cell? ⟨b, i, none⟩ = some c := fun i c hi => by
   rw [cell_keep (hkept.block b hlt hnb)]
   have := hb.has i c hi
   rw [Nat.zero_add] at this
   exact hw.sub _ _ _ this
  have hfree' : ∀ i r, mem' i = some r → r.blk ≠ some b := fun i r hr hrb => by
   rcases hn b ⟨i, r, hr, hrb⟩ with h1 | h1
   ·exact hnb h1
   ·omega
  have hlit : LitOk V' mem' b cells := ⟨fun i c hi => by
   simp only [Nat.zero_add]
   unfold View.addU
   cases hx : V' b i with
   | none => simp only [if_true]; exact hi
   | some u =>
    simp only
    have h1 := hp.sub b i u hx
    rw [hcell i c hi] at h1
    exact h1.symm, fun _ => hfree'⟩
  refine ⟨v, s, V'.addU b cells, mem', he, hv, hk s V' mem' hlit hK, hsame, ⟨fun k o u hu => ?_, fun i r hr => ?_, hp.apart⟩, hkept, ⟨fun k o u hu => ?_, fun k o u hu => ?_⟩, hn⟩
  ·rcases addU_some hu with h1 | ⟨rfl, h1⟩
   ·exact hp.sub k o u h1
   ·exact hcell o u h1
  ·exact (hp.ok i r hr).keep (fun _ _ => rfl) (fun k hkb o hn => by rw [addU_ne (fun e => hfree' i r hr (by rw [hkb, e]))]; exact hn)
  ·rcases addU_some hu with h1 | ⟨rfl, h1⟩
   ·exact View.addU_le _ _ _ _ _ _ (hg.1 _ _ _ h1)
   ·have := hlit.has o u h1; rwa [Nat.zero_add] at this
  ·rcases addU_some hu with h1 | ⟨rfl, h1⟩
   ·rcases hg.2 k o u h1 with h2 | h2 | h2
    ·exact .inl (hle _ _ _ h2)
    ·exact .inr (.inl h2)
    ·exact .inr (.inr h2)
   ·left
    have := hb.has o u h1
    rwa [Nat.zero_add] at this
theorem AppN.frameLit {V : View} {mem : Nat → Option Res} {gone : Option Nat} {v : Value} {n size bytes : Nat} {x : Value} {K1 K2 : Value → Nat → View → Prop} {b : Nat} {cells : List Value} (hb : LitOk V mem b cells)
  (hv : ∀ g, rowBlk v = some g → ∃ i r, mem i = some r ∧ r.blk = some g)
  (h : AppN V mem gone v n size bytes x K1) (hk : ∀ v' n' V', (cells ≠ [] → rowBlk v' ≠ some b) → (V'.addU b cells).has b 0 cells → K1 v' n' V' → K2 v' n' (V'.addU b cells)) :
  AppN (V.addU b cells) mem gone v n size bytes x K2 := by
 obtain ⟨xs, news, m, a1, a2, a3, a4, a5, a6, a7, a8, a9⟩ := h.get
 have hle : V.le (V.addU b cells) := View.addU_le _ _ _
 refine ⟨⟨xs, news, m, a1.mono hle, a2, a3, a4.imp_right (fun h => h.mono hle), a5, a6, a7, a8, fun v' V2 hle2 hc hs hao => ?_⟩⟩
 by_cases hcn : cells = []
 ·subst hcn
  rw [addU_nil] at hle2 hao
  have h1 := hk v' (n + m) V2 (fun h => absurd rfl h) (by rw [addU_nil]; intro i c hi; simp at hi) (a9 v' V2 hle2 hc hs hao)
  rwa [addU_nil] at h1
 ·obtain ⟨u0, hu0⟩ := hb.first hcn
  have hvb : rowBlk v' ≠ some b := fun e => by
   rcases hao.blk b e with h1 | h1
   ·obtain ⟨i, r, hr, hrb⟩ := hv b h1
    exact hb.free hcn i r hr hrb
   ·rw [h1 0] at hu0; cases hu0
  let V0 : View := fun k o => if k = b then V k o else V2 k o
  have hV0b : ∀ o, V0 b o = V b o := fun o => by simp [V0]
  have hV0 : ∀ k o, k ≠ b → V0 k o = V2 k o := fun k o hne => by simp [V0, hne]
  have hle0 : V.le V0 := fun k o u hu => by
   by_cases hkb : k = b
   ·subst hkb; rw [hV0b]; exact hu
   ·rw [hV0 k o hkb]; exact hle2 _ _ _ (hle _ _ _ hu)
  have hadd : V0.addU b cells = V2 := by
   funext k o
   by_cases hkb : k = b
   ·subst hkb
    have e1 : V0.addU k cells k o = V.addU k cells k o := by unfold View.addU; rw [hV0b]
    rw [e1]
    cases hx : V2 k o with
    | none =>
     cases hy : V.addU k cells k o with
     | none => rfl
     | some u => rw [hle2 _ _ _ hy] at hx; cases hx
    | some u =>
     rcases hao.new k o u hx with h1 | h1
     ·exact h1
     ·exact absurd h1 hvb
   ·rw [addU_ne hkb, hV0 k o hkb]
  have hc0 : V0.cells v' (xs ++ news) := by
   obtain ⟨base, cap, rfl, hcap0⟩ := hs
   unfold View.cells at hc ⊢
   split at hc
   ·rename_i g off nn cc hbeq
    simp only [Value.slice.injEq] at hbeq
    obtain ⟨rfl, rfl, rfl⟩ := hbeq
    by_cases hcap : cap = 0
    ·have hl : (xs ++ news).length = 0 := by
      rw [List.length_append, a2, a5, ← Nat.add_mul, show n + m = 0 by omega, Nat.zero_mul]
     rw [List.eq_nil_of_length_eq_zero hl]
     intro i u hi
     simp at hi
    ·have hgb : g ≠ b := fun e => hvb (by simp [rowBlk, hcap, e])
     intro i u hi
     rw [hV0 g _ hgb]; exact hc i u hi
   ·exact hc
   ·rename_i he; cases he
   ·exact hc.elim
  have hao0 : AppOk V mem gone v v' V0 := ⟨fun g hg => (hao.blk g hg).imp id (fun hx o => by
   cases hy : V g o with
   | none => rfl
   | some u => have := hx o; rw [hle _ _ _ hy] at this; cases this), fun k o u hu => by
   by_cases hkb : k = b
   ·subst hkb; rw [hV0b] at hu; exact .inl hu
   ·rw [hV0 k o hkb] at hu
    rcases hao.new k o u hu with h1 | h1
    ·rw [addU_ne hkb] at h1; exact .inl h1
    ·exact .inr h1, hao.free, hao.off⟩
  have h1 := hk v' (n + m) V0 (fun _ => hvb) (by rw [hadd]; exact fun i c hi => hle2 _ _ _ (hb.has i c hi)) (a9 v' V0 hle0 hc0 hs hao0)
  rwa [hadd] at h1
theorem AppF.frameLit {V : View} {mem : Nat → Option Res} {v : Value} {n size bytes : Nat} {x : Value} {K1 K2 : Value → Nat → View → Prop} {b : Nat} {cells : List Value} (hb : LitOk V mem b cells)
  (h : AppF V mem v n size bytes x K1) (hk : ∀ v' n' V', (cells ≠ [] → rowBlk v' ≠ some b) → (V'.addU b cells).has b 0 cells → K1 v' n' V' → K2 v' n' (V'.addU b cells)) :
  AppF (V.addU b cells) mem v n size bytes x K2 := by
 obtain ⟨xs, news, m, a1, a2, a3, a4, a5, a6, a7, a8, a9⟩ := h.get
 have hle : V.le (V.addU b cells) := View.addU_le _ _ _
 refine ⟨⟨xs, news, m, a1.mono hle, a2, a3, a4.imp_right (fun h => h.mono hle), a5, a6, a7, a8, fun v' V2 hle2 hc hs hao => ?_⟩⟩
 by_cases hcn : cells = []
 ·subst hcn
  rw [addU_nil] at hle2 hao
  have h1 := hk v' (n + m) V2 (fun h => absurd rfl h) (by rw [addU_nil]; intro i c hi; simp at hi) (a9 v' V2 hle2 hc hs hao)
  rwa [addU_nil] at h1
 ·obtain ⟨u0, hu0⟩ := hb.first hcn
  have hvb : rowBlk v' ≠ some b := fun e => by
   rcases hao.blk b e with h1 | h1
   ·cases h1
   ·rw [h1 0] at hu0; cases hu0
  let V0 : View := fun k o => if k = b then V k o else V2 k o
  have hV0b : ∀ o, V0 b o = V b o := fun o => by simp [V0]
  have hV0 : ∀ k o, k ≠ b → V0 k o = V2 k o := fun k o hne => by simp [V0, hne]
  have hle0 : V.le V0 := fun k o u hu => by
   by_cases hkb : k = b
   ·subst hkb; rw [hV0b]; exact hu
   ·rw [hV0 k o hkb]; exact hle2 _ _ _ (hle _ _ _ hu)
  have hadd : V0.addU b cells = V2 := by
   funext k o
   by_cases hkb : k = b
   ·subst hkb
    have e1 : V0.addU k cells k o = V.addU k cells k o := by unfold View.addU; rw [hV0b]
    rw [e1]
    cases hx : V2 k o with
    | none =>
     cases hy : V.addU k cells k o with
     | none => rfl
     | some u => rw [hle2 _ _ _ hy] at hx; cases hx
    | some u =>
     rcases hao.new k o u hx with h1 | h1
     ·exact h1
     ·exact absurd h1 hvb
   ·rw [addU_ne hkb, hV0 k o hkb]
  have hc0 : V0.cells v' (xs ++ news) := by
   obtain ⟨base, cap, rfl, hcap0⟩ := hs
   unfold View.cells at hc ⊢
   split at hc
   ·rename_i g off nn cc hbeq
    simp only [Value.slice.injEq] at hbeq
    obtain ⟨rfl, rfl, rfl⟩ := hbeq
    by_cases hcap : cap = 0
    ·have hl : (xs ++ news).length = 0 := by
      rw [List.length_append, a2, a5, ← Nat.add_mul, show n + m = 0 by omega, Nat.zero_mul]
     rw [List.eq_nil_of_length_eq_zero hl]
     intro i u hi
     simp at hi
    ·have hgb : g ≠ b := fun e => hvb (by simp [rowBlk, hcap, e])
     intro i u hi
     rw [hV0 g _ hgb]; exact hc i u hi
   ·exact hc
   ·rename_i he; cases he
   ·exact hc.elim
  have hao0 : AppOk V mem none (.slice none 0 0) v' V0 := ⟨fun g hg => (hao.blk g hg).imp id (fun hx o => by
   cases hy : V g o with
   | none => rfl
   | some u => have := hx o; rw [hle _ _ _ hy] at this; cases this), fun k o u hu => by
   by_cases hkb : k = b
   ·subst hkb; rw [hV0b] at hu; exact .inl hu
   ·rw [hV0 k o hkb] at hu
    rcases hao.new k o u hu with h1 | h1
    ·rw [addU_ne hkb] at h1; exact .inl h1
    ·exact .inr h1, hao.free, hao.off⟩
  have h1 := hk v' (n + m) V0 (fun _ => hvb) (by rw [hadd]; exact fun i c hi => hle2 _ _ _ (hb.has i c hi)) (a9 v' V0 hle0 hc0 hs hao0)
  rwa [hadd] at h1
end
section
variable {P : Program} {ops : Array Oper}
def chkLate (P : Program) (r : Oper) (st : St) : Bool := match effOf P r st with
 | .box _ _ => (match r.dst with | some d => (match st.mem d with | none => true | some _ => false) | none => false)
 | .lit _ _ _ => true
 | _ => false
def isApp (o : Oper) : Bool := match o.op with
 | .call c => (match c.callee with | .builtin .append => true | _ => false)
 | _ => false
def isLit (o : Oper) : Bool := match o.op with | .buildSlice .. => true | _ => false
theorem effOf_notApp {o : Oper} {st : St} (h : isApp o = false) : ∀ s e z b y, effOf P o st ≠ .app s e z b y := by
  intro s e z b y
  obtain ⟨dst, op, type, pos, after, guard⟩ := o
  cases op
  case call c =>
    obtain ⟨callee, args, argTypes⟩ := c
    cases callee with
    | value f => simp only [effOf]; repeat' split
                 all_goals (intro h; cases h)
    | invoke r m => simp only [effOf]; intro h; cases h
    | builtin b =>
      cases b <;> simp only [isApp] at h <;> first | (cases h; done) | (simp only [effOf, pureVal]; repeat' split
                                                                        all_goals (intro h; cases h))
  all_goals
    simp only [effOf, pureVal]
    repeat' split
    all_goals (intro h; cases h)
theorem val_app {x r : Oper} {st : St} {u : Upd} {V V1 : View} {rdL rdR : List Nat} (hwf : WF st) (hap : ∀ d, x.dst = some d → d ∉ looks ops r) (hg : Good x rdL rdR st.mem V u V1) {o : Operand} (ho : o ∈ r.op.operands) :
  (u.app st).val o = st.val o := by
 cases o with
 | const v => cases v <;> rfl
 | global g => rfl
 | func f => rfl
 | tmp t =>
  have ht := mem_looks (ops := ops) ho
  have hne : ∀ d, x.dst = some d → t ≠ d := fun d hd e => hap d hd (e ▸ ht)
  obtain ⟨_, hu⟩ := hg
  cases hs : st.env t with
  | none =>
   have h0 : (u.app st).env t = none := by
    cases u with
    | put d s => obtain ⟨rfl, _⟩ := hu; show (st.put x.dst s).env t = none; rw [put_env (fun e => hne t e rfl)]; exact hs
    | box d b => show upd st.env d _ t = none; rw [upd_ne _ _ (hne d hu.1)]; exact hs
    | mem m d s => obtain ⟨rfl, _⟩ := hu; show ((⟨st.env, m⟩ : St).put x.dst s).env t = none; rw [put_env (fun e => hne t e rfl)]; exact hs
    | row g d b =>
     have hp : ∀ {env : Nat → Option SV} {mem : Nat → Option Res} {k : Nat}, env t = none → purge env mem k t = none := fun h => by unfold purge; rw [h]
     cases g with
     | none => show upd (purge st.env st.mem d) d _ t = none; rw [upd_ne _ _ (hne d hu.1)]; exact hp hs
     | some g => show upd (purge (purge st.env st.mem g) (del st.mem g) d) d _ t = none; rw [upd_ne _ _ (hne d hu.1)]; exact hp (hp hs)
   simp only [St.val, opd, h0, hs]
  | some s' =>
   obtain ⟨v, hv⟩ := hwf t s' hs
   have hold : st.val (.tmp t) = some v := by simp only [St.val, opd, hs]; exact hv
   rw [hold]
   have fin : ∀ (st2 : St) s2, st2.env t = some s2 → toVal st2.mem s2 = some v → st2.val (.tmp t) = some v := fun st2 s2 h1 h2 => by simp only [St.val, opd, h1]; exact h2
   cases u with
   | put d s =>
    obtain ⟨rfl, _⟩ := hu
    refine fin _ s' (by show (st.put x.dst s).env t = _; rw [put_env (fun e => hne t e rfl)]; exact hs) ?_
    rw [show ((Upd.put x.dst s).app st).mem = st.mem from put_mem]; exact hv
   | box d b =>
    refine fin _ s' (by show upd st.env d _ t = _; rw [upd_ne _ _ (hne d hu.1)]; exact hs) ?_
    rw [← hv]
    refine toVal_of fun i hi => upd_ne _ _ (fun e => ?_)
    subst e
    cases s' with
    | v y => cases hi
    | kb y => cases hi
    | own j o => simp only [SV.name, Option.some.injEq] at hi; subst hi; simp [toVal, hu.2.1] at hv
    | row j => simp only [SV.name, Option.some.injEq] at hi; subst hi; simp [toVal, hu.2.1] at hv
   | mem m d s =>
    obtain ⟨rfl, hsame, _⟩ := hu
    refine fin _ s' (by show ((⟨st.env, m⟩ : St).put x.dst s).env t = _; rw [put_env (fun e => hne t e rfl)]; exact hs) ?_
    rw [show ((Upd.mem m x.dst s).app st).mem = m from put_mem]; exact hsame s' v hv
   | row g d b =>
    have hp : ∀ (env : Nat → Option SV) (mem : Nat → Option Res) (k : Nat) (s3 : SV), env t = some s3 → toVal mem s3 = some v → ∃ s4, purge env mem k t = some s4 ∧ toVal (del mem k) s4 = some v ∧ s4.name ≠ some k := fun env mem k s3 h1 h2 => by
     by_cases hn : s3.name = some k
     ·refine ⟨.v v, ?_, rfl, by simp [SV.name]⟩
      unfold purge; rw [h1]
      cases s3 with
      | v y => cases hn
      | kb y => cases hn
      | own i o => simp only [SV.name, Option.some.injEq] at hn; subst hn; simp [demote, Nat.beq_refl, h2]
      | row i => simp only [SV.name, Option.some.injEq] at hn; subst hn; simp [demote, Nat.beq_refl, h2]
     ·refine ⟨s3, purge_keep h1 hn, ?_, hn⟩
      rw [← h2]; exact toVal_of fun i hi => del_ne _ (fun e => hn (by rw [hi, e]))
    cases g with
    | none =>
     obtain ⟨s4, h4, h5, h6⟩ := hp st.env st.mem d s' hs hv
     refine fin _ s4 (by show upd (purge st.env st.mem d) d _ t = _; rw [upd_ne _ _ (hne d hu.1)]; exact h4) ?_
     rw [← h5]
     exact toVal_of fun i hi => by
      have : i ≠ d := fun e => h6 (by rw [hi, e])
      show upd st.mem d b i = del st.mem d i
      rw [upd_ne _ _ this, del_ne _ this]
    | some g =>
     obtain ⟨s4, h4, h5, _⟩ := hp st.env st.mem g s' hs hv
     obtain ⟨s5, h7, h8, h9⟩ := hp (purge st.env st.mem g) (del st.mem g) d s4 h4 h5
     refine fin _ s5 (by show upd (purge (purge st.env st.mem g) (del st.mem g) d) d _ t = _; rw [upd_ne _ _ (hne d hu.1)]; exact h7) ?_
     rw [← h8]
     exact toVal_of fun i hi => by
      have : i ≠ d := fun e => h9 (by rw [hi, e])
      show upd (del st.mem g) d b i = del (del st.mem g) d i
      rw [upd_ne _ _ this, del_ne _ this]
theorem parts_val {st st' : St} : ∀ {l : List (Nat × Operand)}, (∀ x ∈ l, st'.val x.2 = st.val x.2) → st'.parts l = st.parts l
 | [], _ => rfl
 | (i, x) :: l, h => by
  simp only [St.parts, h (i, x) (by simp), parts_val (l := l) (fun y hy => h y (by simp [hy]))]
theorem late_eff {r : Oper} {st st' : St} (hl : isLate r = true) (h : ∀ o ∈ r.op.operands, st'.val o = st.val o) : effOf P r st' = effOf P r st := by
 obtain ⟨dst, op, type, pos, after, guard⟩ := r
 cases op <;> simp only [isLate] at hl <;> try (exact absurd hl (by decide))
 case box t x => simp only [effOf, h x (by simp [Op.operands])]
 case alloc t => rfl
 case buildSlice t len ps =>
  have e := parts_val (st := st) (st' := st') (l := ps.toList) (fun x hx => h x.2 (by simp only [Op.operands]; simp; exact ⟨x.1, by simpa using hx⟩))
  simp only [effOf, e]
theorem dQ_box {x : Oper} {e : Eff} {aL aR : List Nat} {st : St} {V : View} {K1 : Upd → View → Prop} {K : St → View → Prop} {d blk : Nat} {t : TypeId} {cells : List Value} (hd : st.mem d = none) (hxd : x.dst ≠ some d)
  (hblk : ∀ o, V blk o = none) (hna : ∀ s e' z b y, e ≠ .app s e' z b y)
  (hK1 : ∀ u V1, K1 u V1 → ((u.app st).mem d = none → (∀ o, V1 blk o = none) → K ((Upd.box d (.box blk t cells)).app (u.app st)) V1) ∧ ((u.app st).mem d = none ∨ False))
  (h : dQ P x e aL aR st.mem V K1) :
  dQ P x e aL aR (upd st.mem d (.box blk t cells)) V (fun u V1 => K (u.app ((Upd.box d (.box blk t cells)).app st)) V1) := by
 have hput : ∀ s, (Upd.box d (.box blk t cells)).app (st.put x.dst s) = (Upd.put x.dst s).app ((Upd.box d (.box blk t cells)).app st) := fun s => by
  cases hx : x.dst with
  | none => rfl
  | some y => simp only [Upd.app, St.put]; rw [upd_comm _ _ _ (fun e => hxd (by rw [hx, e]))]
 have kput : ∀ s, K1 (.put x.dst s) V → K ((Upd.put x.dst s).app ((Upd.box d (.box blk t cells)).app st)) V := fun s hk => by
  rw [← hput]
  exact (hK1 _ _ hk).1 (by rw [show ((Upd.put x.dst s).app st).mem = st.mem from put_mem]; exact hd) hblk
 cases e with
 | val s => exact kput _ h
 | pick c s u => exact ⟨fun hc => kput _ (h.yes hc), fun hc => kput _ (h.no hc)⟩
 | ldv ty b off n =>
  obtain ⟨l, h1, h2, h3⟩ := h.get
  refine ⟨⟨l, h1, h2, ?_⟩⟩
  split at h3
  ·exact kput _ h3
  ·exact h3
 | idx base len i size => obtain ⟨b, off, h1, h2, h3, h4⟩ := h.get; exact ⟨⟨b, off, h1, h2, h3, kput _ h4⟩⟩
 | sem s => obtain ⟨y, h1, h3⟩ := h.get; exact ⟨⟨y, h1, kput _ h3⟩⟩
 | box ty cs =>
  simp only [dQ] at h ⊢
  cases hx : x.dst with
  | none => rw [hx] at h; exact h.no.elim
  | some y =>
   rw [hx] at h
   have hyd : y ≠ d := fun e => hxd (by rw [hx, e])
   simp only [upd_ne _ _ hyd]
   simp only at h
   cases hm : st.mem y with
   | some r => rw [hm] at h; exact h.no.elim
   | none =>
    rw [hm] at h
    simp only at h ⊢
    intro b2 hb2
    have := (hK1 _ _ (h b2 hb2)).1 (by show upd st.mem y _ d = none; rw [upd_ne _ _ (Ne.symm hyd)]; exact hd) hblk
    have e : (Upd.box d (.box blk t cells)).app ((Upd.box y (.box b2 ty cs)).app st) = (Upd.box y (.box b2 ty cs)).app ((Upd.box d (.box blk t cells)).app st) := by
     simp only [Upd.app]; rw [upd_comm _ _ _ hyd, upd_comm _ _ _ hyd]
    rwa [e] at this
 | lit ty len cs =>
  intro b hb
  have hb0 : LitOk V st.mem b cs := ⟨hb.has, fun hc i r hr => hb.free hc i r (by rw [upd_ne _ _ (fun e => by subst e; rw [hd] at hr; cases hr)]; exact hr)⟩
  rw [← hput]
  refine (hK1 _ _ (h b hb0)).1 (by rw [show ((Upd.put x.dst _).app st).mem = st.mem from put_mem]; exact hd) (fun o => ?_)
  by_cases hc : cs = []
  ·subst hc; rw [addU_nil]; exact hblk o
  ·rw [addU_ne (fun e => hb.free hc d _ (upd_same _ _ _) (by simp [Res.blk, e]))]; exact hblk o
 | sto pl id off cs =>
  obtain rfl : pl = false := by
   cases pl
   ·rfl
   ·exact h.no.elim
  simp only [dQ] at h ⊢
  cases hm : st.mem id with
  | none => rw [hm] at h; exact h.no.elim
  | some r =>
   have hid : id ≠ d := fun e => by subst e; rw [hd] at hm; cases hm
   rw [upd_ne _ _ hid, hm]
   rw [hm] at h
   cases r with
   | row v ty s k => exact h.no.elim
   | box b ty old =>
    simp only at h ⊢
    split at h
    ·have := (hK1 _ _ h).1 (by rw [show ((Upd.mem _ x.dst _).app st).mem = _ from put_mem]; show upd st.mem id _ d = none; rw [upd_ne _ _ (Ne.symm hid)]; exact hd) hblk
     have e : (Upd.box d (.box blk t cells)).app ((Upd.mem (upd st.mem id (.box b ty (setAt old off cs))) x.dst (.v undef)).app st) =
       (Upd.mem (upd (upd st.mem d (.box blk t cells)) id (.box b ty (setAt old off cs))) x.dst (.v undef)).app ((Upd.box d (.box blk t cells)).app st) := by
      cases hx : x.dst with
      | none => simp only [Upd.app, St.put]; rw [upd_comm _ _ _ hid]
      | some y => simp only [Upd.app, St.put]; rw [upd_comm _ _ _ hid, upd_comm _ _ _ (fun e => hxd (by rw [hx, e]))]
     rwa [e] at this
    ·exact h.no.elim
 | call f args =>
  refine CallN.frameBox hd h fun s V' mem' hV' hk => ?_
  have hk2 := hK1 _ _ hk.go
  have hmd : mem' d = none := by
   rcases hk2.2 with h1 | h1
   ·rwa [show ((Upd.mem mem' x.dst s).app st).mem = mem' from put_mem] at h1
   ·exact h1.elim
  refine ⟨hmd, fun i hi => ?_, fun i hi hne => ?_, ?_⟩
  ·by_cases hid : i = d
   ·subst hid; rw [upd_same, upd_same]
   ·rw [upd_ne _ _ hid, upd_ne _ _ hid]; exact hk.same i hi
  ·by_cases hid : i = d
   ·subst hid; rw [upd_same] at hi; cases hi
   ·rw [upd_ne _ _ hid] at hi ⊢; exact hk.fresh i hi hne
  ·have := hk2.1 (by rw [show ((Upd.mem mem' x.dst s).app st).mem = mem' from put_mem]; exact hmd) hV'
   have e : (Upd.box d (.box blk t cells)).app ((Upd.mem mem' x.dst s).app st) = (Upd.mem (upd mem' d (.box blk t cells)) x.dst s).app ((Upd.box d (.box blk t cells)).app st) := by
    cases hx : x.dst with
    | none => rfl
    | some y => simp only [Upd.app, St.put]; rw [upd_comm _ _ _ (fun e => hxd (by rw [hx, e]))]
   rwa [e] at this
 | app s e size bytes y => exact absurd rfl (hna _ _ _ _ _)
 | bad => exact h.no.elim
end
section
variable {P : Program} {ops : Array Oper}
theorem rowBlk_mem {mem : Nat → Option Res} {id : Nat} {v : Value} {ty : TypeId} {sz k : Nat} (hm : mem id = some (.row v ty sz k)) : ∀ g, rowBlk v = some g → ∃ i r, mem i = some r ∧ r.blk = some g := fun _ hg => ⟨id, _, hm, hg⟩
theorem dQ_lit {x : Oper} {e : Eff} {aL aR : List Nat} {st : St} {V : View} {K1 : Upd → View → Prop} {K : St → View → Prop} {b : Nat} {cells : List Value} {dr : Option Nat} {sl : SV} (hsl : sl.name = none)
    (hxd : ∀ d, dr = some d → x.dst ≠ some d) (hb : LitOk V st.mem b cells)
    (hK1 : ∀ u V1, K1 u V1 → LitOk V1 (u.app st).mem b cells → K ((u.app st).put dr sl) (V1.addU b cells))
    (h : dQ P x e aL aR st.mem V K1) :
    dQ P x e aL aR st.mem (V.addU b cells) (fun u V1 => K (u.app (st.put dr sl)) V1) := by
  have haw : ∀ u, Away sl st.mem u := fun u => by cases u <;> simp [Away, hsl]
  have hcm : ∀ u : Upd, (match u with | .put d _ => d = x.dst | .box d _ => some d = x.dst | .mem _ d _ => d = x.dst | .row _ d _ => some d = x.dst) → u.app (st.put dr sl) = (u.app st).put dr sl :=
    fun u hu => app_put (dr := x.dst) hxd hu (haw u)
  have kput : ∀ s, K1 (.put x.dst s) V → K ((Upd.put x.dst s).app (st.put dr sl)) (V.addU b cells) := fun s hk => by
    rw [hcm _ rfl]
    exact hK1 _ _ hk (by rw [show ((Upd.put x.dst s).app st).mem = st.mem from put_mem]; exact hb)
  have hle : V.le (V.addU b cells) := View.addU_le _ _ _
  cases e with
  | val s => exact kput _ h
  | pick c s u => exact ⟨fun hc => kput _ (h.yes hc), fun hc => kput _ (h.no hc)⟩
  | ldv ty bb off n =>
    obtain ⟨l, h1, h2, h3⟩ := h.get
    refine ⟨⟨l, h1, .inl (h2.none.mono hle), ?_⟩⟩
    split at h3
    · exact kput _ h3
    · exact h3
  | idx base len i size => obtain ⟨bb, off, h1, h2, h3, h4⟩ := h.get; exact ⟨⟨bb, off, h1, h2, h3, kput _ h4⟩⟩
  | sem s => obtain ⟨y, h1, h3⟩ := h.get; exact ⟨⟨y, h1, kput _ h3⟩⟩
  | box ty cs =>
    simp only [dQ] at h ⊢
    cases hx : x.dst with
    | none => rw [hx] at h; exact h.no.elim
    | some y =>
      rw [hx] at h
      simp only at h ⊢
      cases hm : st.mem y with
      | some r => rw [hm] at h; exact h.no.elim
      | none =>
        rw [hm] at h
        simp only at h ⊢
        intro b2 hb2
        rw [hcm _ hx.symm]
        refine hK1 _ _ (h b2 (fun o => ?_)) ⟨hb.has, fun hc i r hr => ?_⟩
        · cases hv : V b2 o with
          | none => rfl
          | some u => have := hb2 o; rw [hle _ _ _ hv] at this; cases this
        · have hr : upd st.mem y (.box b2 ty cs) i = some r := hr
          by_cases hi : i = y
          · subst hi
            rw [upd_same, Option.some.injEq] at hr; subst hr
            intro e
            simp only [Res.blk, Option.some.injEq] at e; subst e
            obtain ⟨u0, hu0⟩ := hb.first hc
            rw [hb2 0] at hu0; cases hu0
          · rw [upd_ne _ _ hi] at hr; exact hb.free hc i r hr
  | lit ty len cs =>
    intro b2 hb2
    rw [hcm _ rfl]
    have hmem : ((Upd.put x.dst (.v (.slice (some ⟨b2, 0, none⟩) len len))).app st).mem = st.mem := put_mem
    have hov : ∀ i c c', b = b2 → cells[i]? = some c → cs[i]? = some c' → c = c' := fun i c c' e h1 h2 => by
      subst e
      have a1 := hb.has i c h1
      have a2 := hb2.has i c' h2
      rw [Nat.zero_add] at a1 a2
      have a3 := View.addU_le (V.addU b cells) b cs _ _ _ a1
      rw [a2] at a3
      exact (Option.some.inj a3).symm
    have hb20 : LitOk V st.mem b2 cs := ⟨fun i c hi => by
      have a2 := hb2.has i c hi
      rw [Nat.zero_add] at a2 ⊢
      unfold View.addU
      cases hv : V b2 i with
      | none => simp only [if_true]; exact hi
      | some u =>
        simp only
        have a3 := View.addU_le (V.addU b cells) b2 cs _ _ _ (hle _ _ _ hv)
        rw [a2] at a3; exact a3.symm, hb2.free⟩
    have hb1 : LitOk (V.addU b2 cs) st.mem b cells := ⟨fun i c hi => by
      have a1 := hb.has i c hi
      rw [Nat.zero_add] at a1 ⊢
      show (V.addU b2 cs).addU b cells b i = some c
      cases hv : V.addU b2 cs b i with
      | none => unfold View.addU at hv ⊢; simp only [hv, if_true]; exact hi
      | some u =>
        rw [View.addU_le (V.addU b2 cs) b cells _ _ _ hv]
        rcases addU_some hv with h1 | ⟨e, h1⟩
        · rw [hle _ _ _ h1] at a1; exact a1
        · rw [hov i c u e hi h1], hb.free⟩
    have hcomm : (V.addU b2 cs).addU b cells = (V.addU b cells).addU b2 cs := by
      funext k o
      cases hv : V k o with
      | some v => rw [View.addU_le _ _ _ _ _ _ (View.addU_le V b2 cs _ _ _ hv), View.addU_le _ _ _ _ _ _ (View.addU_le V b cells _ _ _ hv)]
      | none =>
        unfold View.addU
        simp only [hv]
        by_cases h1 : k = b2 <;> by_cases h2 : k = b
        · simp only [h1, if_true]
          have e : b = b2 := h2.symm.trans h1
          cases hc1 : cs[o]? with
          | none => subst e; simp
                    cases cells[o]? <;> rfl
          | some c1 =>
            subst e
            simp only [if_true]
            cases hc2 : cells[o]? with
            | none => rfl
            | some c2 => simp only; rw [hov o c2 c1 rfl hc2 hc1]
        · simp only [h1, if_true]
          have : ¬ b2 = b := fun e => h2 (h1.trans e)
          simp only [this, if_false]
          cases cs[o]? <;> rfl
        · simp only [h2, if_true]
          have : ¬ b = b2 := fun e => h1 (h2.trans e)
          simp only [this, if_false]
          cases cells[o]? <;> rfl
        · simp only [h1, h2, if_false]
    rw [← hcomm]
    exact hK1 _ _ (h b2 hb20) (by rw [hmem]; exact hb1)
  | sto pl id off cs =>
    obtain rfl : pl = false := by
      cases pl
      · rfl
      · exact h.no.elim
    simp only [dQ] at h ⊢
    cases hm : st.mem id with
    | none => rw [hm] at h; exact h.no.elim
    | some r =>
      rw [hm] at h
      cases r with
      | row v ty s k => exact h.no.elim
      | box bb ty old =>
        simp only at h ⊢
        split at h
        · rw [hcm _ rfl]
          refine hK1 _ _ h ⟨hb.has, fun hc i r hr => ?_⟩
          rw [show ((Upd.mem _ x.dst _).app st).mem = _ from put_mem] at hr
          have hr : upd st.mem id (.box bb ty (setAt old off cs)) i = some r := hr
          by_cases hi : i = id
          · subst hi
            rw [upd_same, Option.some.injEq] at hr; subst hr
            exact fun e => hb.free hc i _ hm (by simpa [Res.blk] using e)
          · rw [upd_ne _ _ hi] at hr; exact hb.free hc i r hr
        · exact h.no.elim
  | call f args =>
    refine CallN.frameLit hb h fun s V' mem' hlit hk => ⟨hk.same, hk.fresh, ?_⟩
    show K ((Upd.mem mem' x.dst s).app (st.put dr sl)) (V'.addU b cells)
    rw [hcm (.mem mem' x.dst s) rfl]
    exact hK1 _ _ hk.go (by rw [show ((Upd.mem mem' x.dst s).app st).mem = mem' from put_mem]; exact hlit)
  | app s ee size bytes y =>
    simp only [dQ] at h ⊢
    cases hx : x.dst with
    | none => rw [hx] at h; exact h.no.elim
    | some d =>
      rw [hx] at h
      simp only at h ⊢
      have frees : ∀ (g : Option Nat) (v' : Value) (n' : Nat), (cells ≠ [] → rowBlk v' ≠ some b) → ∀ V', (V'.addU b cells).has b 0 cells → LitOk V' ((Upd.row g d (.row v' ee size n')).app st).mem b cells := fun g v' n' hvb V' hh => ⟨hh, fun hc i r hr => by
        cases g with
        | none =>
          have hr : upd st.mem d (.row v' ee size n') i = some r := hr
          by_cases hi : i = d
          · subst hi
            rw [upd_same, Option.some.injEq] at hr; subst hr
            exact hvb hc
          · rw [upd_ne _ _ hi] at hr; exact hb.free hc i r hr
        | some g =>
          have hr : upd (del st.mem g) d (.row v' ee size n') i = some r := hr
          by_cases hi : i = d
          · subst hi
            rw [upd_same, Option.some.injEq] at hr; subst hr
            exact hvb hc
          · rw [upd_ne _ _ hi] at hr
            by_cases hg : i = g
            · subst hg; rw [del_same] at hr; cases hr
            · rw [del_ne _ hg] at hr; exact hb.free hc i r hr⟩
      split at h
      · rename_i id
        split at h
        · rename_i hgo
          cases hm : st.mem id with
          | none => rw [hm] at h; exact h.no.elim
          | some r =>
            rw [hm] at h
            cases r with
            | box b2 t2 c2 => exact h.no.elim
            | row v ty sz n =>
              simp only at h ⊢
              split at h
              · refine AppN.frameLit hb (rowBlk_mem hm) h fun v' n' V' hvb hh hk => ?_
                show K ((Upd.row (some id) d (.row v' ee size n')).app (st.put dr sl)) _
                rw [hcm (.row (some id) d (.row v' ee size n')) hx.symm]
                exact hK1 _ _ hk (frees _ _ _ hvb _ hh)
              · exact h.no.elim
        · exact h.no.elim
      · rename_i base
        split at h
        · rename_i hgo
          refine AppN.frameLit hb (fun g hg => by cases base <;> simp [rowBlk] at hg) h fun v' n' V' hvb hh hk => ?_
          show K ((Upd.row none d (.row v' ee size n')).app (st.put dr sl)) _
          rw [hcm (.row none d (.row v' ee size n')) hx.symm]
          exact hK1 _ _ hk (frees _ _ _ hvb _ hh)
        · exact h.no.elim
      · rename_i v hv
        obtain ⟨id, n, h⟩ := h.get
        refine ⟨⟨id, n, ?_⟩⟩
        cases hm : st.mem id with
        | some r =>
          rw [hm] at h
          obtain ⟨rfl, hgo, h⟩ := h
          refine ⟨rfl, hgo, AppN.frameLit hb (rowBlk_mem hm) h fun v' n' V' hvb hh hk => ?_⟩
          show K ((Upd.row (some id) d (.row v' ee size n')).app (st.put dr sl)) _
          rw [hcm (.row (some id) d (.row v' ee size n')) hx.symm]
          exact hK1 _ _ hk (frees _ _ _ hvb _ hh)
        | none =>
          rw [hm] at h
          rcases h with ⟨hf, hgo, h⟩ | ⟨hf, h⟩
          rotate_left
          · refine .inr ⟨hf, ?_⟩
            have := kput (.v v) (by rw [hx]; exact h)
            rw [hx] at this
            exact this
          refine .inl ⟨hf, hgo, AppF.frameLit hb h fun v' n' V' hvb hh hk => ?_⟩
          show K ((Upd.row none d (.row v' ee size n')).app (st.put dr sl)) _
          rw [hcm (.row none d (.row v' ee size n')) hx.symm]
          exact hK1 _ _ hk (frees _ _ _ hvb _ hh)
      · exact h.no.elim
  | bad => exact h.no.elim
end
section
variable {P : Program} {ops : Array Oper}
theorem act_noguard {r : Oper} {rdL rdR : List Nat} {st : St} {V : View} {K : Upd → View → Prop} (hg : r.guard = none) : act P ops r rdL rdR st V K = dQ P r (effOf P r st) rdL rdR st.mem V K := by
 unfold act guardOf; rw [hg]
theorem dQ_box_intro {r : Oper} {t : TypeId} {cells : List Value} {rdL rdR : List Nat} {mem : Nat → Option Res} {V : View} {K : Upd → View → Prop} {d : Nat} (hd : r.dst = some d) (hm : mem d = none)
  (h : ∀ blk, (∀ o, V blk o = none) → K (.box d (.box blk t cells)) V) : dQ P r (.box t cells) rdL rdR mem V K := by
 simp only [dQ, hd, hm]; exact h
theorem dQ_box_elim {r : Oper} {t : TypeId} {cells : List Value} {rdL rdR : List Nat} {mem : Nat → Option Res} {V : View} {K : Upd → View → Prop} {d : Nat} (hd : r.dst = some d)
  (h : dQ P r (.box t cells) rdL rdR mem V K) : mem d = none ∧ ∀ blk, (∀ o, V blk o = none) → K (.box d (.box blk t cells)) V := by
 simp only [dQ, hd] at h
 cases hm : mem d with
 | some y => rw [hm] at h; exact h.no.elim
 | none => rw [hm] at h; exact ⟨rfl, h⟩
theorem effOf_lit_notbox {o : Oper} {st : St} (h : isLit o = true) : ∀ t c, effOf P o st ≠ .box t c := by
 obtain ⟨dst, op, type, pos, after, guard⟩ := o
 cases op <;> simp only [isLit] at h <;> try (exact absurd h (by decide))
 intro t c
 simp only [effOf]
 repeat' split
 all_goals (intro h; cases h)
theorem swap_late {x r : Oper} {st : St} {V : View} {K : St → View → Prop} {rdL rdR rdL1 rdR1 aL aR : List Nat} (hl : isLate r = true) (hgd : r.guard = none) (hchk : chkLate P r st = true) (hwf : WF st) (hap : Apart ops x r)
  (hna : isApp x = true → isLit r = true)
  (h : act P ops x aL aR st V (fun ux V1 => act P ops r rdL1 rdR1 (ux.app st) V1 (fun ur V2 => K (ur.app (ux.app st)) V2))) :
  act P ops r rdL rdR st V (fun ur V1 => act P ops x aL aR (ur.app st) V1 (fun ux V2 => K (ux.app (ur.app st)) V2)) := by
 have h1 : act P ops x aL aR st V (fun ux V1 => dQ P r (effOf P r st) rdL1 rdR1 (ux.app st).mem V1 (fun ur V2 => K (ur.app (ux.app st)) V2)) := by
  refine act_good hwf (fun _ hi => hi) (fun _ hi => hi) (fun u V1 hg hk => ?_) h
  have he : effOf P r (u.app st) = effOf P r st := late_eff hl (fun o ho => val_app hwf hap.a hg ho)
  rw [act_noguard hgd] at hk
  rwa [he] at hk
 unfold chkLate at hchk
 rw [act_noguard hgd]
 generalize he : effOf P r st = e at *
 cases e <;> simp only at hchk <;> try (exact absurd hchk (by decide))
 case box t cells =>
  cases hd : r.dst with
  | none => rw [hd] at hchk; cases hchk
  | some d =>
   rw [hd] at hchk
   simp only at hchk
   cases hm : st.mem d with
   | some y => rw [hm] at hchk; cases hchk
   | none =>
    refine dQ_box_intro hd hm fun blk hblk => ?_
    have hxd : x.dst ≠ some d := fun e => hap.b d e hd
    have hlike : Like ops x st ((Upd.box d (.box blk t cells)).app st) :=
     like_app (r := r) (V := V) (V1 := V) (rdL := loadsOf x st) (rdR := rowsOf st (looks ops x)) hwf hap (fun _ hi => hi) (fun _ hi => hi) ⟨View.le_refl _, hd, hm, _, _, _, rfl⟩
    have hxna : isApp x = false := by
     cases ha : isApp x with
     | false => rfl
     | true =>
      exact absurd he (effOf_lit_notbox (hna ha) t cells)
    have hdq : dQ P x (effOf P x st) aL aR st.mem V (fun ux V1 => dQ P r (.box t cells) rdL1 rdR1 (ux.app st).mem V1 (fun ur V2 => K (ur.app (ux.app st)) V2)) →
      dQ P x (effOf P x st) aL aR ((Upd.box d (.box blk t cells)).app st).mem V (fun ux V2 => K (ux.app ((Upd.box d (.box blk t cells)).app st)) V2) := fun hq => by
     refine dQ_box (K1 := fun ux V1 => dQ P r (.box t cells) rdL1 rdR1 (ux.app st).mem V1 (fun ur V2 => K (ur.app (ux.app st)) V2)) hm hxd hblk (fun s e' z b y => effOf_notApp hxna s e' z b y) (fun u V1 hk => ?_) hq
     obtain ⟨hmu, hk⟩ := dQ_box_elim hd hk
     exact ⟨fun _ hf => hk blk hf, .inl hmu⟩
    have hskip : (dQ P r (.box t cells) rdL1 rdR1 ((Upd.put x.dst (.v undef)).app st).mem V (fun ur V2 => K (ur.app ((Upd.put x.dst (.v undef)).app st)) V2)) →
      K ((Upd.put x.dst (.v undef)).app ((Upd.box d (.box blk t cells)).app st)) V := fun hk => by
     have := (dQ_box_elim hd hk).2 blk hblk
     have e : (Upd.box d (.box blk t cells)).app ((Upd.put x.dst (.v undef)).app st) = (Upd.put x.dst (.v undef)).app ((Upd.box d (.box blk t cells)).app st) := by
      cases hx : x.dst with
      | none => rfl
      | some y => simp only [Upd.app, St.put]; rw [upd_comm _ _ _ (fun e => hxd (by rw [hx, e]))]
     rwa [e] at this
    unfold act at h1
    unfold act
    rw [hlike.guard, hlike.effOf]
    revert h1
    generalize guardOf ops x st.env = g
    rcases g with _ | ⟨_ | b, w⟩
    ·exact fun h1 => ⟨h1.no⟩
    ·cases w
     ·exact hskip
     ·exact hdq
    ·cases w
     ·exact fun h1 => ⟨fun hb => hskip (h1.yes hb), fun hb => hdq (h1.no hb)⟩
     ·exact fun h1 => ⟨fun hb => hdq (h1.yes hb), fun hb => hskip (h1.no hb)⟩
 case lit te len cells =>
  show ∀ b : Nat, LitOk V st.mem b cells → act P ops x aL aR ((Upd.put r.dst (.v (.slice (some ⟨b, 0, none⟩) len len))).app st) (V.addU b cells) _
  intro b hb
  have hlike : Like ops x st (st.put r.dst (.v (.slice (some ⟨b, 0, none⟩) len len))) :=
   ⟨fun t ht => put_env (fun e => hap.c t e ht), fun t _ s' _ => by rw [put_mem], fun _ _ _ _ _ _ => by rw [put_mem]⟩
  have hdq : dQ P x (effOf P x st) aL aR st.mem V (fun ux V1 => dQ P r (.lit te len cells) rdL1 rdR1 (ux.app st).mem V1 (fun ur V2 => K (ur.app (ux.app st)) V2)) →
    dQ P x (effOf P x st) aL aR st.mem (V.addU b cells) (fun ux V2 => K (ux.app (st.put r.dst (.v (.slice (some ⟨b, 0, none⟩) len len)))) V2) := fun hq =>
   dQ_lit (K1 := fun ux V1 => dQ P r (.lit te len cells) rdL1 rdR1 (ux.app st).mem V1 (fun ur V2 => K (ur.app (ux.app st)) V2)) rfl (fun d hd e => hap.b d e hd) hb (fun u V1 hk hlit => hk b hlit) hq
  have hskip : dQ P r (.lit te len cells) rdL1 rdR1 ((Upd.put x.dst (.v undef)).app st).mem V (fun ur V2 => K (ur.app ((Upd.put x.dst (.v undef)).app st)) V2) →
    K ((Upd.put x.dst (.v undef)).app (st.put r.dst (.v (.slice (some ⟨b, 0, none⟩) len len)))) (V.addU b cells) := fun hk => by
   have hk2 : K ((Upd.put r.dst (.v (.slice (some ⟨b, 0, none⟩) len len))).app ((Upd.put x.dst (.v undef)).app st)) (V.addU b cells) := hk b (by rw [show ((Upd.put x.dst (.v undef)).app st).mem = st.mem from put_mem]; exact hb)
   have e : (Upd.put r.dst (.v (.slice (some ⟨b, 0, none⟩) len len))).app ((Upd.put x.dst (.v undef)).app st) = (Upd.put x.dst (.v undef)).app (st.put r.dst (.v (.slice (some ⟨b, 0, none⟩) len len))) := by
    cases hx : x.dst with
    | none => rfl
    | some y =>
     cases hd : r.dst with
     | none => rfl
     | some d => simp only [Upd.app, St.put]; rw [upd_comm _ _ _ (fun e => hap.b y hx (by rw [hd, e]))]
   rwa [e] at hk2
  unfold act at h1
  show act P ops x aL aR (st.put r.dst (.v (.slice (some ⟨b, 0, none⟩) len len))) (V.addU b cells) _
  unfold act
  rw [hlike.guard, hlike.effOf, show (st.put r.dst (.v (.slice (some ⟨b, 0, none⟩) len len))).mem = st.mem from put_mem]
  revert h1
  generalize guardOf ops x st.env = g
  rcases g with _ | ⟨_ | c, w⟩
  ·exact fun h1 => ⟨h1.no⟩
  ·cases w
   ·exact hskip
   ·exact hdq
  ·cases w
   ·exact fun h1 => ⟨fun hb => hskip (h1.yes hb), fun hb => hdq (h1.no hb)⟩
   ·exact fun h1 => ⟨fun hb => hdq (h1.yes hb), fun hb => hskip (h1.no hb)⟩
end
def bindsB (e : Edge) : Bool := match e.ground with | .textOnly _ => false | .gcOnly _ => false | _ => true
def waitsL (i : Nat) : List Edge → Bool
 | [] => false
 | e :: l => match bindsB e, Nat.beq e.on i with | true, true => true | _, _ => waitsL i l
def waits (o : Oper) (i : Nat) : Bool := waitsL i o.after.toList
def maskL (acc : List Nat) : List Edge → Nat
 | [] => 0
 | e :: l => match bindsB e with | true => 2 ^ e.on ||| acc.getD e.on 0 ||| maskL acc l | false => maskL acc l
def masks : List Oper → List Nat → List Nat
 | [], acc => acc
 | o :: l, acc => masks l (acc ++ [maskL acc o.after.toList])
def trW (ms : List Nat) (a b : Nat) : Bool := (ms.getD a 0).testBit b
theorem bindsB_eq (e : Edge) : bindsB e = Region.binds .any e := by
 unfold bindsB Region.binds
 cases e.ground <;> rfl
theorem waitsL_iff {i : Nat} : ∀ {l : List Edge}, waitsL i l = true ↔ ∃ e ∈ l, bindsB e = true ∧ e.on = i
 | [] => by simp [waitsL]
 | e :: l => by
  unfold waitsL
  cases hb : bindsB e <;> cases he : Nat.beq e.on i <;> simp only [List.mem_cons, exists_eq_or_imp, waitsL_iff (l := l), hb, Bool.false_eq_true, false_and, false_or, true_and]
  ·constructor
   ·exact fun h => .inr h
   ·rintro (h | h)
    ·subst h; rw [Nat.beq_refl] at he; cases he
    ·exact h
  ·exact ⟨fun _ => .inl (Nat.eq_of_beq_eq_true he), fun _ => trivial⟩
theorem maskL_bit {acc : List Nat} {b : Nat} : ∀ {l : List Edge}, (maskL acc l).testBit b = true → ∃ e ∈ l, bindsB e = true ∧ (e.on = b ∨ (acc.getD e.on 0).testBit b = true)
 | [], h => by simp [maskL] at h
 | e :: l, h => by
  unfold maskL at h
  cases hb : bindsB e with
  | true =>
   rw [hb] at h
   simp only [Nat.testBit_or, Bool.or_eq_true, Nat.testBit_two_pow, decide_eq_true_eq] at h
   rcases h with (h | h) | h
   ·exact ⟨e, by simp, hb, .inl h⟩
   ·exact ⟨e, by simp, hb, .inr h⟩
   ·obtain ⟨e', he, h2⟩ := maskL_bit h; exact ⟨e', by simp [he], h2⟩
  | false =>
   rw [hb] at h
   obtain ⟨e', he, h2⟩ := maskL_bit h; exact ⟨e', by simp [he], h2⟩
theorem masks_spec : ∀ (l : List Oper) (acc : List Nat), ∃ rest, masks l acc = acc ++ rest ∧ rest.length = l.length ∧
  ∀ k o, l[k]? = some o → ∃ acc2, acc2 = (acc ++ rest).take (acc.length + k) ∧ (acc ++ rest).getD (acc.length + k) 0 = maskL acc2 o.after.toList
 | [], acc => ⟨[], by simp [masks], rfl, fun k o h => by simp at h⟩
 | o :: l, acc => by
  obtain ⟨rest, h1, h2, h3⟩ := masks_spec l (acc ++ [maskL acc o.after.toList])
  refine ⟨maskL acc o.after.toList :: rest, by rw [masks, h1]; simp, by simp [h2], fun k o' hk => ?_⟩
  cases k with
  | zero =>
   simp only [List.getElem?_cons_zero, Option.some.injEq] at hk
   subst hk
   exact ⟨acc, by simp, by simp [List.getD_eq_getElem?_getD]⟩
  | succ k =>
   obtain ⟨acc2, e1, e2⟩ := h3 k o' (by simpa using hk)
   refine ⟨acc2, ?_, ?_⟩
   ·rw [e1]
    simp only [List.append_assoc, List.singleton_append, List.length_append, List.length_singleton]
    congr 1; omega
   ·rw [← e2]
    simp only [List.append_assoc, List.singleton_append, List.length_append, List.length_singleton]
    congr 1; omega
theorem trW_step {ops : Array Oper} {a b : Nat} (h : trW (masks ops.toList []) a b = true) : ∃ o, ops[a]? = some o ∧ (waits o b = true ∨ ∃ z, waits o z = true ∧ z < a ∧ trW (masks ops.toList []) z b = true) := by
 obtain ⟨rest, h1, h2, h3⟩ := masks_spec ops.toList []
 unfold trW at *
 simp only [List.nil_append] at h1 h3
 rw [h1] at h ⊢
 cases ho : ops[a]? with
 | none =>
  have : rest.length ≤ a := by
   rw [h2]
   have := Array.getElem?_eq_none_iff.1 ho
   simpa using this
  rw [List.getD_eq_getElem?_getD, List.getElem?_eq_none this] at h
  simp at h
 | some o =>
  obtain ⟨acc2, e1, e2⟩ := h3 a o (by simpa using ho)
  simp only [List.length_nil, Nat.zero_add] at e1 e2
  rw [e2] at h
  obtain ⟨e, he, hb, hx⟩ := maskL_bit h
  refine ⟨o, rfl, ?_⟩
  rcases hx with hx | hx
  ·exact .inl (waitsL_iff.2 ⟨e, he, hb, hx⟩)
  ·right
   rw [e1, List.getD_eq_getElem?_getD, List.getElem?_take] at hx
   split at hx
   ·rename_i hlt
    exact ⟨e.on, waitsL_iff.2 ⟨e, he, hb, rfl⟩, hlt, by rw [List.getD_eq_getElem?_getD]; exact hx⟩
   ·simp at hx
theorem trW_closed {ops : Array Oper} {C : Nat → Prop} (hC : ∀ a o z, C a → ops[a]? = some o → waits o z = true → C z) : ∀ (a b : Nat), (∀ o z, ops[a]? = some o → waits o z = true → C z) → trW (masks ops.toList []) a b = true → C b := by
 intro a
 induction a using Nat.strongRecOn with
 | _ a ih =>
  intro b ha h
  obtain ⟨o, ho, hx⟩ := trW_step h
  rcases hx with hx | ⟨z, hz, hlt, hzb⟩
  ·exact ha o b ho hx
  ·exact ih z hlt b (fun o2 z2 ho2 hw => hC z o2 z2 (ha o z ho hz) ho2 hw) hzb
abbrev Plan := List (Nat × List Nat)
def relOf (o : Oper) : List (Nat × Nat) → List Nat
 | [] => []
 | (i, id) :: l => match waits o i with | true => relOf o l | false => id :: relOf o l
def tag (i : Nat) : List Nat → List (Nat × Nat)
 | [] => []
 | id :: l => (i, id) :: tag i l
def chkList (P : Program) (ops : Array Oper) (st : St) : List Nat → Bool
 | [] => true
 | y :: l => match ops[y]? with
  | some o => (match chkLate P o st with | true => chkList P ops st l | false => false)
  | none => false
def xseq (P : Program) (ops : Array Oper) (K : St → View → Prop) : Plan → List (Nat × Nat) → List (Nat × Nat) → St → View → Prop
 | [], _, _, st, V => K st V
 | (i, cs) :: L, rdL, rdR, st, V => match ops[i]? with
  | none => False
  | some o => match chkList P ops st cs with
   | true => act P ops o (relOf o rdL) (relOf o rdR) st V (fun u V1 => match isQuiet o with
     | true => xseq P ops K L (tag i (loadsOf o st) ++ rdL) (tag i (rowsOf st (looks ops o)) ++ rdR) (u.app st) V1
     | false => xseq P ops K L rdL rdR (u.app st) V1)
   | false => Stuck o
def apartB (ops : Array Oper) (x y : Oper) : Bool :=
 (match x.dst with | some d => !(memB d (looks ops y)) && !(y.dst == some d) | none => true) && (match y.dst with | some d => !(memB d (looks ops x)) | none => true)
theorem apartB_spec {ops : Array Oper} {x y : Oper} (h : apartB ops x y = true) : Apart ops x y := by
 unfold apartB at h
 simp only [Bool.and_eq_true] at h
 obtain ⟨h1, h2⟩ := h
 refine ⟨fun d hd => ?_, fun d hd => ?_, fun d hd => ?_⟩
 ·rw [hd] at h1; simp only [Bool.and_eq_true, Bool.not_eq_true'] at h1; exact memB_false h1.1
 ·rw [hd] at h1; simp only [Bool.and_eq_true, Bool.not_eq_true', beq_eq_false_iff_ne, ne_eq] at h1; exact h1.2
 ·rw [hd] at h2; simp only [Bool.not_eq_true'] at h2; exact memB_false h2
structure PairOk (ops : Array Oper) (x y : Nat) : Prop where
 get : ∃ ox oy, ops[x]? = some ox ∧ ops[y]? = some oy ∧ True ∧
  (trW (masks ops.toList []) y x = true ∨ (Apart ops ox oy ∧ (isQuiet ox = true ∨ (isLate oy = true ∧ oy.guard = none ∧ (isApp ox = true → isLit oy = true)) ∨ (isLate ox = true ∧ ox.guard = none ∧ isQuiet oy = true))))
def PlanOk (ops : Array Oper) : Plan → Prop
 | [] => True
 | (x, cs) :: L => (∀ y ∈ L.map (·.1), PairOk ops x y) ∧ (∃ ox, ops[x]? = some ox ∧ (isQuiet ox = false → ∀ y ∈ L.map (·.1), ∀ oy, ops[y]? = some oy → isLate oy = true → trW (masks ops.toList []) y x = false → y ∈ cs)) ∧
  (∀ y ∈ cs, y ∈ L.map (·.1) ∧ ∃ oy, ops[y]? = some oy ∧ isLate oy = true ∧ ∀ r ∈ L.map (·.1), trW (masks ops.toList []) y r = false) ∧ PlanOk ops L
def eraseP (r : Nat) (L : Plan) : Plan := (L.filter (fun x => !(x.1 == r))).map (fun x => (x.1, x.2.filter (fun y => !(y == r))))
theorem eraseP_keys {r : Nat} {L : Plan} {y : Nat} : y ∈ (eraseP r L).map (·.1) ↔ y ∈ L.map (·.1) ∧ y ≠ r := by
 simp only [eraseP, List.map_map, List.mem_map, List.mem_filter, Function.comp, Bool.not_eq_true', beq_eq_false_iff_ne, ne_eq]
 constructor
 ·rintro ⟨x, ⟨h1, h2⟩, h3⟩; exact ⟨⟨x, h1, h3⟩, fun e => h2 (h3.trans e)⟩
 ·rintro ⟨⟨x, h1, h3⟩, h2⟩; exact ⟨x, ⟨h1, fun e => h2 (h3.symm.trans e)⟩, h3⟩
theorem eraseP_cons {r x : Nat} {cs : List Nat} {L : Plan} (h : x ≠ r) : eraseP r ((x, cs) :: L) = (x, cs.filter (fun y => !(y == r))) :: eraseP r L := by
 simp [eraseP, h]
theorem eraseP_cons_same {r : Nat} {cs : List Nat} {L : Plan} : eraseP r ((r, cs) :: L) = eraseP r L := by
 simp [eraseP]
theorem planOk_erase {ops : Array Oper} {r : Nat} : ∀ {L : Plan}, PlanOk ops L → PlanOk ops (eraseP r L)
 | [], _ => trivial
 | (x, cs) :: L, h => by
  obtain ⟨h1, ⟨ox, ho, h2⟩, h3, h4⟩ := h
  by_cases hx : x = r
  ·subst hx; rw [eraseP_cons_same]; exact planOk_erase h4
  ·rw [eraseP_cons hx]
   refine ⟨fun y hy => h1 y (eraseP_keys.1 hy).1, ⟨ox, ho, fun hq y hy oy hoy hl hw => ?_⟩, fun y hy => ?_, planOk_erase h4⟩
   ·have := eraseP_keys.1 hy
    exact List.mem_filter.2 ⟨h2 hq y this.1 oy hoy hl hw, by simp [this.2]⟩
   ·obtain ⟨hy1, hy2⟩ := List.mem_filter.1 hy
    obtain ⟨h5, oy, h6, h7, h8⟩ := h3 y hy1
    exact ⟨eraseP_keys.2 ⟨h5, by simpa using hy2⟩, oy, h6, h7, fun z hz => h8 z (eraseP_keys.1 hz).1⟩
section
variable {P : Program} {ops : Array Oper}
theorem good_wf {o : Oper} {st : St} {u : Upd} {V V1 : View} {rdL rdR : List Nat} (hwf : WF st) (hg : Good o rdL rdR st.mem V u V1) : WF (u.app st) := by
 obtain ⟨_, hu⟩ := hg
 have hnone : ∀ s x d, toVal st.mem s = some x → st.mem d = none → s.name ≠ some d := fun s x d hx hm e => by
  cases s with
  | v y => cases e
  | kb y => cases e
  | own i o => simp only [SV.name, Option.some.injEq] at e; subst e; simp [toVal, hm] at hx
  | row i => simp only [SV.name, Option.some.injEq] at e; subst e; simp [toVal, hm] at hx
 have hput : ∀ (m : Nat → Option Res) (env : Nat → Option SV) (d : Option Nat) (s : SV), (∀ k s, env k = some s → ∃ v, toVal m s = some v) → (∃ v, toVal m s = some v) → WF ((⟨env, m⟩ : St).put d s) := fun m env d s h1 h2 k s' hk => by
  cases d with
  | none => exact h1 k s' hk
  | some d =>
   by_cases hkd : k = d
   ·subst hkd
    simp only [St.put, upd_same, Option.some.injEq] at hk
    subst hk; exact h2
   ·simp only [St.put, upd_ne _ _ hkd] at hk
    exact h1 k s' hk
 cases u with
 | put d s => exact hput st.mem st.env d s hwf hu.2
 | box d b =>
  obtain ⟨_, hm, b', t, c, rfl⟩ := hu
  intro k s hk
  by_cases hkd : k = d
  ·subst hkd
   have : upd st.env k (.own k 0) k = some s := hk
   rw [upd_same, Option.some.injEq] at this; subst this
   exact ⟨.pointer (some ⟨b', 0, none⟩), by simp [Upd.app, toVal, upd_same]⟩
  ·have : upd st.env d (.own d 0) k = some s := hk
   rw [upd_ne _ _ hkd] at this
   obtain ⟨v, hv⟩ := hwf k s this
   exact ⟨v, by rw [← hv]; exact toVal_of fun i hi => upd_ne _ _ (fun e => hnone s v d hv hm (by rw [hi, e]))⟩
 | mem m d s =>
  obtain ⟨_, hsame, _, hs, _⟩ := hu
  exact hput m st.env d s (fun k s hk => by obtain ⟨v, hv⟩ := hwf k s hk; exact ⟨v, hsame s v hv⟩) hs
 | row g d b =>
  obtain ⟨_, _, _, v0, t0, s0, k0, rfl⟩ := hu
  have hp : ∀ (env : Nat → Option SV) (mem : Nat → Option Res) (k : Nat), (∀ j s, env j = some s → ∃ v, toVal mem s = some v) → ∀ j s, purge env mem k j = some s → (∃ v, toVal (del mem k) s = some v) ∧ s.name ≠ some k := fun env mem k h j s hj => by
   obtain ⟨s', h1, h2⟩ := purge_some hj
   rcases h2 with ⟨rfl, h2⟩ | ⟨_, v, _, rfl⟩
   ·obtain ⟨v, hv⟩ := h j s h1
    exact ⟨⟨v, by rw [← hv]; exact toVal_of fun i hi => del_ne _ (fun e => h2 (by rw [hi, e]))⟩, h2⟩
   ·exact ⟨⟨v, rfl⟩, by simp [SV.name]⟩
  have fin : ∀ (env : Nat → Option SV) (mem : Nat → Option Res), (∀ j s, env j = some s → (∃ v, toVal (del mem d) s = some v) ∧ s.name ≠ some d) → WF ⟨upd env d (.row d), upd mem d (.row v0 t0 s0 k0)⟩ := fun env mem h k s hk => by
   by_cases hkd : k = d
   ·subst hkd
    simp only [upd_same, Option.some.injEq] at hk; subst hk
    exact ⟨v0, by simp [toVal, upd_same]⟩
   ·simp only [upd_ne _ _ hkd] at hk
    obtain ⟨⟨v, hv⟩, hn⟩ := h k s hk
    refine ⟨v, ?_⟩
    rw [← hv]
    refine toVal_of fun i hi => ?_
    have : i ≠ d := fun e => hn (by rw [hi, e])
    show upd mem d _ i = del mem d i
    rw [upd_ne _ _ this, del_ne _ this]
  cases g with
  | none => exact fin _ _ (hp _ _ d hwf)
  | some g => exact fin _ _ (hp _ _ d (fun j s hj => (hp _ _ g hwf j s hj).1))
theorem relOf_sub {o : Oper} : ∀ {l l' : List (Nat × Nat)}, (∀ x ∈ l, x ∈ l') → ∀ i ∈ relOf o l, i ∈ relOf o l'
 | [], _, _, i, hi => by cases hi
 | (j, id) :: l, l', h, i, hi => by
  unfold relOf at hi
  have hin : ∀ {l'' : List (Nat × Nat)}, (j, id) ∈ l'' → waits o j = false → id ∈ relOf o l'' := fun {l''} hm hw => by
   induction l'' with
   | nil => cases hm
   | cons y l'' ih =>
    obtain ⟨j2, id2⟩ := y
    unfold relOf
    rcases List.mem_cons.1 hm with he | hm
    ·simp only [Prod.mk.injEq] at he
     obtain ⟨rfl, rfl⟩ := he
     rw [hw]; simp
    ·split
     ·exact ih hm
     ·exact List.mem_cons_of_mem _ (ih hm)
  split at hi
  ·exact relOf_sub (fun x hx => h x (by simp [hx])) i hi
  ·rename_i hw
   rcases List.mem_cons.1 hi with rfl | hi
   ·exact hin (h (j, i) (by simp)) hw
   ·exact relOf_sub (fun x hx => h x (by simp [hx])) i hi
theorem mem_tag {i id : Nat} : ∀ {l : List Nat}, id ∈ l → (i, id) ∈ tag i l
 | [], h => by cases h
 | x :: l, h => by
  unfold tag
  rcases List.mem_cons.1 h with rfl | h
  ·simp
  ·exact List.mem_cons_of_mem _ (mem_tag h)
theorem relOf_tag {o : Oper} {i id : Nat} {l rd : List (Nat × Nat)} (hw : waits o i = false) (h : (i, id) ∈ l) : id ∈ relOf o (l ++ rd) := by
 have := relOf_sub (o := o) (l := [(i, id)]) (l' := l ++ rd) (fun x hx => by simp only [List.mem_singleton] at hx; subst hx; simp [h]) id (by simp [relOf, hw])
 exact this
theorem xseq_mono {K : St → View → Prop} : ∀ (L : Plan) (rdL rdR rdL' rdR' : List (Nat × Nat)) (st : St) (V : View), WF st → (∀ x ∈ rdL', x ∈ rdL) → (∀ x ∈ rdR', x ∈ rdR) → xseq P ops K L rdL rdR st V → xseq P ops K L rdL' rdR' st V
 | [], _, _, _, _, _, _, _, _, _, h => h
 | (i, cs) :: L, rdL, rdR, rdL', rdR', st, V, hwf, hL, hR, h => by
  unfold xseq at h ⊢
  split
  ·rename_i ho; simp only [ho] at h
  ·rename_i o ho
   simp only [ho] at h
   split
   ·rename_i hc
    simp only [hc] at h
    refine act_good hwf (relOf_sub hL) (relOf_sub hR) (fun u V1 hg hk => ?_) h
    split at hk
    ·exact xseq_mono L _ _ _ _ _ _ (good_wf hwf hg) (fun x hx => by
      rcases List.mem_append.1 hx with hx | hx
      ·exact List.mem_append.2 (.inl hx)
      ·exact List.mem_append.2 (.inr (hL x hx))) (fun x hx => by
      rcases List.mem_append.1 hx with hx | hx
      ·exact List.mem_append.2 (.inl hx)
      ·exact List.mem_append.2 (.inr (hR x hx))) hk
    ·exact xseq_mono L _ _ _ _ _ _ (good_wf hwf hg) hL hR hk
   ·rename_i hc; simp only [hc] at h; exact h
theorem chkList_mem {st : St} : ∀ {cs : List Nat}, chkList P ops st cs = true ↔ ∀ y ∈ cs, ∃ o, ops[y]? = some o ∧ chkLate P o st = true
 | [] => by simp [chkList]
 | y :: l => by
  unfold chkList
  cases ho : ops[y]? with
  | none => simp [ho]
  | some o =>
   simp only [List.mem_cons, forall_eq_or_imp, ho, Option.some.injEq, exists_eq_left']
   cases hc : chkLate P o st with
   | true => simp only [true_and]; exact chkList_mem (cs := l)
   | false => simp
theorem chkLate_app {y r : Oper} {st : St} {u : Upd} {V V1 : View} {rdL rdR : List Nat} (hl : isLate y = true) (hwf : WF st) (ha : ∀ d, r.dst = some d → d ∉ looks ops y) (hd : ∀ d, r.dst = some d → y.dst ≠ some d)
  (hg : Good r rdL rdR st.mem V u V1) (h : chkLate P y st = true) : chkLate P y (u.app st) = true := by
 have he : effOf P y (u.app st) = effOf P y st := late_eff hl (fun o ho => val_app hwf ha hg ho)
 unfold chkLate at *
 rw [he]
 have hm : ∀ d, y.dst = some d → st.mem d = none → (u.app st).mem d = none := fun d hyd hm => by
  have hrd : r.dst ≠ some d := fun e => hd d e hyd
  obtain ⟨_, hu⟩ := hg
  cases u with
  | put d2 s => rw [show ((Upd.put d2 s).app st).mem = st.mem from put_mem]; exact hm
  | box d2 b => show upd st.mem d2 b d = none; rw [upd_ne _ _ (fun e => hrd (by rw [hu.1, e]))]; exact hm
  | mem m d2 s => rw [show ((Upd.mem m d2 s).app st).mem = m from put_mem]; exact hu.2.2.2.2 d hm hrd
  | row g d2 b =>
   have hne : d ≠ d2 := fun e => hrd (by rw [hu.1, e])
   cases g with
   | none => show upd st.mem d2 b d = none; rw [upd_ne _ _ hne]; exact hm
   | some g =>
    show upd (del st.mem g) d2 b d = none
    rw [upd_ne _ _ hne]
    by_cases hg : d = g
    ·subst hg; exact del_same _ _
    ·rw [del_ne _ hg]; exact hm
 revert h
 generalize effOf P y st = e
 cases e <;> simp only <;> try exact id
 case box t c =>
  cases hyd : y.dst with
  | none => exact id
  | some d =>
   simp only
   cases hmd : st.mem d with
   | some z => intro h; cases h
   | none => rw [hm d hyd hmd]; exact id
theorem xseq_pull {K : St → View → Prop} {r : Nat} {or : Oper} (hor : ops[r]? = some or) (hnq : isQuiet or = false) : ∀ (L : Plan) (rdL rdR : List (Nat × Nat)) (st : St) (V : View), r ∈ L.map (·.1) → PlanOk ops L → (L.map (·.1)).Nodup → WF st →
  (∀ i ∈ L.map (·.1), trW (masks ops.toList []) r i = false) →
  xseq P ops K L rdL rdR st V → act P ops or (relOf or rdL) (relOf or rdR) st V (fun u V1 => xseq P ops K (eraseP r L) rdL rdR (u.app st) V1)
 | [], _, _, _, _, hr, _, _, _, _, _ => by simp at hr
 | (x, cs) :: L, rdL, rdR, st, V, hr, hp, hnd, hwf, hready, h => by
  obtain ⟨p1, ⟨ox, hox, p2⟩, p3, p4⟩ := hp
  have hnd' : x ∉ L.map (·.1) ∧ (L.map (·.1)).Nodup := by simpa using hnd
  unfold xseq at h
  simp only [hox] at h
  cases hc : chkList P ops st cs with
  | false => rw [hc] at h; exact h.no.elim
  | true =>
   rw [hc] at h
   simp only at h
   by_cases hx : x = r
   ·subst hx
    rw [hox, Option.some.injEq] at hor
    subst hor
    rw [eraseP_cons_same]
    have hkeep : eraseP x L = L := by
     unfold eraseP
     have h1 : L.filter (fun y => !(y.1 == x)) = L := List.filter_eq_self.2 (fun y hy => by
      simp only [Bool.not_eq_true', beq_eq_false_iff_ne, ne_eq]
      exact fun e => hnd'.1 (List.mem_map.2 ⟨y, hy, e⟩))
     rw [h1]
     conv => rhs; rw [← List.map_id L]
     refine List.map_congr_left (fun y hy => ?_)
     have : y.2.filter (fun z => !(z == x)) = y.2 := List.filter_eq_self.2 (fun z hz => by
      simp only [Bool.not_eq_true', beq_eq_false_iff_ne, ne_eq]
      intro e
      have : ∀ (L : Plan), PlanOk ops L → ∀ y ∈ L, ∀ z ∈ y.2, z ∈ L.map (·.1) := fun L => by
       induction L with
       | nil => intro _ y hy; cases hy
       | cons a L ih =>
        intro hpl y hy z hz
        obtain ⟨_, _, q3, q4⟩ := hpl
        rcases List.mem_cons.1 hy with rfl | hy
        ·exact List.mem_cons_of_mem _ (q3 z hz).1
        ·exact List.mem_cons_of_mem _ (ih q4 y hy z hz)
      exact hnd'.1 (e ▸ this L p4 y hy z hz))
     rw [this]; rfl
    rw [hkeep]
    refine act_good hwf (fun _ hi => hi) (fun _ hi => hi) (fun u V1 hg hk => ?_) h
    split at hk
    ·exact xseq_mono L _ _ _ _ _ _ (good_wf hwf hg) (fun y hy => List.mem_append.2 (.inr hy)) (fun y hy => List.mem_append.2 (.inr hy)) hk
    ·exact hk
   ·have hrL : r ∈ L.map (·.1) := by
     rcases List.mem_cons.1 hr with h1 | h1
     ·exact absurd h1.symm hx
     ·exact h1
    rw [eraseP_cons hx]
    obtain ⟨ox', or', e1, e2, hw1, hpair⟩ := (p1 r hrL).get
    rw [hox, Option.some.injEq] at e1; subst e1
    rw [hor, Option.some.injEq] at e2; subst e2
    have hnw : trW (masks ops.toList []) r x = false := hready x (by simp)
    rcases hpair with hpair | ⟨hap, hkind⟩
    ·rw [hnw] at hpair; cases hpair
    have hwr : waits or x = false := by
     cases hw : waits or x with
     | false => rfl
     | true =>
      obtain ⟨rest, h1, h2, h3⟩ := masks_spec ops.toList []
      simp only [List.nil_append] at h1 h3
      obtain ⟨acc2, q1, q2⟩ := h3 r or (by simpa using hor)
      simp only [List.length_nil, Nat.zero_add] at q1 q2
      have : trW (masks ops.toList []) r x = true := by
       unfold trW
       rw [h1, q2]
       obtain ⟨e, he, hb, hon⟩ := waitsL_iff.1 hw
       have : ∀ (l : List Edge), e ∈ l → (maskL acc2 l).testBit x = true := fun l => by
        induction l with
        | nil => intro h; cases h
        | cons e' l ih =>
         intro hm
         unfold maskL
         rcases List.mem_cons.1 hm with rfl | hm
         ·rw [hb]; simp [Nat.testBit_or, hon]
         ·cases bindsB e' <;> simp [Nat.testBit_or, ih hm]
       exact this _ he
      rw [this] at hnw; cases hnw
    have ih : ∀ u V1 rdL1 rdR1, Good ox (relOf ox rdL) (relOf ox rdR) st.mem V u V1 → xseq P ops K L rdL1 rdR1 (u.app st) V1 →
      act P ops or (relOf or rdL1) (relOf or rdR1) (u.app st) V1 (fun ur V2 => xseq P ops K (eraseP r L) rdL1 rdR1 (ur.app (u.app st)) V2) := fun u V1 rdL1 rdR1 hg hk =>
     xseq_pull hor hnq L rdL1 rdR1 (u.app st) V1 hrL p4 hnd'.2 (good_wf hwf hg) (fun i hi => hready i (by simp [hi])) hk
    have hback : ∀ ur V1, Good or (relOf or rdL) (relOf or rdR) st.mem V ur V1 → chkList P ops (ur.app st) (cs.filter (fun y => !(y == r))) = true := fun ur V1 hg => by
     refine chkList_mem.2 (fun y hy => ?_)
     obtain ⟨hy1, hy2⟩ := List.mem_filter.1 hy
     have hyr : y ≠ r := by simpa using hy2
     obtain ⟨oy, hoy, hcy⟩ := (chkList_mem.1 hc) y hy1
     obtain ⟨hyL, oy', hoy', hly, hyw⟩ := p3 y hy1
     rw [hoy, Option.some.injEq] at hoy'; subst hoy'
     refine ⟨oy, hoy, chkLate_app (ops := ops) hly hwf ?_ ?_ hg hcy⟩
     all_goals
      have hpr : Apart ops or oy ∨ Apart ops oy or := by
       have : ∀ (L : Plan), PlanOk ops L → r ∈ L.map (·.1) → y ∈ L.map (·.1) → PairOk ops r y ∨ PairOk ops y r := fun L => by
        induction L with
        | nil => intro _ h; simp at h
        | cons a L ih =>
         intro hpl h1 h2
         obtain ⟨q1, _, _, q4⟩ := hpl
         simp only [List.map_cons, List.mem_cons] at h1 h2
         rcases h1 with h1 | h1
         ·rcases h2 with h2 | h2
          ·exact absurd (h2.trans h1.symm) hyr
          ·exact .inl (by rw [h1]; exact q1 y h2)
         ·rcases h2 with h2 | h2
          ·exact .inr (by rw [h2]; exact q1 r h1)
          ·exact ih q4 h1 h2
       rcases this L p4 hrL hyL with h1 | h1
       ·obtain ⟨a1, a2, b1, b2, _, b3⟩ := h1.get
        rw [hor, Option.some.injEq] at b1; subst b1
        rw [hoy, Option.some.injEq] at b2; subst b2
        rcases b3 with b3 | b3
        ·rw [hyw r hrL] at b3; cases b3
        ·exact .inl b3.1
       ·obtain ⟨a1, a2, b1, b2, _, b3⟩ := h1.get
        rw [hoy, Option.some.injEq] at b1; subst b1
        rw [hor, Option.some.injEq] at b2; subst b2
        rcases b3 with b3 | b3
        ·rw [hready y (by simp [hyL])] at b3; cases b3
        ·exact .inr b3.1
     ·intro d hd; rcases hpr with hpr | hpr
      ·exact hpr.a d hd
      ·exact hpr.c d hd
     ·intro d hd e; rcases hpr with hpr | hpr
      ·exact hpr.b d hd e
      ·exact hpr.b d e hd
    cases hq : isQuiet ox with
    | true =>
     rw [hq] at h
     have h1 := act_good (ops := ops) hwf (rdL' := relOf ox rdL) (rdR' := relOf ox rdR) (fun _ hi => hi) (fun _ hi => hi) (fun u V1 hg hk => ih u V1 _ _ hg hk) h
     have h2 := swap_quiet (K := fun st2 V2 => xseq P ops K (eraseP r L) (tag x (loadsOf ox st) ++ rdL) (tag x (rowsOf st (looks ops ox)) ++ rdR) st2 V2) (bL := relOf ox rdL) (bR := relOf ox rdR) hq hwf hap
      (relOf_sub (o := or) (fun y hy => List.mem_append.2 (.inr hy))) (fun i hi => relOf_tag hwr (mem_tag hi)) (relOf_sub (o := or) (fun y hy => List.mem_append.2 (.inr hy))) (fun i hi => relOf_tag hwr (mem_tag hi)) h1
     refine act_good hwf (fun _ hi => hi) (fun _ hi => hi) (fun ur V1 hg ⟨hlk2, hk⟩ => ?_) h2
     unfold xseq
     simp only [hox, hback ur V1 hg, hq]
     have e1 : loadsOf ox (ur.app st) = loadsOf ox st := by
      unfold loadsOf
      cases hop : ox.op <;> simp only
      case load ty a =>
       cases a with
       | tmp k => simp only [opd, hlk2.env k (mem_looks (by rw [hop]; simp [Op.operands]))]
       | const v => cases v <;> rfl
       | global g => rfl
       | func f => rfl
     have e2 : ∀ l : List Nat, (∀ t ∈ l, t ∈ looks ops ox) → rowsOf (ur.app st) l = rowsOf st l := fun l => by
      induction l with
      | nil => intro _; rfl
      | cons a l ihl =>
       intro hl
       unfold rowsOf
       rw [hlk2.env a (hl a (by simp)), ihl (fun t ht => hl t (by simp [ht]))]
     rw [e1, e2 _ (fun _ ht => ht)]
     exact hk
    | false =>
     rw [hq] at h
     rcases hkind with hkind | ⟨hlate, hgd, hal⟩ | ⟨_, _, hkind⟩
     ·rw [hq] at hkind; cases hkind
     rotate_left
     ·rw [hnq] at hkind; cases hkind
     have h1 := act_good (ops := ops) hwf (rdL' := relOf ox rdL) (rdR' := relOf ox rdR) (fun _ hi => hi) (fun _ hi => hi) (fun u V1 hg hk => ih u V1 _ _ hg hk) h
     obtain ⟨oy, hoy, hcy⟩ := (chkList_mem.1 hc) r (p2 hq r hrL or hor hlate hnw)
     rw [hor, Option.some.injEq] at hoy; subst hoy
     have h2 := swap_late (K := fun st2 V2 => xseq P ops K (eraseP r L) rdL rdR st2 V2) (rdL := relOf or rdL) (rdR := relOf or rdR) hlate hgd hcy hwf hap hal h1
     refine act_good hwf (fun _ hi => hi) (fun _ hi => hi) (fun ur V1 hg hk => ?_) h2
     unfold xseq
     simp only [hox, hback ur V1 hg, hq]
     exact hk
end
end Go.X
end

section
namespace Go.X
section
variable {P : Program} {ops : Array Oper}
structure Fresh (mem : Nat → Option Res) (V : View) : Prop where
 get : ∃ B : Nat, ∀ b, B ≤ b → (∀ o, V b o = none) ∧ ∀ i r, mem i = some r → r.blk ≠ some b
theorem Fresh.addU {mem : Nat → Option Res} {V : View} (h : Fresh mem V) (b : Nat) (cells : List Value) : Fresh mem (V.addU b cells) := by
 obtain ⟨B, hB⟩ := h.get
 refine ⟨max B (b + 1), fun c hc => ⟨fun o => ?_, (hB c (by omega)).2⟩⟩
 rw [addU_ne (by omega)]; exact (hB c (by omega)).1 o
theorem Fresh.box {mem : Nat → Option Res} {V : View} (h : Fresh mem V) (d blk : Nat) (t : TypeId) (cells : List Value) : Fresh (upd mem d (.box blk t cells)) V := by
 obtain ⟨B, hB⟩ := h.get
 refine ⟨max B (blk + 1), fun c hc => ⟨(hB c (by omega)).1, fun i r hi hb => ?_⟩⟩
 by_cases hd : i = d
 ·subst hd
  rw [upd_same, Option.some.injEq] at hi
  subst hi
  simp only [Res.blk, Option.some.injEq] at hb
  omega
 ·rw [upd_ne _ _ hd] at hi
  exact (hB c (by omega)).2 i r hi hb
theorem Fresh.of_inv {w0 : World} {M : Nat → Prop} {V0 : View} {n : Nat} {st : St} {V : View} {a : Act} {w : World} (h : Inv w0 M V0 n st V a w) : Fresh st.mem V :=
 ⟨w.heap.size, fun b hb => ⟨fun o => by
  cases hv : V b o with
  | none => rfl
  | some v => exact absurd (sub_lt h.mp.sub hv) (by omega), fun i r hi hr => absurd (blk_lt (h.mp.ok i r hi) hr) (by omega)⟩⟩
theorem has_det {V : View} {b off : Nat} {l l' : List Value} (h : V.has b off l) (h' : V.has b off l') (hl : l.length = l'.length) : l = l' := by
 refine List.ext_getElem? fun i => ?_
 cases h1 : l[i]? with
 | none =>
  have : l'.length ≤ i := by rw [← hl]; simpa using h1
  rw [List.getElem?_eq_none this]
 | some v =>
  have hi : i < l'.length := by rw [← hl]; exact (List.getElem?_eq_some_iff.1 h1).1
  obtain ⟨v', h2⟩ : ∃ v', l'[i]? = some v' := ⟨_, List.getElem?_eq_getElem hi⟩
  have e1 := h i v h1
  rw [h' i v' h2] at e1
  rw [h2, e1]
theorem qv_det (w : World) {V : View} {s s' : SV} {e : Eff} (h : qv P V s e) (h' : qv P V s' e) : s = s' := by
 cases e with
 | val x => exact h.trans h'.symm
 | pick c a b => exact h.trans h'.symm
 | ldv t b off n =>
  obtain ⟨l, v, h1, h2, h3, h4⟩ := h
  obtain ⟨l', v', h1', h2', h3', h4'⟩ := h'
  have := has_det h2 h2' (h1.trans h1'.symm)
  subst this
  rw [h3, Option.some.injEq] at h3'
  subst h3'
  exact h4.trans h4'.symm
 | idx base len i size =>
  obtain ⟨b, off, h1, _, _, h4⟩ := h
  obtain ⟨b', off', h1', _, _, h4'⟩ := h'
  rw [h1] at h1'
  simp only [Option.some.injEq, Addr.mk.injEq] at h1'
  obtain ⟨rfl, rfl, _⟩ := h1'
  exact h4.trans h4'.symm
 | sem x =>
  obtain ⟨y, h1, h4⟩ := h
  obtain ⟨y', h1', h4'⟩ := h'
  have := (h1 w).symm.trans (h1' w)
  simp only [Result.ok.injEq] at this
  rw [h4, h4', this.1]
 | _ => exact h.elim
def readBlk : Eff → Nat
 | .ldv _ b _ _ => b
 | _ => 0
theorem qv_down {V : View} {b : Nat} {cells : List Value} {s : SV} {e : Eff} (hb : readBlk e < b) (h : qv P (V.addU b cells) s e) : qv P V s e := by
 cases e with
 | ldv t p off n =>
  obtain ⟨l, v, h1, h2, h3, h4⟩ := h
  refine ⟨l, v, h1, fun i u hi => ?_, h3, h4⟩
  have := h2 i u hi
  rwa [addU_ne (show p ≠ b from by have : p < b := hb; omega)] at this
 | _ => exact h
theorem quietVal_det (w : World) {o : Oper} {st : St} {V : View} {s s' : SV} (h : quietVal P ops o st V s) (h' : quietVal P ops o st V s') : s = s' := by
 unfold quietVal at h h'
 revert h h'
 generalize guardOf ops o st.env = g
 rcases g with _ | ⟨_ | b, q⟩
 ·exact fun h => h.elim
 ·cases q
  ·exact fun h h' => h.trans h'.symm
  ·exact qv_det w
 ·cases q <;> cases b <;> simp only [if_true, if_false, Bool.false_eq_true] <;> first | exact fun h h' => h.trans h'.symm | exact qv_det w
theorem quietVal_down {o : Oper} {st : St} {V : View} {b : Nat} {cells : List Value} {s : SV} (hb : readBlk (effOf P o st) < b) (h : quietVal P ops o st (V.addU b cells) s) : quietVal P ops o st V s := by
 unfold quietVal at h ⊢
 revert h
 generalize guardOf ops o st.env = g
 rcases g with _ | ⟨_ | c, q⟩
 ·exact id
 ·cases q
  ·exact id
  ·exact qv_down hb
 ·cases q <;> cases c <;> simp only [if_true, if_false, Bool.false_eq_true] <;> first | exact id | exact qv_down hb
theorem quietVal_eq {o : Oper} {st st' : St} {V : View} {s : SV} (h : Like ops o st st') : quietVal P ops o st' V s ↔ quietVal P ops o st V s := by
 unfold quietVal
 rw [h.guard, h.effOf]
theorem Apart.symm {x r : Oper} (h : Apart ops x r) : Apart ops r x := ⟨h.c, fun d h1 h2 => h.b d h2 h1, h.a⟩
theorem like_put {o : Oper} {st : St} {d : Option Nat} {s : SV} (h : ∀ k, d = some k → k ∉ looks ops o) : Like ops o st (st.put d s) :=
 ⟨fun t ht => put_env (fun e => h t e ht), fun t _ s' _ => by rw [put_mem], fun _ _ _ _ _ _ => by rw [put_mem]⟩
theorem put_put {st : St} {d e : Option Nat} {s t : SV} (h : ∀ k, d = some k → e ≠ some k) : (st.put d s).put e t = (st.put e t).put d s := by
 cases d with
 | none => rfl
 | some d =>
  cases e with
  | none => rfl
  | some e => simp only [St.put]; rw [upd_comm _ _ _ (fun x => h d rfl (by rw [x]))]
theorem wf_put {o : Oper} {st : St} {V : View} {s : SV} (hwf : WF st) (hs : quietVal P ops o st V s) : Good o [] [] st.mem V (.put o.dst s) V := ⟨View.le_refl _, rfl, (quietVal_from hs).wf hwf⟩
theorem late_cases {x : Oper} (hl : isLate x = true) (st : St) : (∃ t cells, effOf P x st = .box t cells) ∨ (∃ e len cells, effOf P x st = .lit e len cells) ∨ effOf P x st = .bad := by
 obtain ⟨dst, op, type, pos, after, guard⟩ := x
 cases op <;> simp only [isLate] at hl <;> try (exact absurd hl (by decide))
 all_goals
  simp only [effOf]
  repeat' split
  all_goals first | exact .inl ⟨_, _, rfl⟩ | exact .inr (.inl ⟨_, _, _, rfl⟩) | exact .inr (.inr rfl)
theorem late_notQuiet {x : Oper} (hl : isLate x = true) : isQuiet x = false := by
 obtain ⟨dst, op, type, pos, after, guard⟩ := x
 cases op <;> simp only [isLate] at hl <;> first | rfl | exact absurd hl (by decide)
theorem erase_keep {x : Nat} {L : Plan} (h : x ∉ L.map (·.1)) (p4 : PlanOk ops L) : eraseP x L = L := by
 unfold eraseP
 have h1 : L.filter (fun y => !(y.1 == x)) = L := List.filter_eq_self.2 (fun y hy => by
  simp only [Bool.not_eq_true', beq_eq_false_iff_ne, ne_eq]
  exact fun e => h (List.mem_map.2 ⟨y, hy, e⟩))
 rw [h1]
 conv => rhs; rw [← List.map_id L]
 refine List.map_congr_left (fun y hy => ?_)
 have : y.2.filter (fun z => !(z == x)) = y.2 := List.filter_eq_self.2 (fun z hz => by
  simp only [Bool.not_eq_true', beq_eq_false_iff_ne, ne_eq]
  intro e
  have : ∀ (L : Plan), PlanOk ops L → ∀ y ∈ L, ∀ z ∈ y.2, z ∈ L.map (·.1) := fun L => by
   induction L with
   | nil => intro _ y hy; cases hy
   | cons a L ih =>
    intro hpl y hy z hz
    obtain ⟨_, _, q3, q4⟩ := hpl
    rcases List.mem_cons.1 hy with rfl | hy
    ·exact List.mem_cons_of_mem _ (q3 z hz).1
    ·exact List.mem_cons_of_mem _ (ih q4 y hy z hz)
  exact h (e ▸ this L p4 y hy z hz))
 rw [this]; rfl
theorem chk_back {r x : Nat} {or : Oper} {cs : List Nat} {L : Plan} (hor : ops[r]? = some or) (hrL : r ∈ L.map (·.1)) (p4 : PlanOk ops L)
  (p3 : ∀ y ∈ cs, y ∈ L.map (·.1) ∧ ∃ oy, ops[y]? = some oy ∧ isLate oy = true ∧ ∀ r ∈ L.map (·.1), trW (masks ops.toList []) y r = false)
  (hready : ∀ i ∈ (x :: L.map (·.1)), trW (masks ops.toList []) r i = false) {st : St} {V V1 : View} {ur : Upd} {rdL rdR : List Nat} (hwf : WF st) (hg : Good or rdL rdR st.mem V ur V1) (hc : chkList P ops st cs = true) :
  chkList P ops (ur.app st) (cs.filter (fun y => !(y == r))) = true := by
 refine chkList_mem.2 (fun y hy => ?_)
 obtain ⟨hy1, hy2⟩ := List.mem_filter.1 hy
 have hyr : y ≠ r := by simpa using hy2
 obtain ⟨oy, hoy, hcy⟩ := (chkList_mem.1 hc) y hy1
 obtain ⟨hyL, oy', hoy', hly, hyw⟩ := p3 y hy1
 rw [hoy, Option.some.injEq] at hoy'; subst hoy'
 refine ⟨oy, hoy, chkLate_app (ops := ops) hly hwf ?_ ?_ hg hcy⟩
 all_goals
  have hpr : Apart ops or oy ∨ Apart ops oy or := by
   have : ∀ (L : Plan), PlanOk ops L → r ∈ L.map (·.1) → y ∈ L.map (·.1) → PairOk ops r y ∨ PairOk ops y r := fun L => by
    induction L with
    | nil => intro _ h; simp at h
    | cons a L ih =>
     intro hpl h1 h2
     obtain ⟨q1, _, _, q4⟩ := hpl
     simp only [List.map_cons, List.mem_cons] at h1 h2
     rcases h1 with h1 | h1
     ·rcases h2 with h2 | h2
      ·exact absurd (h2.trans h1.symm) hyr
      ·exact .inl (by rw [h1]; exact q1 y h2)
     ·rcases h2 with h2 | h2
      ·exact .inr (by rw [h2]; exact q1 r h1)
      ·exact ih q4 h1 h2
   rcases this L p4 hrL hyL with h1 | h1
   ·obtain ⟨a1, a2, b1, b2, _, b3⟩ := h1.get
    rw [hor, Option.some.injEq] at b1; subst b1
    rw [hoy, Option.some.injEq] at b2; subst b2
    rcases b3 with b3 | b3
    ·rw [hyw r hrL] at b3; cases b3
    ·exact .inl b3.1
   ·obtain ⟨a1, a2, b1, b2, _, b3⟩ := h1.get
    rw [hoy, Option.some.injEq] at b1; subst b1
    rw [hor, Option.some.injEq] at b2; subst b2
    rcases b3 with b3 | b3
    ·rw [hready y (by simp [hyL])] at b3; cases b3
    ·exact .inr b3.1
 ·intro d hd; rcases hpr with hpr | hpr
  ·exact hpr.a d hd
  ·exact hpr.c d hd
 ·intro d hd e; rcases hpr with hpr | hpr
  ·exact hpr.b d hd e
  ·exact hpr.b d e hd
theorem xseq_pullq (w : World) {K : St → View → Prop} {r : Nat} {or : Oper} (hor : ops[r]? = some or) (hqr : isQuiet or = true) : ∀ (L : Plan) (rdL rdR : List (Nat × Nat)) (st : St) (V : View), r ∈ L.map (·.1) → PlanOk ops L → (L.map (·.1)).Nodup → WF st →
  (∀ i ∈ L.map (·.1), trW (masks ops.toList []) r i = false) → Fresh st.mem V →
  xseq P ops K L rdL rdR st V → ∃ s, quietVal P ops or st V s ∧ xseq P ops K (eraseP r L) rdL rdR (st.put or.dst s) V
 | [], _, _, _, _, hr, _, _, _, _, _, _ => by simp at hr
 | (x, cs) :: L, rdL, rdR, st, V, hr, hp, hnd, hwf, hready, hfr, h => by
  obtain ⟨p1, ⟨ox, hox, p2⟩, p3, p4⟩ := hp
  have hnd' : x ∉ L.map (·.1) ∧ (L.map (·.1)).Nodup := by simpa using hnd
  unfold xseq at h
  simp only [hox] at h
  cases hc : chkList P ops st cs with
  | false => rw [hc] at h; exact h.no.elim
  | true =>
   rw [hc] at h
   simp only at h
   by_cases hx : x = r
   ·subst hx
    rw [hox, Option.some.injEq] at hor
    subst hor
    rw [eraseP_cons_same, erase_keep hnd'.1 p4]
    obtain ⟨s, hs, hk⟩ := (act_quiet hqr).1 h
    rw [hqr] at hk
    exact ⟨s, hs, xseq_mono L _ _ _ _ _ _ (good_wf hwf (wf_put hwf hs)) (fun y hy => List.mem_append.2 (.inr hy)) (fun y hy => List.mem_append.2 (.inr hy)) hk⟩
   ·have hrL : r ∈ L.map (·.1) := by
     rcases List.mem_cons.1 hr with h1 | h1
     ·exact absurd h1.symm hx
     ·exact h1
    rw [eraseP_cons hx]
    obtain ⟨ox', or', e1, e2, hw1, hpair⟩ := (p1 r hrL).get
    rw [hox, Option.some.injEq] at e1; subst e1
    rw [hor, Option.some.injEq] at e2; subst e2
    have hnw : trW (masks ops.toList []) r x = false := hready x (by simp)
    rcases hpair with hpair | ⟨hap, hkind⟩
    ·rw [hnw] at hpair; cases hpair
    have hback : ∀ s, quietVal P ops or st V s → chkList P ops (st.put or.dst s) (cs.filter (fun y => !(y == r))) = true := fun s hs =>
     chk_back (x := x) hor hrL p4 p3 (fun i hi => hready i (by simpa using hi)) hwf (wf_put hwf hs) hc
    cases hq : isQuiet ox with
    | true =>
     rw [hq] at h
     obtain ⟨sx, hsx, hk⟩ := (act_quiet hq).1 h
     have hwf1 := good_wf hwf (wf_put hwf hsx)
     obtain ⟨s, hs, hk2⟩ := xseq_pullq w hor hqr L _ _ ((Upd.put ox.dst sx).app st) V hrL p4 hnd'.2 hwf1 (fun i hi => hready i (by simp [hi])) (by rw [show ((Upd.put ox.dst sx).app st).mem = st.mem from put_mem]; exact hfr) hk
     have hs : quietVal P ops or st V s := (quietVal_eq (like_put (fun k hk => hap.a k hk))).1 hs
     refine ⟨s, hs, ?_⟩
     unfold xseq
     simp only [hox, hback s hs, hq]
     have hlk2 : Like ops ox st (st.put or.dst s) := like_put (fun k hk => hap.c k hk)
     refine (act_quiet hq).2 ⟨sx, (quietVal_eq hlk2).2 hsx, ?_⟩
     have e1 : loadsOf ox (st.put or.dst s) = loadsOf ox st := by
      unfold loadsOf
      cases hop : ox.op <;> simp only
      case load ty a =>
       cases a with
       | tmp k => simp only [opd, hlk2.env k (mem_looks (by rw [hop]; simp [Op.operands]))]
       | const v => cases v <;> rfl
       | global g => rfl
       | func f => rfl
     have e2 : ∀ l : List Nat, (∀ t ∈ l, t ∈ looks ops ox) → rowsOf (st.put or.dst s) l = rowsOf st l := fun l => by
      induction l with
      | nil => intro _; rfl
      | cons a l ihl =>
       intro hl
       unfold rowsOf
       rw [hlk2.env a (hl a (by simp)), ihl (fun t ht => hl t (by simp [ht]))]
     rw [e1, e2 _ (fun _ ht => ht)]
     have e3 : (Upd.put ox.dst sx).app (st.put or.dst s) = ((Upd.put ox.dst sx).app st).put or.dst s := (put_put (fun k hk => hap.b k hk)).symm
     rw [e3]
     exact hk2
    | false =>
     rw [hq] at h
     rcases hkind with hkind | ⟨hlate, _, _⟩ | ⟨hlx, hgx, _⟩
     ·rw [hq] at hkind; cases hkind
     ·rw [late_notQuiet hlate] at hqr; cases hqr
     rw [act_noguard hgx] at h
     have hlkx : ∀ s, Like ops ox st (st.put or.dst s) := fun s => like_put (fun k hk => hap.c k hk)
     obtain ⟨B, hB⟩ := hfr.get
     rcases late_cases (P := P) hlx st with ⟨t, cells, he⟩ | ⟨te, len, cells, he⟩ | he
     ·-- a box
      rw [he] at h
      simp only [dQ] at h
      cases hd : ox.dst with
      | none => rw [hd] at h; exact h.no.elim
      | some d =>
       rw [hd] at h
       simp only at h
       cases hm : st.mem d with
       | some y => rw [hm] at h; exact h.no.elim
       | none =>
        rw [hm] at h
        have hgood : ∀ blk, Good ox [] [] st.mem V (.box d (.box blk t cells)) V := fun blk => ⟨View.le_refl _, hd, hm, _, _, _, rfl⟩
        have hlike : ∀ blk, Like ops or st ((Upd.box d (.box blk t cells)).app st) := fun blk =>
         like_app (r := ox) (V := V) (V1 := V) (rdL := loadsOf or st) (rdR := rowsOf st (looks ops or)) hwf hap.symm (fun _ hi => hi) (fun _ hi => hi) ⟨View.le_refl _, hd, hm, _, _, _, rfl⟩
        have each : ∀ blk, (∀ o, V blk o = none) → ∃ s, quietVal P ops or st V s ∧ xseq P ops K (eraseP r L) rdL rdR (((Upd.box d (.box blk t cells)).app st).put or.dst s) V := fun blk hblk => by
         obtain ⟨s, hs, hk2⟩ := xseq_pullq w hor hqr L _ _ ((Upd.box d (.box blk t cells)).app st) V hrL p4 hnd'.2 (good_wf hwf (hgood blk)) (fun i hi => hready i (by simp [hi])) (hfr.box d blk t cells) (h blk hblk)
         exact ⟨s, (quietVal_eq (hlike blk)).1 hs, hk2⟩
        obtain ⟨s0, hs0, _⟩ := each B (hB B (Nat.le_refl _)).1
        refine ⟨s0, hs0, ?_⟩
        unfold xseq
        simp only [hox, hback s0 hs0, hq]
        rw [act_noguard hgx, (hlkx s0).effOf, he]
        simp only [dQ, hd]
        rw [show (st.put or.dst s0).mem = st.mem from put_mem, hm]
        intro blk hblk
        obtain ⟨s, hs, hk2⟩ := each blk hblk
        have := quietVal_det w hs hs0
        subst this
        have e3 : (Upd.box d (.box blk t cells)).app (st.put or.dst s) = ((Upd.box d (.box blk t cells)).app st).put or.dst s := by
         cases hr2 : or.dst with
         | none => rfl
         | some k => simp only [Upd.app, St.put]; rw [upd_comm _ _ _ (fun e => hap.b d hd (by rw [hr2, e]))]
        rw [e3]; exact hk2
     ·-- a literal
      rw [he] at h
      have h : ∀ b : Nat, LitOk V st.mem b cells → xseq P ops K L rdL rdR ((Upd.put ox.dst (.v (.slice (some ⟨b, 0, none⟩) len len))).app st) (V.addU b cells) := h
      have hlike : ∀ b : Nat, Like ops or st (st.put ox.dst (.v (.slice (some ⟨b, 0, none⟩) len len))) := fun b => like_put (fun k hk => hap.a k hk)
      have each : ∀ b : Nat, LitOk V st.mem b cells → ∃ s, quietVal P ops or st (V.addU b cells) s ∧ xseq P ops K (eraseP r L) rdL rdR ((st.put ox.dst (.v (.slice (some ⟨b, 0, none⟩) len len))).put or.dst s) (V.addU b cells) := fun b hb => by
       obtain ⟨s, hs, hk2⟩ := xseq_pullq w hor hqr L _ _ _ (V.addU b cells) hrL p4 hnd'.2 (good_wf hwf (show Good ox [] [] st.mem V (.put ox.dst (.v (.slice (some ⟨b, 0, none⟩) len len))) V from ⟨View.le_refl _, rfl, _, rfl⟩)) (fun i hi => hready i (by simp [hi]))
        (by rw [show ((Upd.put ox.dst (.v (.slice (some ⟨b, 0, none⟩) len len))).app st).mem = st.mem from put_mem]; exact hfr.addU b cells) (h b hb)
       exact ⟨s, (quietVal_eq (hlike b)).1 hs, hk2⟩
      have hb0 : LitOk V st.mem (max B (readBlk (effOf P or st) + 1)) cells := ⟨fun i v hi => by
        rw [Nat.zero_add]
        unfold View.addU
        rw [(hB (max B (readBlk (effOf P or st) + 1)) (by omega)).1 i]
        simp [hi], fun _ i r hi => (hB (max B (readBlk (effOf P or st) + 1)) (by omega)).2 i r hi⟩
      obtain ⟨s0, hs0, _⟩ := each _ hb0
      have hs0 : quietVal P ops or st V s0 := quietVal_down (by omega) hs0
      refine ⟨s0, hs0, ?_⟩
      unfold xseq
      simp only [hox, hback s0 hs0, hq]
      rw [act_noguard hgx, (hlkx s0).effOf, he]
      show ∀ b : Nat, LitOk V (st.put or.dst s0).mem b cells → xseq P ops K (eraseP r L) rdL rdR ((Upd.put ox.dst (.v (.slice (some ⟨b, 0, none⟩) len len))).app (st.put or.dst s0)) (V.addU b cells)
      rw [show (st.put or.dst s0).mem = st.mem from put_mem]
      intro b hb
      obtain ⟨s, hs, hk2⟩ := each b hb
      have hs0' : quietVal P ops or st (V.addU b cells) s0 := quietVal_like (like_put (d := none) (s := s0) (fun k hk => by cases hk)) (View.addU_le V b cells) hs0
      have := quietVal_det w hs hs0'
      subst this
      have e3 : (Upd.put ox.dst (.v (.slice (some ⟨b, 0, none⟩) len len))).app (st.put or.dst s) = (st.put ox.dst (.v (.slice (some ⟨b, 0, none⟩) len len))).put or.dst s := (put_put (fun k hk => hap.b k hk)).symm
      rw [e3]; exact hk2
     ·rw [he] at h; exact h.no.elim
end
end Go.X
end

section
namespace Go.X
open Go.RowKit
section
variable {P : Program} {ops : Array Oper} {w0 : World} {M : Nat → Prop} {V0 : View} {n : Nat} {st : St} {V : View} {a : Act} {w : World}
theorem addU_add (h : Sub V w) (cells : List Value) : V.addU w.heap.size cells = V.add w.heap.size cells := by
 funext k o
 unfold View.addU View.add
 by_cases hk : k = w.heap.size
 ·subst hk; rw [newBlk_none h o]
 ·simp only [hk, if_false]; cases V k o <;> rfl
theorem dQ_sound {o : Oper} {rdL rdR : List Nat} {K : Upd → View → Prop} {next : Act → World → Prop} {Q : Exit → Act → World → Prop} (h : Inv w0 M V0 n st V a w) (hx : dQ P o (effOf P o st) rdL rdR st.mem V K)
  (hd : ∀ d, o.dst = some d → d < n) (hK : ∀ u V' a' w', Inv w0 M V0 n (u.app st) V' a' w' → K u V' → next a' w') : o.wp P a w next Q := by
 have hs := effOf_sound (P := P) h o
 have hput : ∀ s v, toVal st.mem s = some v → Inv w0 M V0 n ((Upd.put o.dst s).app st) V (a.put o.dst v) w := fun s v hv => h.put hd hv
 unfold Oper.wp
 generalize effOf P o st = e at hx hs
 cases e with
 | val s =>
  obtain ⟨v, hv, hr⟩ := hs
  rw [hr]
  exact hK _ _ _ _ (hput s v hv) hx
 | pick c s t =>
  obtain ⟨v1, v2, h1, h2, hr⟩ := hs
  rw [hr]
  cases c with
  | true => exact hK _ _ _ _ (hput _ _ h1) (hx.yes rfl)
  | false => exact hK _ _ _ _ (hput _ _ h2) (hx.no rfl)
 | ldv t b off k =>
  obtain ⟨l, hl, hV, hv⟩ := hx.get
  split at hv
  ·rename_i v hav
   rw [hs l v hl (.inl hV.none) hav]
   exact hK _ _ _ _ (hput _ _ rfl) hv
  ·exact hv.no.elim
 | idx base len i size =>
  obtain ⟨b, off, hb, h0, hl, hk⟩ := hx.get
  rw [hs b off hb h0 hl]
  exact hK _ _ _ _ (hput _ _ rfl) hk
 | sem s =>
  obtain ⟨v, hv, hk⟩ := hx.get
  rw [hs v hv]
  exact hK _ _ _ _ (hput _ _ rfl) hk
 | box t cells =>
  simp only [EffSem] at hs
  rw [hs]
  cases hdd : o.dst with
  | none => simp only [dQ, hdd] at hx; exact hx.no.elim
  | some d =>
   obtain ⟨hm, hx⟩ := dQ_box_elim hdd hx
   simp only [Oper.upon, hdd]
   have hi := h.newBox (hd d hdd) t cells
   have e : st.newBox d (.box w.heap.size t cells) = (Upd.box d (.box w.heap.size t cells)).app st := by unfold St.newBox; rw [hm]; rfl
   rw [e] at hi
   exact hK _ _ _ _ hi (hx _ (newBlk_none h.mp.sub))
 | lit e len cells =>
  simp only [EffSem] at hs
  rw [hs]
  have hi := h.newRow hd e cells len
  have hl : LitOk V st.mem w.heap.size cells := ⟨by rw [addU_add h.mp.sub]; exact View.add_has, fun _ i r hr hb => absurd (blk_lt (h.mp.ok i r hr) hb) (Nat.lt_irrefl _)⟩
  have := hx _ hl
  rw [addU_add h.mp.sub] at this
  exact hK (.put o.dst (.v (.slice (some ⟨w.heap.size, 0, none⟩) len len))) _ _ _ hi this
 | sto pl id off cells =>
  obtain rfl : pl = false := by
   cases pl
   ·rfl
   ·exact hx.no.elim
  simp only [dQ] at hx
  split at hx
  ·rename_i b t old hm
   split at hx
   ·rename_i hle _
    rw [hs b t old hm (Nat.le_of_ble_eq_true hle)]
    exact hK (.mem _ o.dst (.v undef)) _ _ _ ((h.store hm).put hd rfl) hx
   ·exact hx.no.elim
  ·exact hx.no.elim
 | call f args =>
  simp only [EffSem] at hs
  rw [hs]
  refine (hx.run w h.mp).mono fun e w' ⟨v, s, V', mem', he, hv, hKs, hsame, hp, hk, hg, hn⟩ => ?_
  subst he
  exact hK (.mem mem' o.dst s) _ _ _ ((h.called hsame hp hk hg hn).put hd hv) hKs.go
 | app s e size bytes x =>
  obtain ⟨t, i, z, vs, hvs, ht, hi, hz, rfl, rfl, hzs, hsz, hr⟩ := hs
  simp only [dQ] at hx
  split at hx
  ·rename_i d hdd
   have hdn := hd d hdd
   rw [hr]
   split at hx
   ·rename_i id
    split at hx
    ·split at hx
     ·rename_i v ty sz k hm
      split at hx
      ·rename_i hty hszz
       have hty := Nat.eq_of_beq_eq_true hty
       have hszz := Nat.eq_of_beq_eq_true hszz
       subst hty; subst hszz
       obtain ⟨xs, news, m, hxs, hxl, hxx, hnews, hnl, h1, h63, hby, hKn⟩ := hx.get
       simp only [toVal, hm, Option.some.injEq] at hvs
       subst hvs
       have hok := h.mp.ok id _ hm
       obtain ⟨v', w', hrun, hA⟩ := run_appended (P := P) (ty := o.type) ht hi hz hzs hsz hok h.mp.sub hxs hxl hxx hnews hnl h1 h63 hby
       have hf := h.forget id
       obtain ⟨V', hle, hc, hsl, hinv, hok', hfr, hf1, hf2⟩ := hf.appended hok (fun g hg => ⟨fun i' r' hr' hb => by
        have hr' : del st.mem id i' = some r' := hr'
        have hne : i' ≠ id := fun e => by subst e; rw [del_same] at hr'; cases hr'
        rw [del_ne _ hne] at hr'
        exact h.mp.apart id i' _ r' g (Ne.symm hne) hm hr' hg hb, h.new g ⟨id, _, hm, hg⟩⟩) hxs hxl hnl hA
       rw [hrun]
       simp only [Result.andThen_ok, Oper.upon, hdd]
       have hadd := hinv.addRow hdn hok' (fun g hg => ⟨fun i' r' _ hr' => (hfr g hg).1 i' r' hr', (hfr g hg).2⟩)
       exact hK (.row (some id) d (.row v' ty i.size (k + m))) _ _ _ hadd (hKn v' V' hle hc hsl ⟨hf1, hf2, fun i' r' hr' hne g hg => (hfr g hg).1 i' r' (by
        show del st.mem id i' = some r'
        rw [del_ne _ (fun e => hne (by rw [e]))]; exact hr'), row_off hok'⟩)
      ·exact hx.no.elim
     ·exact hx.no.elim
    ·exact hx.no.elim
   ·rename_i base
    split at hx
    ·obtain ⟨xs, news, m, hxs, hxl, hxx, hnews, hnl, h1, h63, hby, hKn⟩ := hx.get
     simp only [toVal, Option.some.injEq] at hvs
     subst hvs
     have hok : (Res.row (.slice base 0 0) e i.size 0).ok w V := .inl ⟨base, rfl, rfl⟩
     obtain ⟨v', w', hrun, hA⟩ := run_appended (P := P) (ty := o.type) ht hi hz hzs hsz hok h.mp.sub hxs hxl hxx hnews hnl h1 h63 hby
     obtain ⟨V', hle, hc, hsl, hinv, hok', hfr, hf1, hf2⟩ := h.appended hok (fun g hg => by cases base <;> simp [rowBlk] at hg) hxs hxl hnl hA
     rw [hrun]
     simp only [Result.andThen_ok, Oper.upon, hdd]
     exact hK (.row none d (.row v' e i.size (0 + m))) _ _ _ (hinv.addRow hdn hok' (fun g hg => ⟨fun i' r' _ hr' => (hfr g hg).1 i' r' hr', (hfr g hg).2⟩)) (hKn v' V' hle hc hsl ⟨hf1, hf2, fun i' r' hr' _ g hg => (hfr g hg).1 i' r' hr', row_off hok'⟩)
    ·exact hx.no.elim
   ·rename_i v hv0
    obtain ⟨id, k, hx⟩ := hx.get
    cases hm : st.mem id with
    | some r =>
     rw [hm] at hx
     obtain ⟨rfl, _, hx⟩ := hx
     obtain ⟨xs, news, m, hxs, hxl, hxx, hnews, hnl, h1, h63, hby, hKn⟩ := hx.get
     simp only [toVal, Option.some.injEq] at hvs
     subst hvs
     have hok := h.mp.ok id _ hm
     obtain ⟨v', w', hrun, hA⟩ := run_appended (P := P) (ty := o.type) ht hi hz hzs hsz hok h.mp.sub hxs hxl hxx hnews hnl h1 h63 hby
     have hf := h.forget id
     obtain ⟨V', hle, hc, hsl, hinv, hok', hfr, hf1, hf2⟩ := hf.appended hok (fun g hg => ⟨fun i' r' hr' hb => by
      have hr' : del st.mem id i' = some r' := hr'
      have hne : i' ≠ id := fun e => by subst e; rw [del_same] at hr'; cases hr'
      rw [del_ne _ hne] at hr'
      exact h.mp.apart id i' _ r' g (Ne.symm hne) hm hr' hg hb, h.new g ⟨id, _, hm, hg⟩⟩) hxs hxl hnl hA
     rw [hrun]
     simp only [Result.andThen_ok, Oper.upon, hdd]
     have hadd := hinv.addRow hdn hok' (fun g hg => ⟨fun i' r' _ hr' => (hfr g hg).1 i' r' hr', (hfr g hg).2⟩)
     exact hK (.row (some id) d (.row v' e i.size (k + m))) _ _ _ hadd (hKn v' V' hle hc hsl ⟨hf1, hf2, fun i' r' hr' hne g hg => (hfr g hg).1 i' r' (by
      show del st.mem id i' = some r'
      rw [del_ne _ (fun e => hne (by rw [e]))]; exact hr'), row_off hok'⟩)
    | none =>
     rw [hm] at hx
     rcases hx with ⟨⟨b, off, m0, rfl, hsh⟩, _, hx⟩ | ⟨⟨b, off, cap, rfl, hsh, hle, hn⟩, hx0⟩
     rotate_left
     ·simp only [toVal, Option.some.injEq] at hvs
      subst hvs
      rw [run_append_zero (P := P) (ty := o.type) ht hi hle hsh]
      simp only [Result.andThen_ok, Oper.upon, hdd]
      exact hK (.put (some d) (.v (.slice (some ⟨b, off, none⟩) k cap))) _ _ _ (h.put (dst := some d) (fun d' hd' => by cases hd'; exact hdn) rfl) hx0
     obtain ⟨xs, news, m, hxs, hxl, hxx, hnews, hnl, h1, h63, hby, hKn⟩ := hx.get
     have hmm := hxx.eq hsh
     subst hmm
     simp only [toVal, Option.some.injEq] at hvs
     subst hvs
     obtain ⟨cap, rest, hrun, hroom, hc0, hcm, hcs⟩ := run_append_full (P := P) (ty := o.type) ht hi hz hzs hsz h.mp.sub hxs hxl hxx (Nat.succ_pos _) hnews hnl h1 h63 hby
     obtain ⟨V', hle, hc, hsl, hinv, hok', hfr, hf1, hf2⟩ := h.grown (e := e) hxl hnl hroom hc0 hcm hcs
     rw [hrun]
     simp only [Result.andThen_ok, Oper.upon, hdd]
     exact hK (.row none d (.row _ e i.size (k + (m0 + 1)))) _ _ _ (hinv.addRow hdn hok' (fun g hg => ⟨fun i' r' _ hr' => (hfr g hg).1 i' r' hr', (hfr g hg).2⟩)) (hKn _ V' hle hc hsl ⟨hf1, hf2, fun i' r' hr' _ g hg => (hfr g hg).1 i' r' hr', row_off hok'⟩)
   ·exact hx.no.elim
  ·exact hx.no.elim
 | bad => exact hx.no.elim
theorem getD_bool' {l : Array Value} {d : Nat} {b : Bool} (h : l.getD d undef = .bool b) : l[d]? = some (.bool b) := by
 rw [Array.getD_eq_getD_getElem?] at h
 cases hl : l[d]? with
 | none => rw [hl] at h; cases h
 | some v => rw [hl] at h; simp only [Option.getD_some] at h; rw [h]
theorem act_sound {i : Nat} {o : Oper} (ho : ops[i]? = some o) {rdL rdR : List Nat} {K : Upd → View → Prop} {next : Act → World → Prop} {Q : Exit → Act → World → Prop} (h : Inv w0 M V0 n st V a w) (hx : act P ops o rdL rdR st V K)
  (hd : ∀ d, o.dst = some d → d < n) (hK : ∀ u V' a' w', Inv w0 M V0 n (u.app st) V' a' w' → K u V' → next a' w') : wpOp P ops Q i next a w := by
 unfold wpOp
 rw [ho]
 have hrun : dQ P o (effOf P o st) rdL rdR st.mem V K → o.wp P a w next Q := fun hx => dQ_sound h hx hd hK
 have hskip : K (.put o.dst (.v undef)) V → next (a.put o.dst undef) w := fun hx => hK (.put o.dst (.v undef)) _ _ _ (h.put hd rfl) hx
 unfold act guardOf at hx
 cases hg : o.guard with
 | none =>
  rw [hg] at hx
  simp only
  rw [if_pos (by simp [Region.wanted, hg])]
  exact .inl (hrun hx)
 | some jw =>
  obtain ⟨j, want⟩ := jw
  rw [hg] at hx
  simp only at hx ⊢
  cases hj : dstOf ops j with
  | none => rw [hj] at hx; exact hx.no.elim
  | some d =>
   rw [hj] at hx
   simp only at hx
   have hw : ∀ b, a.tmps.getD d undef = .bool b → Region.wanted o (yielded ops a.tmps) = (b == want) := fun b hb => by
    have hy : yielded ops a.tmps j = some b := by
     unfold dstOf at hj
     split at hj
     ·rename_i o2 ho2
      simp [yielded, ho2, hj, getD_bool' hb]
     ·cases hj
    simp only [Region.wanted, hg, hy]
    cases b <;> cases want <;> rfl
   cases he : st.env d with
   | none => rw [he] at hx; exact hx.no.elim
   | some s =>
    rw [he] at hx
    have hv := h.env d s he
    cases s with
    | kb b =>
     have hb : a.tmps.getD d undef = .bool b := (Option.some.inj hv).symm
     rw [hw b hb]
     cases b <;> cases want <;> simp only at hx
     ·rw [if_pos (by rfl)]; exact .inl (hrun hx)
     ·rw [if_neg (by decide)]; exact hskip hx
     ·rw [if_neg (by decide)]; exact hskip hx
     ·rw [if_pos (by rfl)]; exact .inl (hrun hx)
    | v x =>
     cases x with
     | bool b =>
      have hb : a.tmps.getD d undef = .bool b := (Option.some.inj hv).symm
      rw [hw b hb]
      cases want <;> simp only at hx <;> cases b
      ·rw [if_pos (by rfl)]; exact .inl (hrun (hx.no rfl))
      ·rw [if_neg (by decide)]; exact hskip (hx.yes rfl)
      ·rw [if_neg (by decide)]; exact hskip (hx.no rfl)
      ·rw [if_pos (by rfl)]; exact .inl (hrun (hx.yes rfl))
     | tuple l =>
      have hv : a.tmps.getD d undef = .tuple l := (Option.some.inj hv).symm
      have hy : yielded ops a.tmps j = none := by
       unfold dstOf at hj
       split at hj
       ·rename_i o2 ho2
        unfold yielded
        simp only [ho2, Option.bind_some, hj]
        rw [Array.getD_eq_getD_getElem?] at hv
        cases hl : a.tmps[d]? with
        | none => rfl
        | some v => rw [hl, Option.getD_some] at hv; subst hv; rfl
       ·cases hj
      rw [if_neg (by simp [Region.wanted, hg, hy])]
      exact hskip hx
     | _ => exact hx.no.elim
    | own i o => exact hx.no.elim
    | row i => exact hx.no.elim
theorem least_mem : ∀ {l : List Nat}, l ≠ [] → ∃ x ∈ l, ∀ z ∈ l, x ≤ z
 | [], h => absurd rfl h
 | [x], _ => ⟨x, by simp, fun z hz => by rw [List.mem_singleton.1 hz]; exact Nat.le_refl _⟩
 | x :: y :: l, _ => by
  obtain ⟨m, hm, hle⟩ := least_mem (l := y :: l) (by simp)
  by_cases h : x ≤ m
  ·refine ⟨x, by simp, fun z hz => ?_⟩
   rcases List.mem_cons.1 hz with rfl | hz
   ·exact Nat.le_refl _
   ·exact Nat.le_trans h (hle z hz)
  ·refine ⟨m, List.mem_cons_of_mem _ hm, fun z hz => ?_⟩
   rcases List.mem_cons.1 hz with rfl | hz
   ·omega
   ·exact hle z hz
theorem xseq_any {K : St → View → Prop} {Q : Exit → Act → World → Prop} (hK : ∀ st V a w, Inv w0 M V0 n st V a w → K st V → Q .normal a w) (hdst : ∀ o ∈ ops.toList, ∀ d, o.dst = some d → d < n)
  (hin : ∀ (i : Nat) (o : Oper) (z : Nat), ops[i]? = some o → waits o z = true → z < i) :
  ∀ (k : Nat) (L : Plan) (listed : Array Bool) (st : St) (V : View) (a : Act) (w : World), L.length = k → listed.size = ops.size → PlanOk ops L → (L.map (·.1)).Nodup →
   (∀ i, i < ops.size → (listed.getD i true = false ↔ i ∈ L.map (·.1))) → (∀ i ∈ L.map (·.1), i < ops.size) →
   (∀ i o z, i < ops.size → listed.getD i false = true → ops[i]? = some o → waits o z = true → listed.getD z false = true) →
   Inv w0 M V0 n st V a w → xseq P ops K L [] [] st V → wpAny P .any ops Q k listed a w
 | k, L, listed, st, V, a, w, hlen, hsz, hp, hnd, hls, hlt, hcl, h, hx => by
  have hget : ∀ i, i < ops.size → listed.getD i true = listed.getD i false := fun i hi => by
   have : i < listed.size := by omega
   simp [this]
  have hready : ∀ i ∈ Region.ready .any ops listed, i ∈ L.map (·.1) ∧ ∃ o, ops[i]? = some o ∧ ∀ z, waits o z = true → listed.getD z false = true := fun i hi => by
   obtain ⟨h1, o, ho, hall⟩ := mem_ready.1 hi
   have hi' : i < ops.size := (Array.getElem?_eq_some_iff.1 ho).1
   refine ⟨(hls i hi').1 h1, o, ho, fun z hz => ?_⟩
   obtain ⟨e, he, hb, hon⟩ := waitsL_iff.1 hz
   rw [← hon]
   exact hall e (by simpa using he) (by rw [← bindsB_eq]; exact hb)
  cases L with
  | nil =>
   simp only [List.length_nil] at hlen
   subst hlen
   have h0 : Region.ready .any ops listed = [] := by
    cases hr : Region.ready .any ops listed with
    | nil => rfl
    | cons i l => have := (hready i (by rw [hr]; simp)).1; simp at this
   exact ⟨h0, hK st V a w h hx⟩
  | cons x L =>
   obtain ⟨x, cs⟩ := x
   cases k with
   | zero => simp at hlen
   | succ k =>
    obtain ⟨x0, hx0, hmin⟩ := least_mem (l := ((x, cs) :: L).map (·.1)) (by simp)
    have hfirst : x0 ∈ Region.ready .any ops listed := by
     have hxlt := hlt x0 hx0
     refine mem_ready.2 ⟨(hls x0 hxlt).2 hx0, ops[x0], Array.getElem?_eq_getElem hxlt, fun e he hb => ?_⟩
     have hw : waits ops[x0] e.on = true := waitsL_iff.2 ⟨e, by simpa using he, by rw [bindsB_eq]; exact hb, rfl⟩
     have hz := hin x0 _ e.on (Array.getElem?_eq_getElem hxlt) hw
     have hz' : e.on < ops.size := Nat.lt_trans hz hxlt
     rw [← hget _ hz']
     cases hl : listed.getD e.on true with
     | true => rfl
     | false =>
      have := hmin _ ((hls e.on hz').1 hl)
      omega
    refine ⟨fun h0 => (by rw [h0] at hfirst; cases hfirst), fun i hi => ?_⟩
    obtain ⟨hiL, o, ho, hwz⟩ := hready i hi
    have hi' : i < ops.size := (Array.getElem?_eq_some_iff.1 ho).1
    have hclosed : ∀ z ∈ ((x, cs) :: L).map (·.1), trW (masks ops.toList []) i z = false := fun z hz => by
     cases ht : trW (masks ops.toList []) i z with
     | false => rfl
     | true =>
      have := trW_closed (ops := ops) (C := fun z => listed.getD z false = true) (fun a o z ha hoa hwa => hcl a o z (Array.getElem?_eq_some_iff.1 hoa).1 ha hoa hwa) i z
       (fun o2 z2 ho2 hw2 => by rw [ho, Option.some.injEq] at ho2; subst ho2; exact hwz z2 hw2) ht
      have hzlt := hlt z hz
      have h1 := (hls z hzlt).2 hz
      rw [hget z hzlt, this] at h1; cases h1
    have hpull : act P ops o (relOf o []) (relOf o []) st V (fun u V1 => xseq P ops K (eraseP i ((x, cs) :: L)) [] [] (u.app st) V1) := by
     cases hqo : isQuiet o with
     | false => exact xseq_pull ho hqo ((x, cs) :: L) [] [] st V hiL hp hnd h.wf hclosed hx
     | true =>
      obtain ⟨s, hs, hk⟩ := xseq_pullq w ho hqo ((x, cs) :: L) [] [] st V hiL hp hnd h.wf hclosed (Fresh.of_inv h) hx
      exact (act_quiet hqo).2 ⟨s, hs, hk⟩
    refine act_sound ho h hpull (hdst o (by
     have := List.mem_of_getElem? (l := ops.toList) (i := i) (a := o) (by simpa using ho)
     exact this)) (fun u V' a' w' h' hk => ?_)
    have hkeys : ∀ y, y ∈ (eraseP i ((x, cs) :: L)).map (·.1) ↔ y ∈ ((x, cs) :: L).map (·.1) ∧ y ≠ i := fun y => eraseP_keys
    refine xseq_any hK hdst hin k (eraseP i ((x, cs) :: L)) (listed.setIfInBounds i true) _ V' a' w' ?_ (by simp [hsz]) (planOk_erase hp) ?_ ?_ (fun y hy => hlt y ((hkeys y).1 hy).1) ?_ h' hk
    ·-- one less
     have : ∀ (L : Plan), (L.map (·.1)).Nodup → i ∈ L.map (·.1) → (eraseP i L).length + 1 = L.length := fun L => by
      induction L with
      | nil => intro _ h; simp at h
      | cons b L ihL =>
       intro hnd2 hm
       obtain ⟨b, bc⟩ := b
       simp only [List.map_cons, List.nodup_cons] at hnd2
       by_cases hb : b = i
       ·subst hb
        rw [eraseP_cons_same]
        have : (eraseP b L).length = L.length := by
         unfold eraseP
         rw [List.length_map, List.filter_eq_self.2 (fun y hy => by
          simp only [Bool.not_eq_true', beq_eq_false_iff_ne, ne_eq]
          exact fun e => hnd2.1 (List.mem_map.2 ⟨y, hy, e⟩))]
        rw [this]; rfl
       ·rw [eraseP_cons hb]
        have hm' : i ∈ L.map (·.1) := by
         rcases List.mem_cons.1 hm with h1 | h1
         ·exact absurd h1.symm hb
         ·exact h1
        simp only [List.length_cons]
        rw [ihL hnd2.2 hm']
     have := this _ hnd hiL
     omega
    ·unfold eraseP
     rw [List.map_map]
     exact hnd.sublist ((List.filter_sublist (l := (x, cs) :: L)).map _)
    ·intro y hy
     rw [hkeys]
     by_cases hyi : y = i
     ·subst hyi
      simp [hsz, hi']
     ·rw [getD_set_ne true (Ne.symm hyi), hls y hy]
      exact ⟨fun h => ⟨h, hyi⟩, fun h => h.1⟩
    ·intro y oy z hy hly hoy hwy
     by_cases hyi : y = i
     ·subst hyi
      rw [ho, Option.some.injEq] at hoy; subst hoy
      exact getD_set_true (hwz z hwy)
     ·rw [getD_set_ne false (Ne.symm hyi)] at hly
      exact getD_set_true (hcl y oy z hy hly hoy hwy)
end
end Go.X
end
