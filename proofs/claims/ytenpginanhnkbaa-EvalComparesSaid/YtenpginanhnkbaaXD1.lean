/- One part of a proof: an evaluator of the model, shown right, and contracts that it yields. No condition beyond those that each theorem names. -/
import Derived.Test.YtenpginanhnkbaaX9
namespace Go.X
open Go.RowKit

/-! # Regions that draw their order -/

def memB (i : Nat) : List Nat → Bool
  | [] => false
  | j :: l => match Nat.beq i j with | true => true | false => memB i l
theorem memB_false {i : Nat} : ∀ {l : List Nat}, memB i l = false → i ∉ l
  | [], _ => by simp
  | j :: l, h => by
    unfold memB at h
    split at h
    · cases h
    · rename_i hb
      simp only [List.mem_cons, not_or]
      refine ⟨fun e => ?_, memB_false h⟩
      subst e; rw [Nat.beq_refl] at hb; cases hb
theorem memB_of_not {i : Nat} : ∀ {l : List Nat}, i ∉ l → memB i l = false
  | [], _ => rfl
  | j :: l, h => by
    simp only [List.mem_cons, not_or] at h
    unfold memB
    have : Nat.beq i j = false := by
      cases hb : Nat.beq i j with
      | false => rfl
      | true => exact absurd (Nat.eq_of_beq_eq_true hb) h.1
    rw [this]; exact memB_of_not h.2

/-- the names that must stay as they are; a new name is the operation's own -/
structure Prot (rd : List Nat) (dst : Option Nat) (m' m : Nat → Option Res) (X : Prop) : Prop where
  same : ∀ i ∈ rd, m' i = m i
  fresh : ∀ i, m i = none → dst ≠ some i → m' i = none
  go : X
theorem Prot.refl {rd : List Nat} {dst : Option Nat} {m : Nat → Option Res} {X : Prop} (h : X) : Prot rd dst m m X := ⟨fun _ _ => rfl, fun _ h _ => h, h⟩
theorem Prot.box {rd : List Nat} {dst : Option Nat} {m : Nat → Option Res} {X : Prop} {id : Nat} {r r0 : Res} (hm : m id = some r0) (hd : memB id rd = false) (h : X) : Prot rd dst (upd (del m id) id r) m X :=
  ⟨fun i hi => by
    have hne : i ≠ id := fun e => memB_false hd (e ▸ hi)
    rw [upd_ne _ _ hne, del_ne _ hne], fun i hi _ => by
    have hne : i ≠ id := fun e => by subst e; rw [hm] at hi; cases hi
    rw [upd_ne _ _ hne, del_ne _ hne]; exact hi, h⟩
theorem Prot.new {rd : List Nat} {dst : Option Nat} {m : Nat → Option Res} {X : Prop} {id : Nat} {r : Res} (hid : dst = some id) (hd : memB id rd = false) (h : X) : Prot rd dst (upd m id r) m X :=
  ⟨fun _ hi => upd_ne _ _ (fun e => memB_false hd (e ▸ hi)), fun i hi hne => by rw [upd_ne _ _ (fun e => hne (by rw [hid, e]))]; exact hi, h⟩

inductive Upd where
  | put (d : Option Nat) (s : SV)
  | box (d : Nat) (r : Res)
  | mem (m : Nat → Option Res) (d : Option Nat) (s : SV)
  | row (g : Option Nat) (d : Nat) (r : Res)

def Upd.app (u : Upd) (st : St) : St := match u with
  | .put d s => st.put d s
  | .box d r => ⟨upd st.env d (.own d 0), upd st.mem d r⟩
  | .mem m d s => (⟨st.env, m⟩ : St).put d s
  | .row g d r => st.newRow g d r

/-- the union with a row -/
def View.addU (V : View) (b : Nat) (cells : List Value) : View := fun k o => match V k o with | some v => some v | none => if k = b then cells[o]? else none
theorem View.addU_le (V : View) (b : Nat) (cells : List Value) : V.le (V.addU b cells) := fun k o v hv => by simp [View.addU, hv]

structure LitOk (V : View) (mem : Nat → Option Res) (b : Nat) (cells : List Value) : Prop where
  has : (V.addU b cells).has b 0 cells
  free : cells ≠ [] → ∀ i r, mem i = some r → r.blk ≠ some b

def goneOk (d : Nat) (mem : Nat → Option Res) (g : Option Nat) (rdR : List Nat) : Bool := match g with
  | none => (match mem d with | none => true | some _ => false)
  | some g => (match memB g rdR with | true => false | false => (match Nat.beq g d with | true => true | false => (match mem d with | none => true | some _ => false)))

/-- what an operation does in a region that draws. -/
def dQ (P : Program) (o : Oper) (e : Eff) (rdL rdR : List Nat) (mem : Nat → Option Res) (V : View) (K : Upd → View → Prop) : Prop :=
  match e with
  | .val s => K (.put o.dst s) V
  | .pick c s t => Br c (K (.put o.dst s) V) (K (.put o.dst t) V)
  | .ldv t b off n => LoadN V b off n (fun l => match asVar P t l with | some v => K (.put o.dst (.v v)) V | none => Stuck o)
  | .idx base len i size => IdxN base len i size (fun b off => K (.put o.dst (.v (.pointer (some ⟨b, off, none⟩)))) V)
  | .sem s => SemN P s (fun v => K (.put o.dst (.v v)) V)
  | .box t cells => match o.dst with
    | some d => (match mem d with | none => ∀ blk : Nat, (∀ o, V blk o = none) → K (.box d (.box blk t cells)) V | some _ => Stuck o)
    | none => Stuck o
  | .lit _ len cells => ∀ b : Nat, LitOk V mem b cells → K (.put o.dst (.v (.slice (some ⟨b, 0, none⟩) len len))) (V.addU b cells)
  | .sto id off cells => match mem id with
    | some (.box b t old) => (match Nat.ble (off + cells.length) old.length, memB id rdL with | true, false => K (.mem (upd mem id (.box b t (setAt old off cells))) o.dst (.v undef)) V | _, _ => Stuck o)
    | _ => Stuck o
  | .call f args => CallN P f args V mem (fun s V' mem' => Prot rdL o.dst mem' mem (K (.mem mem' o.dst s) V'))
  | .app s e size bytes x => match o.dst with
    | some d => (match goneOk d mem (goneOf s) rdR with
      | true => (match s with
        | .row id => (match mem id with
          | some (.row v ty sz n) => (match Nat.beq ty e, Nat.beq sz size with
            | true, true => AppN V mem (some id) v n size bytes x (fun v' n' V' => K (.row (some id) d (.row v' e size n')) V')
            | _, _ => Stuck o)
          | _ => Stuck o)
        | .v (.slice base 0 0) => AppN V mem none (.slice base 0 0) 0 size bytes x (fun v' n' V' => K (.row none d (.row v' e size n')) V')
        | _ => Stuck o)
      | false => Stuck o)
    | none => Stuck o
  | .bad => Stuck o

/-- does the guard let it run? -/
def guardOf (ops : Array Oper) (o : Oper) (env : Nat → Option SV) : Option (Option Bool × Bool) := match o.guard with
  | none => some (none, true)
  | some (j, want) => match dstOf ops j with
    | none => none
    | some d => match env d with
      | some (.kb b) => (match b, want with | true, true => some (none, true) | false, false => some (none, true) | _, _ => some (none, false))
      | some (.v (.bool b)) => some (some b, want)
      | some (.v (.tuple _)) => some (none, false)
      | _ => none

/-- an operation of a region that draws -/
def act (P : Program) (ops : Array Oper) (o : Oper) (rdL rdR : List Nat) (st : St) (V : View) (K : Upd → View → Prop) : Prop :=
  match guardOf ops o st.env with
  | some (none, true) => dQ P o (effOf P o st) rdL rdR st.mem V K
  | some (none, false) => K (.put o.dst (.v undef)) V
  | some (some b, true) => Br b (dQ P o (effOf P o st) rdL rdR st.mem V K) (K (.put o.dst (.v undef)) V)
  | some (some b, false) => Br b (K (.put o.dst (.v undef)) V) (dQ P o (effOf P o st) rdL rdR st.mem V K)
  | none => Stuck o

/-! ## kinds -/
def isQuiet (o : Oper) : Bool := match o.op with
  | .move _ | .assign _ | .pick .. | .load .. | .fieldAddr .. | .indexAddr .. | .binOp .. | .unOp .. | .convert .. | .makeInterface .. | .extract .. | .field .. | .index .. | .build .. | .makeFunc .. | .nilCheck _ => true
  | .call c => (match c.callee with | .builtin .len | .builtin .cap | .builtin .min | .builtin .max => true | _ => false)
  | _ => false
def isLate (o : Oper) : Bool := match o.op with
  | .box .. | .alloc _ | .buildSlice .. => true
  | _ => false

def Eff.quiet : Eff → Bool
  | .val _ | .pick .. | .ldv .. | .idx .. | .sem .. | .bad => true
  | _ => false
def Eff.late : Eff → Bool
  | .box .. | .lit .. | .bad => true
  | _ => false

theorem pureVal_quiet (P : Program) (s : Sem Value) : (pureVal P s).quiet = true := by
  unfold pureVal; split <;> rfl

set_option maxHeartbeats 1000000 in
theorem effOf_quiet {P : Program} {o : Oper} {st : St} (h : isQuiet o = true) : (effOf P o st).quiet = true := by
  obtain ⟨dst, op, type, pos, after, guard⟩ := o
  cases op <;> simp only [isQuiet] at h <;> try (exact absurd h (by decide))
  case call c =>
    obtain ⟨callee, args, argTypes⟩ := c
    cases callee <;> simp only at h <;> try (exact absurd h (by decide))
    rename_i b
    cases b <;> simp only at h <;> try (exact absurd h (by decide))
    all_goals
      simp only [effOf]
      split <;> first | exact pureVal_quiet _ _ | rfl
  all_goals
    simp only [effOf]
    repeat' split
    all_goals first | rfl | exact pureVal_quiet _ _

theorem effOf_late {P : Program} {o : Oper} {st : St} (h : isLate o = true) : (effOf P o st).late = true := by
  obtain ⟨dst, op, type, pos, after, guard⟩ := o
  cases op <;> simp only [isLate] at h <;> try (exact absurd h (by decide))
  all_goals
    simp only [effOf]
    repeat' split
    all_goals rfl
end Go.X
