/- One part of a proof: an evaluator of the model, shown right, and contracts that it yields. No condition beyond those that each theorem names. -/
import Derived.Tactics
import Derived.Below
import Derived.Orders
import Derived.Still
import Derived.Laws.AppendOwn
import Derived.Laws.CopyRow
/-! # A small symbolic evaluator for Go code, proved sound against the model's wp -/
namespace Go.X

/-! ## pure runs -/
def pureRun (P : Program) {α : Type} : Sem α → Option α
  | .pure a => some a
  | .program k => pureRun P (k P)
  | .mark _ k => pureRun P k
  | _ => none

theorem run_of_pureRun {α : Type} {P : Program} {s : Sem α} {a : α} (h : pureRun P s = some a) (w : World) : s.run P w = .ok a w := by
  induction s with
  | pure b => simp [pureRun] at h; subst h; rfl
  | program k ih => simp only [pureRun] at h; simp only [Sem.run]; exact ih _ h
  | mark m k ih => simp only [pureRun] at h; simp only [Sem.run]; exact ih h
  | _ => simp [pureRun] at h

/-! ## views, symbolic values, resources, states -/
abbrev View := Nat → Nat → Option Value
def View.le (V V' : View) : Prop := ∀ b o v, V b o = some v → V' b o = some v
theorem View.le_refl (V : View) : V.le V := fun _ _ _ h => h
theorem View.le_trans {a b c : View} (h : a.le b) (k : b.le c) : a.le c := fun _ _ _ x => k _ _ _ (h _ _ _ x)
/-- the cells from (b, off) on are l -/
def View.has (V : View) (b off : Nat) (l : List Value) : Prop := ∀ i v, l[i]? = some v → V b (off + i) = some v
theorem View.has.mono {V V' : View} {b off : Nat} {l : List Value} (h : V.has b off l) (hV : V.le V') : V'.has b off l := fun i v hi => hV _ _ _ (h i v hi)

inductive SV where
  | v (x : Value)
  | kb (b : Bool)
  | own (id off : Nat)
  | row (id : Nat)

inductive Res where
  | box (blk : Nat) (ty : TypeId) (cells : List Value)
  | row (v : Value) (ty : TypeId) (size n : Nat)

def rowBlk : Value → Option Nat
  | .slice (some a) _ cap => if cap = 0 then none else some a.block
  | _ => none

def Res.blk : Res → Option Nat
  | .box b _ _ => some b
  | .row v _ _ _ => rowBlk v

structure St where
  env : Nat → Option SV
  mem : Nat → Option Res

def upd {α : Type} (f : Nat → Option α) (d : Nat) (x : α) : Nat → Option α := fun n => match Nat.beq n d with | true => some x | false => f n
def del {α : Type} (f : Nat → Option α) (d : Nat) : Nat → Option α := fun n => match Nat.beq n d with | true => none | false => f n

theorem upd_same {α : Type} (f : Nat → Option α) (d : Nat) (x : α) : upd f d x d = some x := by
  simp [upd]
theorem upd_ne {α : Type} (f : Nat → Option α) {d n : Nat} (x : α) (h : n ≠ d) : upd f d x n = f n := by
  have : Nat.beq n d = false := by
    cases hb : Nat.beq n d with
    | false => rfl
    | true => exact absurd (Nat.eq_of_beq_eq_true hb) h
  simp [upd, this]
theorem upd_comm {α : Type} (f : Nat → Option α) {d e : Nat} (x y : α) (h : d ≠ e) : upd (upd f d x) e y = upd (upd f e y) d x := by
  funext n
  by_cases h1 : n = d
  · subst h1; rw [upd_ne _ _ h, upd_same, upd_same]
  · by_cases h2 : n = e
    · subst h2; rw [upd_same, upd_ne _ _ h1, upd_same]
    · rw [upd_ne _ _ h2, upd_ne _ _ h1, upd_ne _ _ h1, upd_ne _ _ h2]

def toVal (mem : Nat → Option Res) : SV → Option Value
  | .v x => some x
  | .kb b => some (.bool b)
  | .own id off => match mem id with | some (.box b _ _) => some (.pointer (some ⟨b, off, none⟩)) | _ => none
  | .row id => match mem id with | some (.row v _ _ _) => some v | _ => none

def St.put (st : St) (dst : Option Nat) (s : SV) : St := match dst with | some d => ⟨upd st.env d s, st.mem⟩ | none => st

def opd (env : Nat → Option SV) : Operand → Option SV
  | .tmp t => env t
  | .const (.bool b) => some (.kb b)
  | .const v => some (.v v)
  | .global g => some (.v (.pointer (some ⟨g, 0, none⟩)))
  | .func f => some (.v (.func (.func f) #[] #[]))

def St.val (st : St) (x : Operand) : Option Value := match opd st.env x with | some s => toVal st.mem s | none => none

def St.vals (st : St) : List Operand → Option (List Value)
  | [] => some []
  | x :: l => match st.val x, st.vals l with | some v, some vs => some (v :: vs) | _, _ => none

def St.parts (st : St) : List (Nat × Operand) → Option (List (Nat × Value))
  | [] => some []
  | (i, x) :: l => match st.val x, st.parts l with | some v, some vs => some ((i, v) :: vs) | _, _ => none

/-! ## nodes: what is left to the prover -/
structure Br (c : Bool) (t e : Prop) : Prop where
  yes : c = true → t
  no : c = false → e
structure LoadN (V : View) (b off n : Nat) (K : List Value → Prop) : Prop where
  get : ∃ l : List Value, l.length = n ∧ V.has b off l ∧ K l
structure IdxN (base : Option Addr) (len : Nat) (i : Int) (size : Nat) (K : Nat → Nat → Prop) : Prop where
  get : ∃ b off, base = some ⟨b, off, none⟩ ∧ 0 ≤ i ∧ i < len ∧ K b (off + i.toNat * size)
/-- a computation that touches no memory: what it comes to is the prover's to say -/
structure SemN (P : Program) (s : Sem Value) (K : Value → Prop) : Prop where
  get : ∃ v, (∀ w, s.run P w = .ok v w) ∧ K v
structure Stuck (o : Oper) : Prop where
  no : False

/-! ## resources in a world -/
def Res.ok (w : World) (V : View) : Res → Prop
  | .box b t cells => w.heap[b]? = some (.cells cells.toArray t (0, 0)) ∧ ∀ o, V b o = none
  | .row v t size n => (∃ base, v = .slice base 0 0 ∧ n = 0) ∨
      ∃ g cap cur, v = .slice (some ⟨g, 0, none⟩) n cap ∧ cap ≠ 0 ∧ w.heap[g]? = some (.cells cur t (0, 0)) ∧ n ≤ cap ∧ cap ≤ maxLen ∧ cur.size = cap * size ∧ ∀ o, n * size ≤ o → V g o = none

def Sub (V : View) (w : World) : Prop := ∀ b o v, V b o = some v → w.cell? ⟨b, o, none⟩ = some v

/-- the streams are as they were, no old block has changed but those of M -/
structure Kept (M : Nat → Prop) (w w' : World) : Prop where
  os : w'.os = w.os
  tape : w'.tape = w.tape
  output : w'.output = w.output
  size : w.heap.size ≤ w'.heap.size
  block : ∀ k, k < w.heap.size → ¬ M k → w'.heap[k]? = w.heap[k]?

theorem Kept.refl (M : Nat → Prop) (w : World) : Kept M w w := ⟨rfl, rfl, rfl, Nat.le_refl _, fun _ _ _ => rfl⟩
theorem Kept.trans {M : Nat → Prop} {a b c : World} (h : Kept M a b) (k : Kept M b c) : Kept M a c :=
  ⟨k.os.trans h.os, k.tape.trans h.tape, k.output.trans h.output, Nat.le_trans h.size k.size, fun i hi hm => (k.block i (Nat.lt_of_lt_of_le hi h.size) hm).trans (h.block i hi hm)⟩

/-- what a call is given: a view, resources -/
structure Pre (V : View) (bs : List Res) (w : World) : Prop where
  sub : Sub V w
  ok : ∀ (i : Nat) (r : Res), bs[i]? = some r → r.ok w V
  apart : ∀ (i j : Nat) (r r' : Res) (b : Nat), i ≠ j → bs[i]? = some r → bs[j]? = some r' → r.blk = some b → r'.blk ≠ some b

def blksOf (bs : List Res) (b : Nat) : Prop := ∃ r ∈ bs, r.blk = some b

/-- a view that grows: only by cells of new blocks, or of blocks handed over -/
def Grows (M : Nat → Prop) (size : Nat) (V V' : View) : Prop := V.le V' ∧ ∀ b o v, V' b o = some v → V b o = some v ∨ size ≤ b ∨ M b

/-- THE CONTRACT of a function: at the view V, handed the resources bs, it returns v, a greater view, resources, of which R holds. -/
def Does (P : Program) (f : FuncId) (args : List Value) (V : View) (bs : List Res) (R : Value → View → List Res → Prop) : Prop :=
  ∀ w, Pre V bs w → Calls P f args.toArray w fun e w' => ∃ v V' bs', e = .returned v ∧ R v V' bs' ∧ Pre V' bs' w' ∧ Kept (blksOf bs) w w' ∧ Grows (blksOf bs) w.heap.size V V' ∧
    ∀ b, blksOf bs' b → blksOf bs b ∨ w.heap.size ≤ b

theorem Does.mono {P : Program} {f : FuncId} {args : List Value} {V : View} {bs : List Res} {R R' : Value → View → List Res → Prop} (h : Does P f args V bs R)
    (hr : ∀ v V' bs', V.le V' → R v V' bs' → R' v V' bs') : Does P f args V bs R' :=
  fun w hw => (h w hw).mono fun _ _ ⟨v, V', bs', he, hR, hp, hk, hg, hb⟩ => ⟨v, V', bs', he, hr v V' bs' hg.1 hR, hp, hk, hg, hb⟩

/-- the caller's memory as a whole is handed over -/
structure MPre (mem : Nat → Option Res) (V : View) (w : World) : Prop where
  sub : Sub V w
  ok : ∀ i r, mem i = some r → r.ok w V
  apart : ∀ i j r r' b, i ≠ j → mem i = some r → mem j = some r' → r.blk = some b → r'.blk ≠ some b
def blksM (mem : Nat → Option Res) (b : Nat) : Prop := ∃ i r, mem i = some r ∧ r.blk = some b

/-- a call, as it is left to the prover -/
structure CallN (P : Program) (f : FuncId) (args : List Value) (V : View) (mem : Nat → Option Res) (K : SV → View → (Nat → Option Res) → Prop) : Prop where
  run : ∀ w, MPre mem V w → Calls P f args.toArray w fun e w' => ∃ v s V' mem', e = .returned v ∧ toVal mem' s = some v ∧ K s V' mem' ∧ (∀ t x, toVal mem t = some x → toVal mem' t = some x) ∧ MPre mem' V' w' ∧ Kept (blksM mem) w w' ∧
    Grows (blksM mem) w.heap.size V V' ∧ (∀ b, blksM mem' b → blksM mem b ∨ w.heap.size ≤ b)

structure Inv (w0 : World) (M : Nat → Prop) (V0 : View) (n : Nat) (st : St) (V : View) (a : Act) (w : World) : Prop where
  defers : a.defers = []
  size : a.tmps.size = n
  env : ∀ k s, st.env k = some s → toVal st.mem s = some (a.tmps.getD k undef)
  mp : MPre st.mem V w
  kept : Kept M w0 w
  grows : Grows M w0.heap.size V0 V
  new : ∀ b, blksM st.mem b → M b ∨ w0.heap.size ≤ b

/-- a state that knows no more than another -/
def Weak (st' st : St) (V : View) : Prop := ∀ w0 M V0 n a w, Inv w0 M V0 n st V a w → Inv w0 M V0 n st' V a w

/-- the cells of a slice -/
def View.cells (V : View) (v : Value) (l : List Value) : Prop := match v with
  | .slice (some ⟨b, off, none⟩) _ _ => V.has b off l
  | .slice none _ _ => l = []
  | _ => False
theorem View.cells.mono {V V' : View} {v : Value} {l : List Value} (h : V.cells v l) (hV : V.le V') : V'.cells v l := by
  unfold View.cells at *
  split at h
  · exact h.mono hV
  · exact h
  · exact h.elim

end Go.X
