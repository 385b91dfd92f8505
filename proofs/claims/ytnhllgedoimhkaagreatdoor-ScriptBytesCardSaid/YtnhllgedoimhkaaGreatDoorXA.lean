/- One part of a proof: an evaluator of the model, shown right, and contracts that it yields. No condition beyond those that each theorem names. -/
import Derived.Tactics
import Derived.Below
import Derived.Orders
import Derived.Still
import Derived.Laws.AppendOwn
import Derived.Laws.CopyRow
import Derived.Laws.BytesString
import Derived.Deep.AppendSrc
import Derived.Lib.AppendStr
set_option linter.unusedSimpArgs false
set_option linter.unusedVariables false
set_option linter.unusedSectionVars false
set_option linter.deprecated false
section
namespace Go.X
def pureRun (P : Program) {α : Type} : Sem α → Option α
 | .pure a => some a
 | .program k => pureRun P (k P)
 | .mark _ k => pureRun P k
 | _ => none
theorem run_of_pureRun {α : Type} {P : Program} {s : Sem α} {a : α} (h : pureRun P s = some a) (w : World) : s.run P w = .ok a w := by
 induction s with
 | pure b => simp [pureRun] at h; subst h; rfl
 | program k ih => simp only [pureRun] at h; simp only [Sem.run]; exact ih _ h
 | mark m k ih => simp only [pureRun] at h; simp only [Sem.run]; exact ih h
 | _ => simp [pureRun] at h
abbrev View := Nat → Nat → Option Value
def View.le (V V' : View) : Prop := ∀ b o v, V b o = some v → V' b o = some v
theorem View.le_refl (V : View) : V.le V := fun _ _ _ h => h
theorem View.le_trans {a b c : View} (h : a.le b) (k : b.le c) : a.le c := fun _ _ _ x => k _ _ _ (h _ _ _ x)
def View.has (V : View) (b off : Nat) (l : List Value) : Prop := ∀ i v, l[i]? = some v → V b (off + i) = some v
theorem View.has.mono {V V' : View} {b off : Nat} {l : List Value} (h : V.has b off l) (hV : V.le V') : V'.has b off l := fun i v hi => hV _ _ _ (h i v hi)
inductive SV where
 | v (x : Value)
 | kb (b : Bool)
 | own (id off : Nat)
 | row (id : Nat)
inductive Res where
 | box (blk : Nat) (ty : TypeId) (cells : List Value)
 | row (v : Value) (ty : TypeId) (size n : Nat)
def rowBlk : Value → Option Nat
 | .slice (some a) _ cap => if cap = 0 then none else some a.block
 | _ => none
def Res.blk : Res → Option Nat
 | .box b _ _ => some b
 | .row v _ _ _ => rowBlk v
structure St where
 env : Nat → Option SV
 mem : Nat → Option Res
def upd {α : Type} (f : Nat → Option α) (d : Nat) (x : α) : Nat → Option α := fun n => match Nat.beq n d with | true => some x | false => f n
def del {α : Type} (f : Nat → Option α) (d : Nat) : Nat → Option α := fun n => match Nat.beq n d with | true => none | false => f n
theorem upd_same {α : Type} (f : Nat → Option α) (d : Nat) (x : α) : upd f d x d = some x := by
 simp [upd]
theorem upd_ne {α : Type} (f : Nat → Option α) {d n : Nat} (x : α) (h : n ≠ d) : upd f d x n = f n := by
 have : Nat.beq n d = false := by
  cases hb : Nat.beq n d with
  | false => rfl
  | true => exact absurd (Nat.eq_of_beq_eq_true hb) h
 simp [upd, this]
theorem upd_comm {α : Type} (f : Nat → Option α) {d e : Nat} (x y : α) (h : d ≠ e) : upd (upd f d x) e y = upd (upd f e y) d x := by
 funext n
 by_cases h1 : n = d
 ·subst h1; rw [upd_ne _ _ h, upd_same, upd_same]
 ·by_cases h2 : n = e
  ·subst h2; rw [upd_same, upd_ne _ _ h1, upd_same]
  ·rw [upd_ne _ _ h2, upd_ne _ _ h1, upd_ne _ _ h1, upd_ne _ _ h2]
def toVal (mem : Nat → Option Res) : SV → Option Value
 | .v x => some x
 | .kb b => some (.bool b)
 | .own id off => match mem id with | some (.box b _ _) => some (.pointer (some ⟨b, off, none⟩)) | _ => none
 | .row id => match mem id with | some (.row v _ _ _) => some v | _ => none
def St.put (st : St) (dst : Option Nat) (s : SV) : St := match dst with | some d => ⟨upd st.env d s, st.mem⟩ | none => st
def opd (env : Nat → Option SV) : Operand → Option SV
 | .tmp t => env t
 | .const (.bool b) => some (.kb b)
 | .const v => some (.v v)
 | .global g => some (.v (.pointer (some ⟨g, 0, none⟩)))
 | .func f => some (.v (.func (.func f) #[] #[]))
def St.val (st : St) (x : Operand) : Option Value := match opd st.env x with | some s => toVal st.mem s | none => none
def St.vals (st : St) : List Operand → Option (List Value)
 | [] => some []
 | x :: l => match st.val x, st.vals l with | some v, some vs => some (v :: vs) | _, _ => none
def St.parts (st : St) : List (Nat × Operand) → Option (List (Nat × Value))
 | [] => some []
 | (i, x) :: l => match st.val x, st.parts l with | some v, some vs => some ((i, v) :: vs) | _, _ => none
structure Br (c : Bool) (t e : Prop) : Prop where
 yes : c = true → t
 no : c = false → e
def setAt : List Value → Nat → List Value → List Value
 | l, _, [] => l
 | [], _, _ => []
 | _ :: r, 0, x :: xs => x :: setAt r 0 xs
 | y :: r, n + 1, x :: xs => y :: setAt r n (x :: xs)
def Lies (V : View) (mem : Nat → Option Res) (b off n : Nat) (l : List Value) : Prop :=
 V.has b off l ∨ ∃ (id : Nat) (t : TypeId) (cells : List Value), mem id = some (.box b t cells) ∧ off + n ≤ cells.length ∧ l = (cells.drop off).take n
theorem Lies.none {V : View} {b off n : Nat} {l : List Value} (h : Lies V (fun _ => Option.none) b off n l) : V.has b off l := by
 rcases h with h | ⟨id, t, cells, hm, _⟩
 ·exact h
 ·cases hm
structure LoadN (V : View) (mem : Nat → Option Res) (b off n : Nat) (K : List Value → Prop) : Prop where
 get : ∃ l : List Value, l.length = n ∧ Lies V mem b off n l ∧ K l
structure StoN (mem : Nat → Option Res) (b off : Nat) (cells : List Value) (K : (Nat → Option Res) → Prop) : Prop where
 get : ∃ (id : Nat) (t : TypeId) (old : List Value), mem id = some (.box b t old) ∧ off + cells.length ≤ old.length ∧ K (upd mem id (.box b t (setAt old off cells)))
structure IdxN (base : Option Addr) (len : Nat) (i : Int) (size : Nat) (K : Nat → Nat → Prop) : Prop where
 get : ∃ b off, base = some ⟨b, off, none⟩ ∧ 0 ≤ i ∧ i < len ∧ K b (off + i.toNat * size)
structure SemN (P : Program) (s : Sem Value) (K : Value → Prop) : Prop where
 get : ∃ v, (∀ w, s.run P w = .ok v w) ∧ K v
structure Stuck (o : Oper) : Prop where
 no : False
def Res.ok (w : World) (V : View) : Res → Prop
 | .box b t cells => w.heap[b]? = some (.cells cells.toArray t (0, 0)) ∧ ∀ o, V b o = none
 | .row v t size n => (∃ base, v = .slice base 0 0 ∧ n = 0) ∨
   ∃ g cap cur, v = .slice (some ⟨g, 0, none⟩) n cap ∧ cap ≠ 0 ∧ w.heap[g]? = some (.cells cur t (0, 0)) ∧ n ≤ cap ∧ cap ≤ maxLen ∧ cur.size = cap * size ∧ ∀ o, n * size ≤ o → V g o = none
def Sub (V : View) (w : World) : Prop := ∀ b o v, V b o = some v → w.cell? ⟨b, o, none⟩ = some v
def Thawed (w : World) (k : Nat) : Prop := ∀ c t fr, w.heap[k]? = some (.cells c t fr) → fr = (0, 0)
theorem Thawed.out {w : World} {k : Nat} (h : ¬ k < w.heap.size) : Thawed w k := fun c t fr hc => absurd (Array.getElem?_eq_some_iff.1 hc).1 h
theorem Thawed.same {w w' : World} {k : Nat} (h : Thawed w k) (e : w'.heap[k]? = w.heap[k]?) : Thawed w' k := fun c t fr hc => h c t fr (e ▸ hc)
theorem Thawed.at {w : World} {k : Nat} {c : Array Value} {t : TypeId} (h : w.heap[k]? = some (.cells c t (0, 0))) : Thawed w k := fun c' t' fr hc => by rw [h] at hc; cases hc; rfl
structure Kept (M : Nat → Prop) (w w' : World) : Prop where
 os : w'.os = w.os
 tape : w'.tape = w.tape
 output : w'.output = w.output
 size : w.heap.size ≤ w'.heap.size
 block : ∀ k, k < w.heap.size → ¬ M k → w'.heap[k]? = w.heap[k]?
theorem Kept.refl (M : Nat → Prop) (w : World) : Kept M w w := ⟨rfl, rfl, rfl, Nat.le_refl _, fun _ _ _ => rfl⟩
theorem Kept.trans {M : Nat → Prop} {a b c : World} (h : Kept M a b) (k : Kept M b c) : Kept M a c :=
 ⟨k.os.trans h.os, k.tape.trans h.tape, k.output.trans h.output, Nat.le_trans h.size k.size, fun i hi hm => (k.block i (Nat.lt_of_lt_of_le hi h.size) hm).trans (h.block i hi hm)⟩
structure Pre (V : View) (bs : List Res) (w : World) : Prop where
 sub : Sub V w
 ok : ∀ (i : Nat) (r : Res), bs[i]? = some r → r.ok w V
 apart : ∀ (i j : Nat) (r r' : Res) (b : Nat), i ≠ j → bs[i]? = some r → bs[j]? = some r' → r.blk = some b → r'.blk ≠ some b
def blksOf (bs : List Res) (b : Nat) : Prop := ∃ r ∈ bs, r.blk = some b
def Grows (M : Nat → Prop) (size : Nat) (V V' : View) : Prop := V.le V' ∧ ∀ b o v, V' b o = some v → V b o = some v ∨ size ≤ b ∨ M b
def Does (P : Program) (f : FuncId) (args : List Value) (V : View) (bs : List Res) (R : Value → View → List Res → Prop) : Prop :=
 ∀ w, Pre V bs w → Calls P f args.toArray w fun e w' => ∃ v V' bs', e = .returned v ∧ R v V' bs' ∧ Pre V' bs' w' ∧ Kept (blksOf bs) w w' ∧ Grows (blksOf bs) w.heap.size V V' ∧
  ∀ b, blksOf bs' b → blksOf bs b ∨ w.heap.size ≤ b
theorem Does.mono {P : Program} {f : FuncId} {args : List Value} {V : View} {bs : List Res} {R R' : Value → View → List Res → Prop} (h : Does P f args V bs R)
  (hr : ∀ v V' bs', V.le V' → R v V' bs' → R' v V' bs') : Does P f args V bs R' :=
 fun w hw => (h w hw).mono fun _ _ ⟨v, V', bs', he, hR, hp, hk, hg, hb⟩ => ⟨v, V', bs', he, hr v V' bs' hg.1 hR, hp, hk, hg, hb⟩
structure MPre (mem : Nat → Option Res) (V : View) (w : World) : Prop where
 sub : Sub V w
 ok : ∀ i r, mem i = some r → r.ok w V
 apart : ∀ i j r r' b, i ≠ j → mem i = some r → mem j = some r' → r.blk = some b → r'.blk ≠ some b
def blksM (mem : Nat → Option Res) (b : Nat) : Prop := ∃ i r, mem i = some r ∧ r.blk = some b
structure CallN (P : Program) (f : FuncId) (args : List Value) (V : View) (mem : Nat → Option Res) (K : SV → View → (Nat → Option Res) → Prop) : Prop where
 run : ∀ w, MPre mem V w → Calls P f args.toArray w fun e w' => ∃ v s V' mem', e = .returned v ∧ toVal mem' s = some v ∧ K s V' mem' ∧ (∀ t x, toVal mem t = some x → toVal mem' t = some x) ∧ MPre mem' V' w' ∧ Kept (blksM mem) w w' ∧
  Grows (blksM mem) w.heap.size V V' ∧ (∀ b, blksM mem' b → blksM mem b ∨ w.heap.size ≤ b)
structure Inv (w0 : World) (M : Nat → Prop) (V0 : View) (n : Nat) (st : St) (V : View) (a : Act) (w : World) : Prop where
 defers : a.defers = []
 size : a.tmps.size = n
 env : ∀ k s, st.env k = some s → toVal st.mem s = some (a.tmps.getD k undef)
 mp : MPre st.mem V w
 kept : Kept M w0 w
 grows : Grows M w0.heap.size V0 V
 new : ∀ b, blksM st.mem b → M b ∨ w0.heap.size ≤ b
def Weak (st' st : St) (V : View) : Prop := ∀ w0 M V0 n a w, Inv w0 M V0 n st V a w → Inv w0 M V0 n st' V a w
def View.cells (V : View) (v : Value) (l : List Value) : Prop := match v with
 | .slice (some ⟨b, off, none⟩) _ _ => V.has b off l
 | .slice none _ _ => l = []
 | .string s => l = s.data.toList.map fun b => .int .u8 b.toNat
 | _ => False
theorem View.cells.mono {V V' : View} {v : Value} {l : List Value} (h : V.cells v l) (hV : V.le V') : V'.cells v l := by
 unfold View.cells at *
 split at h
 ·exact h.mono hV
 ·exact h
 ·exact h
 ·exact h.elim
def sizeB (P : Program) (t : TypeId) : Option Nat := match P.info? t with | some i => some i.size | none => none
def fieldOff (P : Program) (t : TypeId) (f : Nat) : Option Nat := match P.underlying t with
 | some (.struct fs) => (match fs[f]? with
  | some x => (match sizeB P x.type with | some 0 => none | some _ => some x.offset | none => none)
  | none => none)
 | _ => none
def asVar (P : Program) (t : TypeId) (l : List Value) : Option Value := match P.underlying t with
 | some (.struct _) => some (.agg l.toArray)
 | some (.array _ _) => some (.agg l.toArray)
 | some _ => match l with | [x] => some x | _ => none
 | none => none
def allOne (l : List Value) : Bool := match l with | [] => true | v :: r => match v.oneCell' with | true => allOne r | false => false
def u8V : List Value → Option (List UInt8)
 | [] => some []
 | .int .u8 n :: l => (match decide (0 ≤ n) && decide (n < 256) with
  | true => (match u8V l with | some r => some (UInt8.ofNat n.toNat :: r) | none => none)
  | false => none)
 | _ => none
def strOf (l : List Value) : Option Value := match u8V l with | some r => some (.string ⟨⟨r⟩⟩) | none => none
def u8L (r : List UInt8) : List Value := r.map fun b => .int .u8 b.toNat
theorem u8V_spec : ∀ {l : List Value} {r : List UInt8}, u8V l = some r → l = u8L r
 | [], r, h => by cases h; rfl
 | v :: l, r, h => by
  unfold u8V at h
  split at h
  ·rename_i heq; cases heq
  ·rename_i n l' heq
   cases heq
   split at h
   ·rename_i hn
    split at h
    ·rename_i r' hr
     cases h
     rw [Bool.and_eq_true] at hn
     have h1 := of_decide_eq_true hn.1
     have h2 := of_decide_eq_true hn.2
     rw [u8V_spec hr]
     have : ((UInt8.ofNat n.toNat).toNat : Int) = n := by simp; omega
     show Value.int .u8 n :: u8L r' = Value.int .u8 ((UInt8.ofNat n.toNat).toNat : Int) :: u8L r'
     rw [this]
    ·cases h
   ·cases h
  ·cases h
theorem u8V_of : ∀ r : List UInt8, u8V (u8L r) = some r
 | [] => rfl
 | b :: r => by
  have h1 : (0 : Int) ≤ (b.toNat : Int) := by omega
  have h2 : (b.toNat : Int) < 256 := by have := UInt8.toNat_lt b; omega
  have h3 := u8V_of r
  unfold u8L at h3 ⊢
  rw [List.map_cons]
  unfold u8V
  simp only [decide_eq_true h1, decide_eq_true h2, h3]
  simp
theorem strOf_of (r : List UInt8) : strOf (u8L r) = some (.string ⟨⟨r⟩⟩) := by unfold strOf; rw [u8V_of]
def Shape (x : Value) (m : Nat) : Prop := (∃ base cap, x = .slice base m cap) ∨ ∃ s : ByteArray, x = .string s ∧ m = s.size
theorem Shape.eq {x : Value} {m k : Nat} (h : Shape x m) (h' : Shape x k) : m = k := by
 rcases h with ⟨b, c, rfl⟩ | ⟨s, rfl, rfl⟩ <;> rcases h' with ⟨b', c', he⟩ | ⟨s', he, rfl⟩ <;> cases he <;> rfl
inductive Eff where
 | val (s : SV)
 | pick (c : Bool) (s1 s2 : SV)
 | ldv (f : List Value → Option Value) (b off n : Nat)
 | idx (base : Option Addr) (len : Nat) (i : Int) (size : Nat)
 | sem (s : Sem Value)
 | box (t : TypeId) (cells : List Value)
 | lit (e : TypeId) (len : Nat) (cells : List Value)
 | sto (plain : Bool) (id off : Nat) (cells : List Value)
 | call (f : FuncId) (args : List Value)
 | app (s : SV) (e : TypeId) (size bytes : Nat) (x : Value)
 | bad
def pureVal (P : Program) (s : Sem Value) : Eff := match pureRun P s with | some v => .val (.v v) | none => .bad
def callOk (P : Program) (f : FuncId) : Bool := match P.funcs[f]? with
 | some fn => !(fn.name == "runtime.NumGoroutine") && fn.body.isSome
 | none => false
def litSem (t : TypeId) (len : Nat) (parts : Array (Nat × Value)) : Sem (TypeId × Array Value) := do
 let .slice elem ← underlying t | stuck "buildSlice: slice type expected"
 let size ← sizeOf elem
 if len * size > 2 ^ 24 then unsupported (.resourceLimit "buildSlice: more than 2^24 cells")
 let zero ← if len * size = 0 then pure #[] else do pure (← zeroValue elem).cells
 let some cells := Instr.fill (fun i => some (i * size, size)) ((Array.range (len * size)).map (zero[· % zero.size]!)) parts.toList
  | stuck "buildSlice: a part of the wrong size"
 pure (elem, cells)
theorem buildSlice_eq (t : TypeId) (len : Nat) (parts : Array (Nat × Value)) : Instr.buildSlice t len parts = (litSem t len parts >>= fun x => do pure (.slice (some (← newRow x.1 x.2)) len len)) := by
 unfold Instr.buildSlice litSem
 simp only [bind_assoc]
 congr 1; funext d
 cases d <;> try rfl
 simp only [bind_assoc]
 congr 1; funext sz
 by_cases h : len * sz > 2 ^ 24
 ·simp only [h, if_true]; rfl
 ·simp only [h, if_false]
  by_cases h2 : len * sz = 0
  ·simp only [h2, if_true, pure_bind]
   split
   ·rename_i hx; simp only [hx, pure_bind]
   ·rename_i hx; split
    ·rename_i hy; exact absurd hy (hx _)
    ·rfl
  ·simp only [h2, if_false, bind_assoc, pure_bind]
   congr 1; funext z
   split
   ·rename_i hx; simp only [hx, pure_bind]
   ·rename_i hx; split
    ·rename_i hy; exact absurd hy (hx _)
    ·rfl
def placesB (P : Program) : List Field → Option (List (Nat × Nat))
 | [] => some []
 | f :: l => match sizeB P f.type, placesB P l with | some z, some r => some ((f.offset, z) :: r) | _, _ => none
def fillB (place : Nat → Option (Nat × Nat)) (cells : List Value) : List (Nat × Value) → Option (List Value)
 | [] => some cells
 | (i, v) :: rest => match place i with
  | none => none
  | some (off, size) => match Nat.beq v.cells.size size, Nat.ble (off + v.cells.size) cells.length with
   | true, true => fillB place (setAt cells off v.cells.toList) rest
   | _, _ => none
def repB (z : List Value) : Nat → List Value
 | 0 => []
 | n + 1 => z ++ repB z n
def buildB (P : Program) (t : TypeId) (l : List (Nat × Value)) : Option (List Value) := match P.info? t with
 | some i => match i.zero with
  | some z => match P.underlying t with
   | some (.struct fs) => (match placesB P fs.toList with
    | some ps => fillB (fun k => ps[k]?) z.cells.toList l
    | none => none)
   | some (.array _ e) => (match sizeB P e with
    | some s => fillB (fun k => some (k * s, s)) z.cells.toList l
    | none => none)
   | _ => none
  | none => none
 | none => none
def litB (P : Program) (t : TypeId) (len : Nat) (l : List (Nat × Value)) : Option (TypeId × List Value) := match P.underlying t with
 | some (.slice e) => match P.info? e with
  | some i => match i.zero with
   | some z => (match Nat.beq z.cells.size i.size, Nat.ble (len * i.size) 16777216 with
    | true, true => (match fillB (fun k => some (k * i.size, i.size)) (repB z.cells.toList len) l with
     | some cells => some (e, cells)
     | none => none)
    | _, _ => none)
   | none => none
  | none => none
 | _ => none
def byHand (op : BinOp) (y : Operand) (a : Value) : Bool := match op with
 | .eql | .neq => (match a with | .agg _ => true | _ => false)
 | .quo | .rem | .shl | .shr => (match y with | .const _ => false | _ => true)
 | _ => false
def St.optv (st : St) : Option Operand → Option (Option Value)
 | none => some none
 | some x => match st.val x with | some v => some (some v) | none => none
def appTy (P : Program) (t t' : TypeId) : Bool := match Nat.beq t' t with
 | true => true
 | false => (match P.underlying t' with | some (.slice _) => true | some .string => true | _ => false)
def effOf (P : Program) (o : Oper) (st : St) : Eff :=
 match o.op with
 | .move x => match opd st.env x with | some s => .val s | none => .bad
 | .assign x => match opd st.env x with | some s => .val s | none => .bad
 | .pick c a b => match opd st.env c with
  | some (.kb true) => match opd st.env a with | some s => .val s | none => .bad
  | some (.kb false) => match opd st.env b with | some s => .val s | none => .bad
  | some (.v (.bool c)) => match opd st.env a, opd st.env b with | some s, some t => .pick c s t | _, _ => .bad
  | _ => .bad
 | .box t x => match st.val x with | some v => .box t v.cells.toList | none => .bad
 | .alloc t => match P.info? t with
  | some i => match i.zero with | some z => .box t z.cells.toList | none => .bad
  | none => .bad
 | .load t a => match opd st.env a with
  | some (.own id off) => match st.mem id, sizeB P t with
   | some (.box _ _ cells), some n => match asVar P t ((cells.drop off).take n) with
    | some v => (match Nat.beq ((cells.drop off).take n).length n with | true => .val (.v v) | false => .bad)
    | none => .bad
   | _, _ => .bad
  | some (.v (.pointer (some ⟨b, off, none⟩))) => match sizeB P t with | some n => .ldv (asVar P t) b off n | none => .bad
  | _ => .bad
 | .store t a x => match opd st.env a, st.val x, sizeB P t with
  | some (.own id off), some v, some n => match Nat.beq v.cells.size n, allOne v.cells.toList with
   | true, true => .sto false id off v.cells.toList
   | _, _ => .bad
  | some (.v (.pointer (some ⟨b, off, none⟩))), some v, some n => match Nat.beq v.cells.size n, allOne v.cells.toList with
   | true, true => .sto true b off v.cells.toList
   | _, _ => .bad
  | _, _, _ => .bad
 | .fieldAddr s x f => match opd st.env x, fieldOff P s f with
  | some (.own id off), some k => .val (.own id (off + k))
  | some (.v (.pointer (some ⟨b, off, none⟩))), some k => .val (.v (.pointer (some ⟨b, off + k, none⟩)))
  | _, _ => .bad
 | .indexAddr t x i => match P.underlying t with
  | some (.slice e) => match st.val x, st.val i, sizeB P e with
   | some (.slice base len _), some (.int _ n), some z => .idx base len n z
   | _, _, _ => .bad
  | some (.array len e) => match opd st.env x, st.val i, sizeB P e with
   | some (.own id off), some (.int _ (.ofNat n)), some z => (match Nat.blt n len with | true => .val (.own id (off + n * z)) | false => .bad)
   | some (.v (.pointer (some ⟨b, off, none⟩))), some (.int _ (.ofNat n)), some z => (match Nat.blt n len with | true => .val (.v (.pointer (some ⟨b, off + n * z, none⟩))) | false => .bad)
   | _, _, _ => .bad
  | _ => .bad
 | .binOp op t x y _ => match st.val x, st.val y with
  | some a, some b => (match byHand op y a with
   | true => .sem (do eqGuard op t x y a b; binOp op t a b)
   | false => pureVal P (do eqGuard op t x y a b; binOp op t a b))
  | _, _ => .bad
 | .unOp op _ x => match st.val x with | some a => pureVal P (Op.unary op a) | none => .bad
 | .convert src dst x => match P.underlying dst with
  | some .string => match st.val x with
   | some (.slice base n _) => match P.underlying src with
    | some (.slice e) => match P.underlying e with
     | some (.int .u8) => match base with
      | some ⟨b, off, none⟩ => .ldv strOf b off n
      | none => .val (.v (.string ⟨#[]⟩))
      | _ => .bad
     | _ => .bad
    | _ => .bad
   | some a => pureVal P (convert src dst a)
   | none => .bad
  | _ => match st.val x with | some a => pureVal P (convert src dst a) | none => .bad
 | .makeInterface t x => match st.val x with | some a => pureVal P (Instr.makeInterface t a) | none => .bad
 | .extract t i => match st.val t with | some a => pureVal P (Instr.extract a i) | none => .bad
 | .field t x f => match st.val x with | some a => pureVal P (Instr.field t a f) | none => .bad
 | .index t x i => match P.underlying t with
  | some .string => match st.val x, st.val i with | some a, some b => .sem (Instr.index t a b) | _, _ => .bad
  | _ => match st.val x, st.val i with | some a, some b => pureVal P (Instr.index t a b) | _, _ => .bad
 | .build t ps => match st.parts ps.toList with | some l => (match buildB P t l with | some cells => .val (.v (.agg cells.toArray)) | none => .bad) | none => .bad
 | .buildSlice t len ps => match st.parts ps.toList with
  | some l => match litB P t len l with
   | some (e, cells) => .lit e len cells
   | none => .bad
  | none => .bad
 | .slice t x lo hi mx => match st.val x, st.optv lo, st.optv hi, st.optv mx with
  | some u, some a, some b, some c => .sem (Instr.sliceAt t u a b c)
  | _, _, _, _ => .bad
 | .makeFunc fn first captured => match st.vals first.toList, st.vals captured.toList with
  | some a, some b => .val (.v (.func fn a.toArray b.toArray))
  | _, _ => .bad
 | .nilCheck x => match opd st.env x with
  | some (.own id off) => .val (.own id off)
  | some (.v (.pointer (some a))) => .val (.v (.pointer (some a)))
  | _ => .bad
 | .call c => match c.callee with
  | .value f => match st.val f, st.vals c.args.toList with
   | some (.func (.func g) first captured), some args => match callOk P g with
    | true => .call g (first.toList ++ args ++ captured.toList)
    | false => .bad
   | _, _ => .bad
  | .builtin .append => match c.args.toList, c.argTypes.toList with
   | [s, x], [t, t'] => match appTy P t t', P.underlying t with
    | true, some (.slice e) => match P.info? e with
     | some i => match i.zero with
      | some z => match Nat.beq z.cells.size i.size, Nat.blt 0 i.size, opd st.env s, st.val x with
       | true, true, some sv, some xv => .app sv e i.size i.bytes xv
       | _, _, _, _ => .bad
      | none => .bad
     | none => .bad
    | _, _ => .bad
   | _, _ => .bad
  | .builtin .len => match st.vals c.args.toList with | some l => pureVal P (Builtin.len_ c.argTypes o.type l.toArray) | none => .bad
  | .builtin .cap => match st.vals c.args.toList with | some l => pureVal P (Builtin.cap_ c.argTypes o.type l.toArray) | none => .bad
  | .builtin .min => match st.vals c.args.toList with | some l => .sem (Builtin.min_ c.argTypes o.type l.toArray) | none => .bad
  | .builtin .max => match st.vals c.args.toList with | some l => .sem (Builtin.max_ c.argTypes o.type l.toArray) | none => .bad
  | _ => .bad
 | _ => .bad
def St.newBox (st : St) (d : Nat) (r : Res) : St := match st.mem d with
 | none => ⟨upd st.env d (.own d 0), upd st.mem d r⟩
 | some _ => ⟨upd (fun n => match st.env n with | some (.own i k) => (match Nat.beq i d with | true => none | false => some (.own i k)) | some (.row i) => (match Nat.beq i d with | true => none | false => some (.row i)) | x => x) d (.own d 0), upd st.mem d r⟩
def demote (mem : Nat → Option Res) (g : Nat) : SV → Option SV
 | .own i o => (match Nat.beq i g with | true => (match toVal mem (.own i o) with | some v => some (.v v) | none => none) | false => some (.own i o))
 | .row i => (match Nat.beq i g with | true => (match toVal mem (.row i) with | some v => some (.v v) | none => none) | false => some (.row i))
 | x => some x
def purge (env : Nat → Option SV) (mem : Nat → Option Res) (g : Nat) : Nat → Option SV := fun k => match env k with
 | some s => demote mem g s
 | none => none
def St.forget (st : St) (g : Nat) : St := ⟨purge st.env st.mem g, del st.mem g⟩
def St.newRow (st : St) (gone : Option Nat) (d : Nat) (r : Res) : St := match gone with
 | none => ⟨upd (purge st.env st.mem d) d (.row d), upd st.mem d r⟩
 | some g => ⟨upd (purge (purge st.env st.mem g) (del st.mem g) d) d (.row d), upd (del st.mem g) d r⟩
structure AppOk (V : View) (mem : Nat → Option Res) (gone : Option Nat) (v v' : Value) (V' : View) : Prop where
 blk : ∀ g, rowBlk v' = some g → rowBlk v = some g ∨ ∀ o, V g o = none
 new : ∀ b o u, V' b o = some u → V b o = some u ∨ rowBlk v' = some b
 free : ∀ i r, mem i = some r → gone ≠ some i → ∀ g, rowBlk v' = some g → r.blk ≠ some g
 off : ∀ a k c, v' = .slice (some a) k c → c ≠ 0 → a.off = 0
structure AppN (V : View) (mem : Nat → Option Res) (gone : Option Nat) (v : Value) (n size bytes : Nat) (x : Value) (K : Value → Nat → View → Prop) : Prop where
 get : ∃ xs news m, V.cells v xs ∧ xs.length = n * size ∧ Shape x m ∧ (m = 0 ∨ V.cells x news) ∧ news.length = m * size ∧ (∀ u ∈ news, u.oneCell' = true) ∧
  n + m ≤ maxLen ∧ (n + m) * bytes ≤ 140737488355328 ∧ ∀ v' V', V.le V' → V'.cells v' (xs ++ news) → (∃ base cap, v' = .slice base (n + m) cap ∧ n + m ≤ cap) → AppOk V mem gone v v' V' → K v' (n + m) V'
def FullS (v : Value) (n : Nat) (x : Value) : Prop := ∃ b off m, v = .slice (some ⟨b, off, none⟩) n n ∧ Shape x (m + 1)
structure AppF (V : View) (mem : Nat → Option Res) (v : Value) (n size bytes : Nat) (x : Value) (K : Value → Nat → View → Prop) : Prop where
 get : ∃ xs news m, V.cells v xs ∧ xs.length = n * size ∧ Shape x m ∧ (m = 0 ∨ V.cells x news) ∧ news.length = m * size ∧ (∀ u ∈ news, u.oneCell' = true) ∧
  n + m ≤ maxLen ∧ (n + m) * bytes ≤ 140737488355328 ∧ ∀ v' V', V.le V' → V'.cells v' (xs ++ news) → (∃ base cap, v' = .slice base (n + m) cap ∧ n + m ≤ cap) → AppOk V mem none (.slice none 0 0) v' V' → K v' (n + m) V'
def NoneS (v : Value) (n : Nat) (x : Value) : Prop := ∃ b off cap, v = .slice (some ⟨b, off, none⟩) n cap ∧ Shape x 0 ∧ n ≤ cap ∧ n ≤ maxLen
structure AppVN (V : View) (mem : Nat → Option Res) (v : Value) (e : TypeId) (size bytes : Nat) (x : Value) (K : Option Nat → Value → Nat → View → Prop) (K0 : Prop) : Prop where
 get : ∃ id n, match mem id with
  | some r => r = .row v e size n ∧ AppN V mem (some id) v n size bytes x (K (some id))
  | none => (FullS v n x ∧ AppF V mem v n size bytes x (K none)) ∨ (NoneS v n x ∧ K0)
theorem AppVN.at {V : View} {mem : Nat → Option Res} {v : Value} {e : TypeId} {size bytes : Nat} {x : Value} {K : Option Nat → Value → Nat → View → Prop} {K0 : Prop} (id n : Nat) (hm : mem id = some (.row v e size n)) (h : AppN V mem (some id) v n size bytes x (K (some id))) :
  AppVN V mem v e size bytes x K K0 := ⟨⟨id, n, by rw [hm]; exact ⟨rfl, h⟩⟩⟩
theorem AppVN.full {V : View} {mem : Nat → Option Res} {e : TypeId} {size bytes : Nat} {K : Option Nat → Value → Nat → View → Prop} {K0 : Prop} (id : Nat) {b off n m cx : Nat} {bx : Option Addr} (hm : mem id = none) (h : AppF V mem (.slice (some ⟨b, off, none⟩) n n) n size bytes (.slice bx (m + 1) cx) (K none)) :
  AppVN V mem (.slice (some ⟨b, off, none⟩) n n) e size bytes (.slice bx (m + 1) cx) K K0 := ⟨⟨id, n, by rw [hm]; exact .inl ⟨⟨b, off, m, rfl, .inl ⟨_, _, rfl⟩⟩, h⟩⟩⟩
theorem AppVN.zero {V : View} {mem : Nat → Option Res} {e : TypeId} {size bytes : Nat} {K : Option Nat → Value → Nat → View → Prop} {K0 : Prop} (id : Nat) {b off n cap cx : Nat} {bx : Option Addr} (hm : mem id = none) (hc : n ≤ cap) (hn : n ≤ maxLen) (h : K0) :
  AppVN V mem (.slice (some ⟨b, off, none⟩) n cap) e size bytes (.slice bx 0 cx) K K0 := ⟨⟨id, n, by rw [hm]; exact .inr ⟨⟨b, off, cap, rfl, .inl ⟨_, _, rfl⟩, hc, hn⟩, h⟩⟩⟩
def effRun (P : Program) (o : Oper) (e : Eff) (st : St) (V : View) (K : St → View → Prop) : Prop :=
 match e with
 | .val s => K (st.put o.dst s) V
 | .pick c s t => Br c (K (st.put o.dst s) V) (K (st.put o.dst t) V)
 | .ldv f b off n => LoadN V st.mem b off n (fun l => match f l with | some v => K (st.put o.dst (.v v)) V | none => Stuck o)
 | .idx base len i size => IdxN base len i size (fun b off => K (st.put o.dst (.v (.pointer (some ⟨b, off, none⟩)))) V)
 | .sem s => SemN P s (fun v => K (st.put o.dst (.v v)) V)
 | .box t cells => match o.dst with
  | some d => ∀ blk : Nat, K (st.newBox d (.box blk t cells)) V
  | none => Stuck o
 | .lit _ len cells => ∀ (b : Nat) (V' : View), V.le V' → V'.has b 0 cells → K (st.put o.dst (.v (.slice (some ⟨b, 0, none⟩) len len))) V'
 | .sto false id off cells => match st.mem id with
  | some (.box b t old) => (match Nat.ble (off + cells.length) old.length with | true => K ((⟨st.env, upd st.mem id (.box b t (setAt old off cells))⟩ : St).put o.dst (.v undef)) V | false => Stuck o)
  | _ => Stuck o
 | .sto true b off cells => StoN st.mem b off cells (fun mem' => K ((⟨st.env, mem'⟩ : St).put o.dst (.v undef)) V)
 | .call f args => CallN P f args V st.mem (fun s V' mem' => K ((⟨st.env, mem'⟩ : St).put o.dst s) V')
 | .app s e size bytes x => match o.dst with
  | some d => (match s with
   | .row id => (match st.mem id with
    | some (.row v ty sz n) => (match Nat.beq ty e, Nat.beq sz size with
     | true, true => AppN V st.mem (some id) v n size bytes x (fun v' n' V' => K (st.newRow (some id) d (.row v' e size n')) V')
     | _, _ => Stuck o)
    | _ => Stuck o)
   | .v (.slice base 0 0) => AppN V st.mem none (.slice base 0 0) 0 size bytes x (fun v' n' V' => K (st.newRow none d (.row v' e size n')) V')
   | .v v => AppVN V st.mem v e size bytes x (fun g v' n' V' => K (st.newRow g d (.row v' e size n')) V') (K (st.put (some d) (.v v)) V)
   | _ => Stuck o)
  | none => Stuck o
 | .bad => Stuck o
def xop (P : Program) (o : Oper) (st : St) (V : View) (K : St → View → Prop) : Prop := effRun P o (effOf P o st) st V K
def dstOf (ops : Array Oper) (j : Nat) : Option Nat := match ops[j]? with | some o => o.dst | none => none
def xops (P : Program) (ops : Array Oper) (K : St → View → Prop) : List Oper → St → View → Prop
 | [], st, V => K st V
 | o :: rest, st, V =>
  match o.guard with
  | none => xop P o st V (xops P ops K rest)
  | some (j, want) => match dstOf ops j with
   | none => Stuck o
   | some d => match st.env d with
    | some (.kb b) => (match b, want with
     | true, true => xop P o st V (xops P ops K rest)
     | false, false => xop P o st V (xops P ops K rest)
     | _, _ => xops P ops K rest (st.put o.dst (.v undef)) V)
    | some (.v (.bool b)) => Br b
     (match want with | true => xop P o ⟨upd st.env d (.kb true), st.mem⟩ V (xops P ops K rest) | false => xops P ops K rest ((⟨upd st.env d (.kb true), st.mem⟩ : St).put o.dst (.v undef)) V)
     (match want with | false => xop P o ⟨upd st.env d (.kb false), st.mem⟩ V (xops P ops K rest) | true => xops P ops K rest ((⟨upd st.env d (.kb false), st.mem⟩ : St).put o.dst (.v undef)) V)
    | some (.v (.tuple _)) => xops P ops K rest (st.put o.dst (.v undef)) V
    | _ => Stuck o
inductive Ex where
 | normal
 | ret
 | exit (id : Nat)
structure LoopN (round : (Ex → St → View → Prop) → St → View → Prop) (K : Ex → St → View → Prop) (st : St) (V : View) : Prop where
 get : ∃ I : Nat → St → View → Prop, (∃ n st', Weak st' st V ∧ I n st' V) ∧
  ∀ n st V, I n st V → round (fun e st' V' => match e with | .normal => ∃ m st'', m < n ∧ Weak st'' st' V' ∧ I m st'' V' | e => K e st' V') st V
def readRes (P : Program) (st : St) : ResultVar → Option SV
 | .tmp t => st.env t
 | .cell a t => match st.env a with
  | some (.own id off) => match st.mem id, sizeB P t with
   | some (.box _ _ cells), some n => (match Nat.beq ((cells.drop off).take n).length n with | true => (match asVar P t ((cells.drop off).take n) with | some v => some (.v v) | none => none) | false => none)
   | _, _ => none
  | _ => none
def readAll (P : Program) (st : St) : List ResultVar → Option (List SV)
 | [] => some []
 | r :: l => match readRes P st r, readAll P st l with | some v, some vs => some (v :: vs) | _, _ => none
def toVals (mem : Nat → Option Res) : List SV → Option (List Value)
 | [] => some []
 | s :: l => match toVal mem s, toVals mem l with | some v, some vs => some (v :: vs) | _, _ => none
structure RetN (v : Value) (mem : Nat → Option Res) (V : View) (R : Value → View → List Res → Prop) : Prop where
 get : ∃ ids : List Nat, ids.Nodup ∧ ∃ bs : List Res, ids.map mem = bs.map some ∧ R v V bs
def packVals : List Value → Value
 | [v] => v
 | vs => .tuple vs.toArray
def initEnv : List SV → Nat → (Nat → Option SV)
 | [], _ => fun _ => none
 | s :: l, n => upd (initEnv l (n + 1)) n s
section
variable {P : Program} {w0 : World} {M : Nat → Prop} {V0 : View} {n : Nat} {st : St} {V : View} {a : Act} {w : World}
theorem Inv.opd (h : Inv w0 M V0 n st V a w) {x : Operand} {s : SV} (hx : X.opd st.env x = some s) : toVal st.mem s = some (a.eval x) := by
 cases x with
 | tmp t => exact h.env t s hx
 | const v =>
  cases v <;> simp only [X.opd, Option.some.injEq] at hx <;> subst hx <;> rfl
 | global g => simp only [X.opd, Option.some.injEq] at hx; subst hx; rfl
 | func f => simp only [X.opd, Option.some.injEq] at hx; subst hx; rfl
theorem Inv.val (h : Inv w0 M V0 n st V a w) {x : Operand} {v : Value} (hx : st.val x = some v) : a.eval x = v := by
 unfold St.val at hx
 split at hx
 ·rename_i s hs
  have := h.opd hs
  rw [hx] at this
  exact (Option.some.inj this).symm
 ·cases hx
theorem Inv.vals (h : Inv w0 M V0 n st V a w) : ∀ {l : List Operand} {vs : List Value}, st.vals l = some vs → l.map a.eval = vs
 | [], vs, hx => by simp only [St.vals, Option.some.injEq] at hx; subst hx; rfl
 | x :: l, vs, hx => by
  simp only [St.vals] at hx
  split at hx
  ·rename_i v vs' hv hvs
   simp only [Option.some.injEq] at hx
   subst hx
   simp [h.val hv, h.vals hvs]
  ·cases hx
theorem Inv.optv (h : Inv w0 M V0 n st V a w) {x : Option Operand} {v : Option Value} (hx : st.optv x = some v) : x.map a.eval = v := by
 cases x with
 | none => simp only [St.optv, Option.some.injEq] at hx; subst hx; rfl
 | some y =>
  simp only [St.optv] at hx
  split at hx
  ·rename_i u hu
   simp only [Option.some.injEq] at hx
   subst hx
   simp [h.val hu]
  ·cases hx
theorem Inv.parts (h : Inv w0 M V0 n st V a w) : ∀ {l : List (Nat × Operand)} {vs : List (Nat × Value)}, st.parts l = some vs → l.map (fun x => (x.1, a.eval x.2)) = vs
 | [], vs, hx => by simp only [St.parts, Option.some.injEq] at hx; subst hx; rfl
 | (i, x) :: l, vs, hx => by
  simp only [St.parts] at hx
  split at hx
  ·rename_i v vs' hv hvs
   simp only [Option.some.injEq] at hx
   subst hx
   simp [h.val hv, h.parts hvs]
  ·cases hx
theorem getD_set (l : Array Value) (d k : Nat) (v : Value) : (l.setIfInBounds d v).getD k undef = if k = d ∧ d < l.size then v else l.getD k undef := by
 simp only [Array.getD_eq_getD_getElem?, Array.getElem?_setIfInBounds]
 by_cases h : d = k
 ·subst h
  by_cases h2 : d < l.size
  ·simp [h2]
  ·simp [h2]
 ·have : ¬ k = d := fun e => h e.symm
  simp [h, this]
theorem Inv.put (h : Inv w0 M V0 n st V a w) {dst : Option Nat} (hd : ∀ d, dst = some d → d < n) {s : SV} {v : Value} (hs : toVal st.mem s = some v) :
  Inv w0 M V0 n (st.put dst s) V (a.put dst v) w := by
 cases dst with
 | none => exact h
 | some d =>
  refine ⟨h.defers, by simp [Act.put, h.size], fun k t hk => ?_, h.mp, h.kept, h.grows, h.new⟩
  have hdn := hd d rfl
  simp only [Act.put, getD_set]
  by_cases hkd : k = d
  ·subst hkd
   simp only [St.put, upd_same, Option.some.injEq] at hk
   subst hk
   rw [if_pos ⟨rfl, by rw [h.size]; exact hdn⟩]
   exact hs
  ·simp only [St.put, upd_ne _ _ hkd] at hk
   rw [if_neg (fun e => hkd e.1)]
   exact h.env k t hk
def EffSem (P : Program) (o : Oper) (st : St) (V : View) (a : Act) (w : World) : Eff → Prop
 | .val s => ∃ v, toVal st.mem s = some v ∧ (execOp a.eval o).run P w = .ok (.value v) w
 | .pick c s t => ∃ v1 v2, toVal st.mem s = some v1 ∧ toVal st.mem t = some v2 ∧ (execOp a.eval o).run P w = .ok (.value (if c then v1 else v2)) w
 | .ldv f b off n => ∀ l v, l.length = n → Lies V st.mem b off n l → f l = some v → (execOp a.eval o).run P w = .ok (.value v) w
 | .idx base len i size => ∀ b off, base = some ⟨b, off, none⟩ → 0 ≤ i → i < len → (execOp a.eval o).run P w = .ok (.value (.pointer (some ⟨b, off + i.toNat * size, none⟩))) w
 | .sem s => ∀ v, (∀ w, s.run P w = .ok v w) → (execOp a.eval o).run P w = .ok (.value v) w
 | .box t cells => (execOp a.eval o).run P w = .ok (.value (.pointer (some ⟨w.heap.size, 0, none⟩))) (w.alloc (.cells cells.toArray t))
 | .lit e len cells => (execOp a.eval o).run P w = .ok (.value (.slice (some ⟨w.heap.size, 0, none⟩) len len)) (w.alloc (.cells cells.toArray e))
 | .sto false id off cells => ∀ b t old, st.mem id = some (.box b t old) → off + cells.length ≤ old.length → (execOp a.eval o).run P w = .ok .skip (w.setRow b (setAt old off cells).toArray)
 | .sto true b off cells => ∀ id t old, st.mem id = some (.box b t old) → off + cells.length ≤ old.length → (execOp a.eval o).run P w = .ok .skip (w.setRow b (setAt old off cells).toArray)
 | .call f args => (execOp a.eval o).run P w = .ok (.enter f args.toArray) w
 | .app s e size bytes x => ∃ (t : TypeId) (i : TypeInfo) (z : Value) (vs : Value), toVal st.mem s = some vs ∧ P.underlying t = some (.slice e) ∧ P.info? e = some i ∧ i.zero = some z ∧ i.size = size ∧ i.bytes = bytes ∧ z.cells.size = size ∧ 0 < size ∧
   (execOp a.eval o).run P w = ((Builtin.append_ #[t, t] o.type #[vs, x]).run P w).andThen (fun v w' => .ok (.value v) w')
 | .bad => True
theorem run_value {s : Sem Value} {v : Value} (h : pureRun P s = some v) (w : World) : (do pure (.value (← s)) : Sem Next).run P w = .ok (.value v) w := by
 rw [Sem.run_bind, run_of_pureRun h w]; rfl
theorem EffSem.pureVal {o : Oper} {s : Sem Value} (h : execOp a.eval o = (do pure (.value (← s)) : Sem Next)) : EffSem P o st V a w (X.pureVal P s) := by
 unfold X.pureVal
 split
 ·rename_i v hv
  exact ⟨v, rfl, by rw [h]; exact run_value hv w⟩
 ·trivial
theorem run_sizeOf {t : TypeId} {z : Nat} (h : sizeB P t = some z) (w : World) : (sizeOf t).run P w = .ok z w := by
 unfold sizeB at h
 split at h
 ·rename_i i hi
  simp only [Option.some.injEq] at h
  subst h
  simp [sizeOf, typeInfo, hi]
 ·cases h
theorem add_lit (b o i : Nat) : (⟨b, o, none⟩ : Addr).add i = ⟨b, o + i, none⟩ := by unfold Addr.add; split <;> simp_all
theorem run_loadVar {t : TypeId} {z : Nat} {l : List Value} {v : Value} {b off : Nat} (hz : sizeB P t = some z) (hl : l.length = z)
  (hc : ∀ i x, l[i]? = some x → w.cell? ⟨b, off + i, none⟩ = some x) (hv : asVar P t l = some v) : (loadVar t ⟨b, off, none⟩).run P w = .ok v w := by
 have hcells : (loadCells ⟨b, off, none⟩ z).run P w = .ok l.toArray w := by
  subst hl
  exact run_loadCells_list w _ l (fun j x hx => by rw [add_lit]; exact hc j x hx)
 unfold asVar at hv
 split at hv
 ·rename_i d hd
  simp only [Option.some.injEq] at hv; subst hv
  simp [loadVar, isAgg, run_underlying hd, run_sizeOf hz, hcells]
 ·rename_i d k hd
  simp only [Option.some.injEq] at hv; subst hv
  simp [loadVar, isAgg, run_underlying hd, run_sizeOf hz, hcells]
 ·rename_i d h1 h2 hd
  split at hv
  ·rename_i x
   simp only [Option.some.injEq] at hv; subst hv
   have h0 := hc 0 x rfl
   simp only [Nat.add_zero] at h0
   have hag : (isAgg t).run P w = .ok false w := by
    unfold isAgg
    rw [Sem.run_bind, run_underlying hd]
    cases d <;> first | rfl | exact absurd rfl (h1 _) | exact absurd rfl (h2 _ _)
   simp [loadVar, hag, run_load, h0]
  ·cases hv
 ·cases hv
theorem setAt_eq : ∀ (old : List Value) (off : Nat) (cells : List Value), off + cells.length ≤ old.length → setAt old off cells = old.take off ++ cells ++ old.drop (off + cells.length)
 | old, off, [], _ => by cases old <;> simp [setAt]
 | [], off, x :: xs, h => by simp at h
 | y :: r, 0, x :: xs, h => by
  simp only [setAt, List.take_zero, List.nil_append, List.length_cons, Nat.zero_add, List.drop_succ_cons, List.cons_append]
  rw [setAt_eq r 0 xs (by simpa using h)]
  simp
 | y :: r, off + 1, x :: xs, h => by
  simp only [setAt, List.take_succ_cons, List.cons_append]
  rw [setAt_eq r off (x :: xs) (by simp at h ⊢; omega)]
  rw [show off + 1 + (x :: xs).length = (off + (x :: xs).length) + 1 by omega, List.drop_succ_cons]
theorem allOne_spec : ∀ {l : List Value}, allOne l = true → ∀ v ∈ l, v.oneCell' = true
 | [], _, v, hv => by cases hv
 | x :: l, h, v, hv => by
  unfold allOne at h
  split at h
  ·rename_i hx
   rcases List.mem_cons.1 hv with rfl | hv
   ·exact hx
   ·exact allOne_spec h v hv
  ·cases h
theorem run_storeVar {t ty : TypeId} {old : List Value} {b off : Nat} {v : Value} (hg : w.heap[b]? = some (.cells old.toArray ty (0, 0)))
  (hz : sizeB P t = some v.cells.size) (h1 : allOne v.cells.toList = true) (hl : off + v.cells.toList.length ≤ old.length) :
  (storeVar t ⟨b, off, none⟩ v).run P w = .ok () (w.setRow b (setAt old off v.cells.toList).toArray) := by
 unfold storeVar
 rw [Sem.run_bind, run_sizeOf hz]
 simp only [Result.andThen_ok, ne_eq, not_true_eq_false, if_false]
 have := run_storeCells_at P b off ty v.cells.toList 0 old.toArray w hg (by simpa using hl) (allOne_spec h1)
 simp only [Nat.add_zero] at this
 rw [setAt_eq old off _ hl]
 simpa using this
theorem callOk_spec {f : FuncId} (h : callOk P f = true) (args : Array Value) : (callFunc f args).run P w = .ok (.enter f args) w := by
 unfold callOk at h
 split at h
 ·rename_i fn hf
  simp only [Bool.and_eq_true, Bool.not_eq_true', Option.isSome_iff_ne_none, ne_eq] at h
  have hne : fn.name ≠ "runtime.NumGoroutine" := by simpa using h.1
  simp [callFunc, program, Sem.run, hf, hne, h.2]
 ·cases h
end
theorem setAt_step : ∀ (l : List Value) (n : Nat) (x : Value) (xs : List Value), setAt l n (x :: xs) = setAt (l.set n x) (n + 1) xs
 | [], n, x, xs => by cases xs <;> simp [setAt]
 | y :: r, 0, x, xs => by
  cases xs with
  | nil => simp [setAt]
  | cons z zs => simp [setAt]
 | y :: r, n + 1, x, xs => by
  have := setAt_step r n x xs
  cases xs with
  | nil => simp only [setAt, List.set_cons_succ] at this ⊢; rw [this]
  | cons z zs => simp only [setAt, List.set_cons_succ] at this ⊢; rw [this]
theorem foldl_set (off : Nat) : ∀ (vs : List Value) (k : Nat) (arr : List Value),
  (vs.zipIdx k).foldl (fun cs (x : Value × Nat) => cs.setIfInBounds (off + x.2) x.1) arr.toArray = (setAt arr (off + k) vs).toArray
 | [], k, arr => by cases arr <;> simp [setAt]
 | v :: vs, k, arr => by
  rw [List.zipIdx_cons, List.foldl_cons, setAt_step]
  have := foldl_set off vs (k + 1) (arr.set (off + k) v)
  rw [show off + k + 1 = off + (k + 1) by omega, ← this]
  simp
theorem fill_eq {place : Nat → Option (Nat × Nat)} : ∀ (l : List (Nat × Value)) {cells r : List Value}, fillB place cells l = some r → Instr.fill place cells.toArray l = some r.toArray
 | [], cells, r, h => by simp only [fillB, Option.some.injEq] at h; subst h; rfl
 | (i, v) :: l, cells, r, h => by
  unfold fillB at h
  unfold Instr.fill
  split at h
  ·cases h
  ·rename_i off size hp
   split at h
   ·rename_i h1 h2
    have h1 := Nat.eq_of_beq_eq_true h1
    have h2 := Nat.le_of_ble_eq_true h2
    rw [hp]
    simp only
    rw [if_neg (by
     simp only [List.size_toArray, ne_eq, Bool.or_eq_true, decide_eq_true_eq, not_or, Bool.not_eq_true', decide_not, Bool.not_eq_eq_eq_not, Bool.not_true, decide_eq_false_iff_not, Decidable.not_not]
     exact ⟨h1, by omega⟩)]
    have := foldl_set off v.cells.toList 0 cells
    rw [← Array.foldl_toList, Array.toList_zipIdx]
    rw [Nat.add_zero] at this
    rw [this]
    exact fill_eq l h
   ·cases h
section
variable {P : Program}
theorem run_zero {t : TypeId} {i : TypeInfo} {z : Value} (hi : P.info? t = some i) (hz : i.zero = some z) (w : World) : (zeroValue t).run P w = .ok z w := by
 simp only [zeroValue, typeInfo, program, Sem.run_bind]
 simp [Sem.run, hi, hz]
theorem run_places : ∀ {l : List Field} {r : List (Nat × Nat)}, placesB P l = some r → ∀ w, (l.mapM fun f => do pure (f.offset, ← sizeOf f.type) : Sem (List (Nat × Nat))).run P w = .ok r w
 | [], r, h, w => by simp only [placesB, Option.some.injEq] at h; subst h; rfl
 | f :: l, r, h, w => by
  unfold placesB at h
  split at h
  ·rename_i z r' hz hr
   simp only [Option.some.injEq] at h; subst h
   rw [List.mapM_cons, Sem.run_bind, Sem.run_bind, run_sizeOf hz w]
   simp only [Result.andThen_ok, Sem.run_pure]
   rw [Sem.run_bind, run_places hr w]
   rfl
  ·cases h
theorem run_build {t : TypeId} {l : List (Nat × Value)} {cells : List Value} (h : buildB P t l = some cells) (w : World) : (Instr.build t l.toArray).run P w = .ok (.agg cells.toArray) w := by
 unfold buildB at h
 split at h
 ·rename_i i hi
  split at h
  ·rename_i z hz
   unfold Instr.build
   rw [Sem.run_bind, run_zero hi hz w]
   simp only [Result.andThen_ok]
   split at h
   ·rename_i fs hf
    split at h
    ·rename_i ps hp
     rw [Sem.run_bind, run_underlying hf]
     simp only [Result.andThen_ok]
     rw [Sem.run_bind, Array.mapM_eq_mapM_toList, map_eq_pure_bind, Sem.run_bind, run_places hp w]
     simp only [Result.andThen_ok, Sem.run_pure]
     have := fill_eq l h
     rw [show (fun x => ps.toArray[x]?) = (fun k => ps[k]?) from funext fun x => by simp]
     simp only [this]
     rfl
    ·cases h
   ·rename_i n e hf
    split at h
    ·rename_i s hs
     rw [Sem.run_bind, run_underlying hf]
     simp only [Result.andThen_ok]
     rw [Sem.run_bind, run_sizeOf hs w]
     simp only [Result.andThen_ok]
     have := fill_eq l h
     simp only [this]
     rfl
    ·cases h
   ·cases h
  ·cases h
 ·cases h
theorem repB_length (z : List Value) : ∀ n, (repB z n).length = n * z.length
 | 0 => by simp [repB]
 | n + 1 => by simp [repB, repB_length z n, Nat.succ_mul, Nat.add_comm]
theorem repB_get (z : List Value) (hz : 0 < z.length) : ∀ n i, i < n * z.length → (repB z n)[i]? = z[i % z.length]?
 | 0, i, h => by omega
 | n + 1, i, h => by
  unfold repB
  rw [List.getElem?_append]
  split
  ·rename_i hlt; rw [Nat.mod_eq_of_lt hlt]
  ·rename_i hge
   rw [repB_get z hz n (i - z.length) (by rw [Nat.succ_mul] at h; omega)]
   congr 1
   obtain ⟨j, rfl⟩ : ∃ j, i = j + z.length := ⟨i - z.length, by omega⟩
   rw [Nat.add_mod_right, Nat.add_sub_cancel]
theorem rep_eq (z : Value) (len : Nat) (h : 0 < len * z.cells.size) : ((Array.range (len * z.cells.size)).map (z.cells[· % z.cells.size]!)) = (repB z.cells.toList len).toArray := by
 have hz : 0 < z.cells.size := by
  rcases Nat.eq_zero_or_pos z.cells.size with h0 | h0
  ·rw [h0] at h; omega
  ·exact h0
 apply Array.ext'
 apply List.ext_getElem?
 intro i
 by_cases hi : i < len * z.cells.size
 ·have h2 := repB_get z.cells.toList (by simpa using hz) len i (by simpa using hi)
  simp only [Array.length_toList] at h2
  rw [h2]
  have hm : i % z.cells.size < z.cells.size := Nat.mod_lt _ hz
  simp [hi, hm]
 ·rw [List.getElem?_eq_none (by simpa using hi), List.getElem?_eq_none (by rw [repB_length]; simpa using hi)]
theorem run_litSem {t : TypeId} {len : Nat} {l : List (Nat × Value)} {e : TypeId} {cells : List Value} (h : litB P t len l = some (e, cells)) (w : World) : (litSem t len l.toArray).run P w = .ok (e, cells.toArray) w := by
 unfold litB at h
 split at h
 ·rename_i e' he
  split at h
  ·rename_i i hi
   split at h
   ·rename_i z hz
    split at h
    ·rename_i h1 h2
     have h1 := Nat.eq_of_beq_eq_true h1
     have h2 := Nat.le_of_ble_eq_true h2
     split at h
     ·rename_i cells' hc
      simp only [Option.some.injEq, Prod.mk.injEq] at h
      obtain ⟨rfl, rfl⟩ := h
      have hs : sizeB P e' = some i.size := by simp [sizeB, hi]
      have hf := fill_eq l hc
      unfold litSem
      rw [Sem.run_bind, run_underlying he]
      simp only [Result.andThen_ok]
      rw [Sem.run_bind, run_sizeOf hs w]
      simp only [Result.andThen_ok]
      rw [if_neg (by omega)]
      by_cases h0 : len * i.size = 0
      ·simp only [h0, if_true, pure_bind]
       have hr : repB z.cells.toList len = [] := by
        apply List.eq_nil_of_length_eq_zero
        rw [repB_length]; simpa [h1] using h0
       rw [hr] at hf
       have e0 : (Array.range 0).map (fun x => (#[] : Array Value)[x % (#[] : Array Value).size]!) = ([] : List Value).toArray := by
        apply Array.ext'; simp
       simp only [e0, hf]
       simp
      ·simp only [h0, if_false, bind_assoc, pure_bind]
       have := rep_eq z len (by rw [h1]; omega)
       rw [h1] at this
       rw [Sem.run_bind, run_zero hi hz w]
       simp only [Result.andThen_ok, h1, this, hf]
       rfl
     ·cases h
    ·cases h
   ·cases h
  ·cases h
 ·cases h
end
section
variable {P : Program} {w0 : World} {M : Nat → Prop} {V0 : View} {n : Nat} {st : St} {V : View} {a : Act} {w : World}
theorem Inv.boxAt (h : Inv w0 M V0 n st V a w) {id b : Nat} {t : TypeId} {cells : List Value} (hm : st.mem id = some (.box b t cells)) :
  w.heap[b]? = some (.cells cells.toArray t (0, 0)) ∧ ∀ o, V b o = none := h.mp.ok id _ hm
theorem cell_box {b : Nat} {t : TypeId} {cells : List Value} (hg : w.heap[b]? = some (.cells cells.toArray t (0, 0))) (i : Nat) : w.cell? ⟨b, i, none⟩ = cells[i]? := by
 rw [cell_of_row w b i _ _ _ hg]; simp
theorem Inv.own (h : Inv w0 M V0 n st V a w) {x : Operand} {id off : Nat} (hx : X.opd st.env x = some (.own id off)) :
  ∃ b t cells, st.mem id = some (.box b t cells) ∧ a.eval x = .pointer (some ⟨b, off, none⟩) := by
 have := h.opd hx
 unfold toVal at this
 simp only at this
 split at this
 ·rename_i b t cells hm
  exact ⟨b, t, cells, hm, (Option.some.inj this).symm⟩
 ·cases this
theorem Inv.v (h : Inv w0 M V0 n st V a w) {x : Operand} {u : Value} (hx : X.opd st.env x = some (.v u)) : a.eval x = u := by
 have := h.opd hx
 exact (Option.some.inj this).symm
theorem Inv.kb (h : Inv w0 M V0 n st V a w) {x : Operand} {b : Bool} (hx : X.opd st.env x = some (.kb b)) : a.eval x = .bool b := by
 have := h.opd hx
 exact (Option.some.inj this).symm
theorem map_toArray_eq {α β : Type} {f : α → β} {xs : Array α} {l : List β} (h : xs.toList.map f = l) : xs.map f = l.toArray := by
 subst h; apply Array.ext'; simp
theorem run_resolve_func {c : Call} {f : Operand} {type : TypeId} {fn : Fn} {first captured args : Array Value} (hc : c.callee = .value f) (hf : a.eval f = .func fn first captured) (ha : c.args.map a.eval = args) :
  (resolve a.eval c type).run P w = .ok { target := .fn fn captured, args := first ++ args } w := by
 unfold resolve
 rw [ha, hc]
 simp only [hf, Deferred.ofValue]
 rfl
theorem foldl_push' : ∀ (r : List UInt8) (s : ByteArray), (r.map fun b => ((b.toNat : Nat) : Int)).foldl (fun r n => r.push (UInt8.ofNat n.toNat)) s = ⟨(s.data.toList ++ r).toArray⟩
 | [], s => by cases s; simp
 | b :: r, s => by
  simp only [List.map_cons, List.foldl_cons]
  rw [foldl_push' r]
  simp [ByteArray.push]
theorem run_bytes (r : List UInt8) (a : Addr) (len cap : Nat) (hl : (loadCells a len).run P w = .ok (u8L r).toArray w) : (Conv.bytesToString (.slice (some a) len cap)).run P w = .ok (.string ⟨⟨r⟩⟩) w := by
 have := run_bytesToString (P := P) w a len cap (r.map fun b => ((b.toNat : Nat) : Int)) (by rw [hl]; simp [u8L, Function.comp_def])
 rw [this, foldl_push']
 simp
theorem append_types {t t' ty e : TypeId} (hu : P.underlying t = some (.slice e)) (hb : appTy P t t' = true) (s x : Value) (w : World) : (Builtin.append_ #[t, t'] ty #[s, x]).run P w = (Builtin.append_ #[t, t] ty #[s, x]).run P w := by
 unfold appTy at hb
 split at hb
 ·rename_i h
  rw [Nat.eq_of_beq_eq_true h]
 ·split at hb
  ·rename_i e' hu'
   cases s <;> simp [Builtin.append_, run_underlying hu, run_underlying hu']
  ·rename_i hu'
   cases s <;> simp [Builtin.append_, run_underlying hu, run_underlying hu']
  ·cases hb
theorem effOf_sound (h : Inv w0 M V0 n st V a w) (o : Oper) : EffSem P o st V a w (effOf P o st) := by
 obtain ⟨dst, op, type, pos, after, guard⟩ := o
 cases op
 case move x =>
  simp only [effOf]
  split
  ·rename_i s hs; exact ⟨_, h.opd hs, rfl⟩
  ·trivial
 case assign x =>
  simp only [effOf]
  split
  ·rename_i s hs; exact ⟨_, h.opd hs, rfl⟩
  ·trivial
 case pick c x y =>
  simp only [effOf]
  split
  ·rename_i hc
   split
   ·rename_i s hs; exact ⟨_, h.opd hs, by simp [execOp, h.kb hc, asBool]⟩
   ·trivial
  ·rename_i hc
   split
   ·rename_i s hs; exact ⟨_, h.opd hs, by simp [execOp, h.kb hc, asBool]⟩
   ·trivial
  ·rename_i b hc
   split
   ·rename_i s t hs ht; exact ⟨_, _, h.opd hs, h.opd ht, by simp [execOp, h.v hc, asBool]⟩
   ·trivial
  ·trivial
 case box t x =>
  simp only [effOf]
  split
  ·rename_i v hv
   simp only [EffSem, execOp, h.val hv, Instr.box, newVar, newRow, newObj]
   simp [Sem.run]
  ·trivial
 case alloc t =>
  simp only [effOf]
  split
  ·rename_i i hi
   split
   ·rename_i z hz
    simp only [EffSem, execOp, Instr.alloc, zeroValue, typeInfo, program]
    simp [Sem.run, hi, hz, newVar, newRow, newObj]
   ·trivial
  ·trivial
 case load t x =>
  simp only [effOf]
  split
  ·rename_i id off hx
   obtain ⟨b, ty, cells, hm, he⟩ := h.own hx
   split
   ·rename_i b' ty' cells' z hm' hz
    rw [hm] at hm'
    simp only [Option.some.injEq, Res.box.injEq] at hm'
    obtain ⟨rfl, rfl, rfl⟩ := hm'
    split
    ·rename_i v hv
     split
     ·rename_i hl
      refine ⟨v, rfl, ?_⟩
      have hl' := Nat.eq_of_beq_eq_true hl
      have hg := (h.boxAt hm).1
      have := run_loadVar (P := P) (w := w) (b := b) (off := off) hz hl' (fun i y hy => by
       rw [cell_box hg]
       rw [List.getElem?_take] at hy
       split at hy
       ·rwa [List.getElem?_drop] at hy
       ·cases hy) hv
      simp [execOp, he, Instr.loadAt, Instr.sureAddr, this]
     ·trivial
    ·trivial
   ·trivial
  ·rename_i b off hx
   split
   ·rename_i z hz
    intro l v hl hV hv
    have hcells : ∀ i y, l[i]? = some y → w.cell? ⟨b, off + i, none⟩ = some y := fun i y hy => by
     rcases hV with hV | ⟨id, t', cells, hm, hle, rfl⟩
     ·exact h.mp.sub _ _ _ (hV i y hy)
     ·rw [cell_box (h.boxAt hm).1]
      rw [List.getElem?_take] at hy
      split at hy
      ·rwa [List.getElem?_drop] at hy
      ·cases hy
    have := run_loadVar (P := P) (w := w) (b := b) (off := off) hz hl hcells hv
    simp [execOp, h.v hx, Instr.loadAt, Instr.sureAddr, this]
   ·trivial
  ·trivial
 case store t x y =>
  simp only [effOf]
  split
  ·rename_i id off v z hx hy hz
   split
   ·rename_i hl h1
    intro b ty old hm hle
    obtain ⟨b', ty', old', hm', he⟩ := h.own hx
    rw [hm] at hm'
    simp only [Option.some.injEq, Res.box.injEq] at hm'
    obtain ⟨rfl, rfl, rfl⟩ := hm'
    have := run_storeVar (P := P) (v := v) (off := off) (h.boxAt hm).1 (by rw [Nat.eq_of_beq_eq_true hl]; exact hz) h1 hle
    simp [execOp, he, h.val hy, Instr.storeAt, Instr.sureAddr, this]
   ·trivial
  ·rename_i b off v z hx hy hz
   split
   ·rename_i hl h1
    intro id ty old hm hle
    have := run_storeVar (P := P) (v := v) (off := off) (h.boxAt hm).1 (by rw [Nat.eq_of_beq_eq_true hl]; exact hz) h1 hle
    simp [execOp, h.v hx, h.val hy, Instr.storeAt, Instr.sureAddr, this]
   ·trivial
  ·trivial
 case fieldAddr s x f =>
  simp only [effOf]
  have hplace : ∀ (k : Nat) (b off : Nat), fieldOff P s f = some k → (Instr.fieldAt s (.pointer (some ⟨b, off, none⟩)) f).run P w = .ok (.pointer (some ⟨b, off + k, none⟩)) w := by
   intro k b off hk
   unfold fieldOff at hk
   split at hk
   ·rename_i fs hfs
    split at hk
    ·rename_i x' hx'
     split at hk
     ·cases hk
     ·rename_i z hne hz
      simp only [Option.some.injEq] at hk
      subst hk
      have hz0 : z ≠ 0 := fun e => hne e
      simp [Instr.fieldAt, run_underlying hfs, hx', Instr.sureAddr, fieldPlace, run_sizeOf hz, hz0, add_lit]
     ·cases hk
    ·cases hk
   ·cases hk
  split
  ·rename_i id off k hx hk
   obtain ⟨b, ty, cells, hm, he⟩ := h.own hx
   refine ⟨.pointer (some ⟨b, off + k, none⟩), by simp [toVal, hm], ?_⟩
   simp [execOp, he, hplace k b off hk]
  ·rename_i b off k hx hk
   refine ⟨_, rfl, ?_⟩
   simp [execOp, h.v hx, hplace k b off hk]
  ·trivial
 case indexAddr t x i =>
  simp only [effOf]
  split
  ·rename_i e he
   split
   ·rename_i base len cap k m z hx hi hz
    intro b off hb h0 hl
    subst hb
    simp only [execOp, h.val hx, h.val hi]
    simp [Instr.indexAt, asIntOf, run_underlying he, run_sizeOf hz, h0, hl, add_lit]
   ·trivial
  ·rename_i len e he
   have hplace : ∀ (k : IntKind) (m b off z : Nat), sizeB P e = some z → Nat.blt m len = true → (Instr.indexAt t (.pointer (some ⟨b, off, none⟩)) (.int k (.ofNat m))).run P w = .ok (.pointer (some ⟨b, off + m * z, none⟩)) w := by
    intro k m b off z hz hl
    have hl : m < len := Nat.le_of_ble_eq_true hl
    have h0 : (0 : Int) ≤ Int.ofNat m ∧ Int.ofNat m < (len : Int) := ⟨Int.natCast_nonneg m, by simpa using hl⟩
    simp only [Instr.indexAt, asIntOf, Sem.run_bind, Sem.run_pure, Result.andThen_ok, run_underlying he, Instr.sureAddr, pure_bind, h0, and_self, if_true, run_sizeOf hz, add_lit, Int.toNat_natCast, Int.ofNat_eq_natCast]
    simp [run_underlying he, run_sizeOf hz, add_lit, hl]
   split
   ·rename_i id off k m z hx hi hz
    split
    ·rename_i hl
     obtain ⟨b, ty, cells, hm, hev⟩ := h.own hx
     refine ⟨.pointer (some ⟨b, off + m * z, none⟩), by simp [toVal, hm], ?_⟩
     simp only [execOp, hev, h.val hi]
     rw [Sem.run_bind, hplace k m b off z hz hl]; rfl
    ·trivial
   ·rename_i b off k m z hx hi hz
    split
    ·rename_i hl
     refine ⟨_, rfl, ?_⟩
     simp only [execOp, h.v hx, h.val hi]
     rw [Sem.run_bind, hplace k m b off z hz hl]; rfl
    ·trivial
   ·trivial
  ·trivial
 case binOp op t x y yt =>
  simp only [effOf]
  split
  ·rename_i u v hu hv
   split
   ·intro x hx
    simp only [execOp, h.val hu, h.val hv]
    rw [Sem.run_bind, hx w]; rfl
   ·refine EffSem.pureVal ?_
    simp only [execOp, h.val hu, h.val hv]
  ·trivial
 case unOp op t x =>
  simp only [effOf]
  split
  ·rename_i u hu
   refine EffSem.pureVal ?_
   simp only [execOp, h.val hu]
  ·trivial
 case convert s d x =>
  simp only [effOf]
  split
  ·rename_i hd
   split
   ·rename_i base n c hv
    split
    ·rename_i e hs
     split
     ·rename_i he
      split
      ·rename_i b off
       intro l v hl hV hst
       unfold strOf at hst
       split at hst
       ·rename_i r hr
        cases hst
        have hlr := u8V_spec hr
        have hcells : (loadCells ⟨b, off, none⟩ n).run P w = .ok (u8L r).toArray w := by
         rw [← hl, hlr]
         refine run_loadCells_list w _ _ fun i y hy => ?_
         rw [add_lit]
         rw [← hlr] at hy
         rcases hV with hV | ⟨id, t', cells, hm, hle, rfl⟩
         ·exact h.mp.sub _ _ _ (hV i y hy)
         ·rw [cell_box (h.boxAt hm).1]
          rw [List.getElem?_take] at hy
          split at hy
          ·rwa [List.getElem?_drop] at hy
          ·cases hy
        have hb := run_bytes (P := P) (w := w) r ⟨b, off, none⟩ n c hcells
        simp [execOp, h.val hv, convert, run_underlying hs, run_underlying hd, run_underlying he, hb]
       ·cases hst
      ·refine ⟨_, rfl, ?_⟩
       simp [execOp, h.val hv, convert, run_underlying hs, run_underlying hd, run_underlying he, Conv.bytesToString]
       rfl
      ·trivial
     ·trivial
    ·trivial
   ·rename_i u _ hu
    refine EffSem.pureVal ?_
    simp only [execOp, h.val hu]
   ·trivial
  ·split
   ·rename_i u hu
    refine EffSem.pureVal ?_
    simp only [execOp, h.val hu]
   ·trivial
 case makeInterface t x =>
  simp only [effOf]
  split
  ·rename_i u hu
   refine EffSem.pureVal ?_
   simp only [execOp, h.val hu]
  ·trivial
 case extract t i =>
  simp only [effOf]
  split
  ·rename_i u hu
   refine EffSem.pureVal ?_
   simp only [execOp, h.val hu]
  ·trivial
 case field t x f =>
  simp only [effOf]
  split
  ·rename_i u hu
   refine EffSem.pureVal ?_
   simp only [execOp, h.val hu]
  ·trivial
 case index t x i =>
  simp only [effOf]
  split
  ·rename_i ht
   split
   ·rename_i u v hu hv
    intro x hx
    simp only [execOp, h.val hu, h.val hv]
    rw [Sem.run_bind, hx w]; rfl
   ·trivial
  ·split
   ·rename_i u v hu hv
    refine EffSem.pureVal ?_
    simp only [execOp, h.val hu, h.val hv]
   ·trivial
 case build t ps =>
  simp only [effOf]
  split
  ·rename_i l hl
   split
   ·rename_i cells hc
    refine ⟨_, rfl, ?_⟩
    simp only [execOp]
    rw [map_toArray_eq (h.parts hl), Sem.run_bind, run_build hc w]; rfl
   ·trivial
  ·trivial
 case buildSlice t len ps =>
  simp only [effOf]
  split
  ·rename_i l hl
   split
   ·rename_i e cells hc
    simp only [EffSem, execOp]
    rw [map_toArray_eq (h.parts hl), buildSlice_eq]
    simp [run_litSem hc w, newRow, newObj, Sem.run]
   ·trivial
  ·trivial
 case slice t x lo hi mx =>
  simp only [effOf]
  split
  ·rename_i u p q r hu hp hq hr
   intro x hx
   simp only [execOp, h.val hu, h.optv hp, h.optv hq, h.optv hr]
   rw [Sem.run_bind, hx w]; rfl
  ·trivial
 case makeFunc fn first captured =>
  simp only [effOf]
  split
  ·rename_i x y hx hy
   refine ⟨_, rfl, ?_⟩
   simp only [execOp, map_toArray_eq (h.vals hx), map_toArray_eq (h.vals hy)]
   rfl
  ·trivial
 case nilCheck x =>
  simp only [effOf]
  split
  ·rename_i id off hx
   obtain ⟨b, ty, cells, hm, he⟩ := h.own hx
   refine ⟨.pointer (some ⟨b, off, none⟩), by simp only [toVal, hm], ?_⟩
   simp only [execOp, he]
   rfl
  ·rename_i ad hx
   refine ⟨_, rfl, ?_⟩
   simp only [execOp, h.v hx]
   rfl
  ·trivial
 case call c =>
  simp only [effOf]
  split
  ·rename_i f hc
   split
   ·rename_i g first captured args hf ha
    split
    ·rename_i hok
     simp only [EffSem, execOp]
     rw [Sem.run_bind, run_resolve_func hc (h.val hf) (map_toArray_eq (h.vals ha))]
     simp only [Result.andThen_ok, invoke]
     rw [callOk_spec hok]
     congr 2
     apply Array.ext'
     simp
    ·trivial
   ·trivial
  ·rename_i hc
   split
   ·rename_i s x t t' hargs htypes
    split
    ·rename_i e hbt hu
     split
     ·rename_i i hi
      split
      ·rename_i z hz
       split
       ·rename_i sv xv hzs hsz hs hx
        have hsz : Nat.ble 1 i.size = true := hsz
        refine ⟨t, i, z, _, h.opd hs, hu, hi, hz, rfl, rfl, Nat.eq_of_beq_eq_true hzs, Nat.le_of_ble_eq_true hsz, ?_⟩
        have ha : c.args.map a.eval = #[a.eval s, a.eval x] := by
         apply Array.ext'; simp [hargs]
        have ht : c.argTypes = #[t, t'] := by
         apply Array.ext'; simp [htypes]
        rw [← append_types hu hbt]
        simp only [execOp, resolve, hc, ha, ht, pure_bind, invoke, builtin, h.val hx]
        rw [Sem.run_bind]
        rfl
       ·trivial
      ·trivial
     ·trivial
    ·trivial
   ·trivial
  ·rename_i hc
   split
   ·rename_i l hl
    refine EffSem.pureVal ?_
    simp only [execOp, resolve, hc, map_toArray_eq (h.vals hl), pure_bind]
    rfl
   ·trivial
  ·rename_i hc
   split
   ·rename_i l hl
    refine EffSem.pureVal ?_
    simp only [execOp, resolve, hc, map_toArray_eq (h.vals hl), pure_bind]
    rfl
   ·trivial
  ·rename_i hc
   split
   ·rename_i l hl
    intro x hx
    simp only [execOp, resolve, hc, map_toArray_eq (h.vals hl), pure_bind, invoke, builtin]
    rw [Sem.run_bind, hx w]; rfl
   ·trivial
  ·rename_i hc
   split
   ·rename_i l hl
    intro x hx
    simp only [execOp, resolve, hc, map_toArray_eq (h.vals hl), pure_bind, invoke, builtin]
    rw [Sem.run_bind, hx w]; rfl
   ·trivial
  ·trivial
 all_goals exact trivial
end
end Go.X
end

section
namespace Go.X
open Go.RowKit
section
variable {P : Program} {w0 : World} {M : Nat → Prop} {V0 : View} {n : Nat} {st : St} {V : View} {a : Act} {w : World}
theorem blk_lt {r : Res} {b : Nat} (h : r.ok w V) (hb : r.blk = some b) : b < w.heap.size := by
 cases r with
 | box b' t cells =>
  simp only [Res.blk, Option.some.injEq] at hb; subst hb
  exact (Array.getElem?_eq_some_iff.1 h.1).1
 | row v t size k =>
  rcases h with ⟨base, rfl, _⟩ | ⟨g, cap, cur, rfl, h0, hg, _⟩
  ·cases base <;> simp [Res.blk, rowBlk] at hb
  ·simp only [Res.blk, rowBlk, h0, if_false, Option.some.injEq] at hb; subst hb
   exact (Array.getElem?_eq_some_iff.1 hg).1
theorem row_off {v : Value} {t : TypeId} {size k : Nat} (h : (Res.row v t size k).ok w V) : ∀ a k c, v = .slice (some a) k c → c ≠ 0 → a.off = 0 := by
 rintro a k c rfl h0
 rcases h with ⟨b, he, _⟩ | ⟨g, cap, cur, he, _⟩
 ·simp only [Value.slice.injEq] at he; exact absurd he.2.2 h0
 ·simp only [Value.slice.injEq, Option.some.injEq] at he; rw [he.1]
theorem sub_lt (h : Sub V w) {b o : Nat} {v : Value} (hv : V b o = some v) : b < w.heap.size := by
 have := h b o v hv
 unfold World.cell? at this
 split at this
 ·rename_i hb; exact (Array.getElem?_eq_some_iff.1 hb).1
 ·cases this
theorem Res.ok.keep {r : Res} {V' : View} {w' : World} (h : r.ok w V) (hb : ∀ b, r.blk = some b → w'.heap[b]? = w.heap[b]?) (hV : ∀ b, r.blk = some b → ∀ o, V b o = none → V' b o = none) : r.ok w' V' := by
 cases r with
 | box b t cells => exact ⟨(hb b rfl).trans h.1, fun o => hV b rfl o (h.2 o)⟩
 | row v t size k =>
  rcases h with h | ⟨g, cap, cur, rfl, h0, hg, h1, h2, h3, h4⟩
  ·exact .inl h
  ·have hbg : (Res.row (.slice (some ⟨g, 0, none⟩) k cap) t size k).blk = some g := by simp [Res.blk, rowBlk, h0]
   exact .inr ⟨g, cap, cur, rfl, h0, (hb g hbg).trans hg, h1, h2, h3, fun o ho => hV g hbg o (h4 o ho)⟩
theorem cell_keep {w' : World} {b o : Nat} (h : w'.heap[b]? = w.heap[b]?) : w'.cell? ⟨b, o, none⟩ = w.cell? ⟨b, o, none⟩ := World.cell?_of_block (w := w) (a := ⟨b, o, none⟩) h
theorem alloc_old (w : World) (o : Obj) {k : Nat} (h : k < w.heap.size) : (w.alloc o).heap[k]? = w.heap[k]? := Below.heap_alloc w o k h
theorem MPre.alloc {mem : Nat → Option Res} (h : MPre mem V w) (o : Obj) : MPre mem V (w.alloc o) :=
  ⟨fun b k v hv => by rw [cell_keep (alloc_old w o (sub_lt h.sub hv))]; exact h.sub b k v hv,
   fun i r hr => (h.ok i r hr).keep (fun b hb => alloc_old w o (blk_lt (h.ok i r hr) hb)) (fun _ _ _ hx => hx), h.apart⟩
theorem Thawed.alloc {w : World} {k : Nat} {o : Obj} (ho : ∀ c t fr, o = .cells c t fr → fr = (0, 0)) (h : k < w.heap.size → Thawed w k) : Thawed (w.alloc o) k := by
 by_cases hk : k < w.heap.size
 ·exact (h hk).same (alloc_old w o hk)
 ·by_cases he : k = w.heap.size
  ·subst he
   exact fun c t fr hc => ho c t fr (by rw [heap_alloc_new] at hc; exact Option.some.inj hc)
  ·exact Thawed.out (by rw [Nat.not_lt]; simp; omega)
theorem Kept.alloc (h : Kept M w0 w) (o : Obj) (ho : ∀ c t fr, o = .cells c t fr → fr = (0, 0) := by intro _ _ _ h; cases h; rfl) : Kept M w0 (w.alloc o) :=
 h.trans ⟨rfl, rfl, rfl, by simp, fun k hk _ => alloc_old w o hk⟩
theorem Thawed.setRow {w : World} {g k : Nat} {old cs : Array Value} {t : TypeId} (hg : w.heap[g]? = some (.cells old t (0, 0))) (h : Thawed w k) : Thawed (w.setRow g cs) k := by
 by_cases e : k = g
 ·subst e; exact Thawed.at (setRow_heap w k _ cs t _ hg)
 ·exact h.same (setRow_other w g k cs e)
theorem Thawed.setRow' {w : World} {g : Nat} {old cs : Array Value} {t : TypeId} (hg : w.heap[g]? = some (.cells old t (0, 0))) (k : Nat) (h : k < w.heap.size → Thawed w k) : Thawed (w.setRow g cs) k :=
 if hk : k < w.heap.size then Thawed.setRow hg (h hk) else Thawed.out (by simpa [World.setRow] using hk)
theorem newBlk_none (h : Sub V w) (k : Nat) : V w.heap.size k = none := by
 cases hv : V w.heap.size k with
 | none => rfl
 | some v => exact absurd (sub_lt h hv) (Nat.lt_irrefl _)
theorem Inv.newBox (h : Inv w0 M V0 n st V a w) {d : Nat} (hd : d < n) (t : TypeId) (cells : List Value) :
  Inv w0 M V0 n (st.newBox d (.box w.heap.size t cells)) V (a.put (some d) (.pointer (some ⟨w.heap.size, 0, none⟩))) (w.alloc (.cells cells.toArray t)) := by
 have hmem : (st.newBox d (.box w.heap.size t cells)).mem = upd st.mem d (.box w.heap.size t cells) := by
  unfold St.newBox; split <;> rfl
 have hother : ∀ i r, i ≠ d → st.mem i = some r → r.blk ≠ some w.heap.size := fun i r _ hr hb => absurd (blk_lt (h.mp.ok i r hr) hb) (Nat.lt_irrefl _)
 refine ⟨h.defers, by simp [Act.put, h.size], ?_, ⟨?_, ?_, ?_⟩, h.kept.alloc _, h.grows, ?_⟩
 ·intro k s hk
  simp only [Act.put, getD_set, h.size]
  by_cases hkd : k = d
  ·subst hkd
   have : s = .own k 0 := by
    unfold St.newBox at hk
    split at hk <;> simp only [upd_same, Option.some.injEq] at hk <;> exact hk.symm
   subst this
   rw [if_pos ⟨rfl, hd⟩, hmem]
   simp [toVal, upd_same]
  ·rw [if_neg (fun e => hkd e.1), hmem]
   have key : ∀ s, st.env k = some s → (∀ i, (s = .row i ∨ ∃ o, s = .own i o) → i ≠ d) → toVal (upd st.mem d (.box w.heap.size t cells)) s = some (a.tmps.getD k undef) := by
    intro s hs hi
    have := h.env k s hs
    cases s with
    | v x => exact this
    | kb b => exact this
    | own i o => simp only [toVal, upd_ne _ _ (hi i (.inr ⟨o, rfl⟩))]; exact this
    | row i => simp only [toVal, upd_ne _ _ (hi i (.inl rfl))]; exact this
   unfold St.newBox at hk
   split at hk
   ·rename_i hnone
    simp only [upd_ne _ _ hkd] at hk
    refine key s hk (fun i hi e => ?_)
    have := h.env k s hk
    rcases hi with rfl | ⟨o, rfl⟩ <;> (subst e; simp [toVal, hnone] at this)
   ·simp only [upd_ne _ _ hkd] at hk
    split at hk
    ·rename_i i o hs
     split at hk
     ·cases hk
     ·rename_i hne
      simp only [Option.some.injEq] at hk
      subst hk
      refine key _ hs (fun j hj e => ?_)
      rcases hj with hj | ⟨o', hj⟩
      ·cases hj
      ·injection hj with h1 h2
       subst h1; subst e
       rw [Nat.beq_refl] at hne; cases hne
    ·rename_i i hs
     split at hk
     ·cases hk
     ·rename_i hne
      simp only [Option.some.injEq] at hk
      subst hk
      refine key _ hs (fun j hj e => ?_)
      rcases hj with hj | ⟨o', hj⟩
      ·injection hj with h1
       subst h1; subst e
       rw [Nat.beq_refl] at hne; cases hne
      ·cases hj
    ·rename_i hx1 hx2
     refine key s hk (fun i hi _ => ?_)
     rcases hi with rfl | ⟨o, rfl⟩
     ·exact hx2 _ hk
     ·exact hx1 _ _ hk
 ·exact (h.mp.alloc _).sub
 ·intro i r hr
  rw [hmem] at hr
  by_cases hid : i = d
  ·subst hid
   rw [upd_same, Option.some.injEq] at hr
   subst hr
   exact ⟨heap_alloc_new w _, fun o => newBlk_none h.mp.sub o⟩
  ·rw [upd_ne _ _ hid] at hr
   exact (h.mp.alloc _).ok i r hr
 ·intro i j r r' b hij hi hj hb hb'
  rw [hmem] at hi hj
  by_cases hid : i = d
  ·subst hid
   rw [upd_same, Option.some.injEq] at hi
   subst hi
   simp only [Res.blk, Option.some.injEq] at hb
   subst hb
   rw [upd_ne _ _ (Ne.symm hij)] at hj
   exact hother j r' (Ne.symm hij) hj hb'
  ·rw [upd_ne _ _ hid] at hi
   by_cases hjd : j = d
   ·subst hjd
    rw [upd_same, Option.some.injEq] at hj
    subst hj
    simp only [Res.blk, Option.some.injEq] at hb'
    subst hb'
    exact hother i r hid hi hb
   ·rw [upd_ne _ _ hjd] at hj
    exact h.mp.apart i j r r' b hij hi hj hb hb'
 ·intro b hb
  obtain ⟨i, r, hr, hrb⟩ := hb
  rw [hmem] at hr
  by_cases hid : i = d
  ·subst hid
   rw [upd_same, Option.some.injEq] at hr
   subst hr
   simp only [Res.blk, Option.some.injEq] at hrb
   subst hrb
   exact .inr h.kept.size
  ·rw [upd_ne _ _ hid] at hr
   exact h.new b ⟨i, r, hr, hrb⟩
end
section
variable {P : Program} {w0 : World} {M : Nat → Prop} {V0 : View} {n : Nat} {st : St} {V : View} {a : Act} {w : World}
def View.add (V : View) (b : Nat) (cells : List Value) : View := fun k o => if k = b then cells[o]? else V k o
theorem View.add_le {V : View} {b : Nat} {cells : List Value} (h : ∀ o, V b o = none) : V.le (V.add b cells) := by
 intro k o v hv
 unfold View.add
 by_cases hk : k = b
 ·subst hk; rw [h o] at hv; cases hv
 ·rw [if_neg hk]; exact hv
theorem View.add_has {V : View} {b : Nat} {cells : List Value} : (V.add b cells).has b 0 cells := by
 intro i v hi
 simp [View.add, hi]
theorem Inv.newRow (h : Inv w0 M V0 n st V a w) {dst : Option Nat} (hd : ∀ d, dst = some d → d < n) (e : TypeId) (cells : List Value) (len : Nat) :
  Inv w0 M V0 n (st.put dst (.v (.slice (some ⟨w.heap.size, 0, none⟩) len len))) (V.add w.heap.size cells) (a.put dst (.slice (some ⟨w.heap.size, 0, none⟩) len len)) (w.alloc (.cells cells.toArray e)) := by
 have h1 : Inv w0 M V0 n st (V.add w.heap.size cells) a (w.alloc (.cells cells.toArray e)) := by
  refine ⟨h.defers, h.size, h.env, ⟨?_, ?_, h.mp.apart⟩, h.kept.alloc _, ⟨View.le_trans h.grows.1 (View.add_le (newBlk_none h.mp.sub)), ?_⟩, h.new⟩
  ·intro b o v hv
   unfold View.add at hv
   by_cases hb : b = w.heap.size
   ·subst hb
    rw [if_pos rfl] at hv
    rw [cell_of_row _ _ _ _ _ _ (heap_alloc_new w _)]
    simpa using hv
   ·rw [if_neg hb] at hv
    exact (h.mp.alloc _).sub b o v hv
  ·intro i r hr
   refine (h.mp.ok i r hr).keep (fun b hb => alloc_old w _ (blk_lt (h.mp.ok i r hr) hb)) (fun b hb o hV => ?_)
   have hlt := blk_lt (h.mp.ok i r hr) hb
   unfold View.add
   rw [if_neg (by omega)]
   exact hV
  ·intro b o v hv
   unfold View.add at hv
   by_cases hb : b = w.heap.size
   ·subst hb; exact .inr (.inl h.kept.size)
   ·rw [if_neg hb] at hv; exact h.grows.2 b o v hv
 exact h1.put hd rfl
theorem length_setAt : ∀ (old : List Value) (off : Nat) (cells : List Value), (setAt old off cells).length = old.length
 | old, off, [] => by cases old <;> simp [setAt]
 | [], off, x :: xs => by simp [setAt]
 | y :: r, 0, x :: xs => by simp [setAt, length_setAt r 0 xs]
 | y :: r, off + 1, x :: xs => by simp [setAt, length_setAt r off (x :: xs)]
theorem Inv.store (h : Inv w0 M V0 n st V a w) {id b : Nat} {t : TypeId} {old new : List Value} (hm : st.mem id = some (.box b t old)) :
  Inv w0 M V0 n ⟨st.env, upd st.mem id (.box b t new)⟩ V a (w.setRow b new.toArray) := by
 have hg := (h.boxAt hm).1
 have hlt : b < w.heap.size := (Array.getElem?_eq_some_iff.1 hg).1
 have hsize : (w.setRow b new.toArray).heap.size = w.heap.size := by simp [World.setRow]
 have hob : ∀ i r k, i ≠ id → st.mem i = some r → r.blk = some k → k ≠ b := fun i r k hi hr hk e => h.mp.apart i id r _ k hi hr hm hk (by simp [Res.blk, e])
 have hval : ∀ s, toVal (upd st.mem id (.box b t new)) s = toVal st.mem s := by
  intro s
  cases s with
  | v x => rfl
  | kb x => rfl
  | own i o =>
   by_cases hi : i = id
   ·subst hi; simp [toVal, upd_same, hm]
   ·simp [toVal, upd_ne _ _ hi]
  | row i =>
   by_cases hi : i = id
   ·subst hi; simp [toVal, upd_same, hm]
   ·simp [toVal, upd_ne _ _ hi]
 have hbl : ∀ i r, upd st.mem id (.box b t new) i = some r → ∃ r', st.mem i = some r' ∧ r'.blk = r.blk := by
  intro i r hr
  by_cases hi : i = id
  ·subst hi
   rw [upd_same, Option.some.injEq] at hr; subst hr
   exact ⟨_, hm, rfl⟩
  ·rw [upd_ne _ _ hi] at hr; exact ⟨r, hr, rfl⟩
 refine ⟨h.defers, h.size, fun k s hk => by rw [hval]; exact h.env k s hk, ⟨?_, ?_, ?_⟩, ⟨h.kept.os, h.kept.tape, h.kept.output, by rw [hsize]; exact h.kept.size, ?_⟩, h.grows, ?_⟩
 ·intro k o v hv
  have hkb : k ≠ b := fun e => by subst e; rw [(h.boxAt hm).2 o] at hv; cases hv
  rw [cell_keep (setRow_other w b k _ hkb)]
  exact h.mp.sub k o v hv
 ·intro i r hr
  have hr : upd st.mem id (.box b t new) i = some r := hr
  by_cases hi : i = id
  ·subst hi
   rw [upd_same, Option.some.injEq] at hr; subst hr
   exact ⟨setRow_heap w b _ _ t _ hg, (h.boxAt hm).2⟩
  ·rw [upd_ne _ _ hi] at hr
   exact (h.mp.ok i r hr).keep (fun k hk => setRow_other w b k _ (hob i r k hi hr hk)) (fun _ _ _ hx => hx)
 ·intro i j r r' k hij hi hj hk hk'
  obtain ⟨r1, h1, e1⟩ := hbl i r hi
  obtain ⟨r2, h2, e2⟩ := hbl j r' hj
  exact h.mp.apart i j r1 r2 k hij h1 h2 (e1.trans hk) (e2.trans hk')
 ·intro k hk hMk
  have hkb : k ≠ b := by
   rintro rfl
   rcases h.new k ⟨id, _, hm, rfl⟩ with h1 | h1
   ·exact hMk h1
   ·omega
  rw [setRow_other w b k _ hkb]
  exact h.kept.block k hk hMk
 ·intro k hk
  obtain ⟨i, r, hr, hrk⟩ := hk
  obtain ⟨r', hr', e⟩ := hbl i r hr
  exact h.new k ⟨i, r', hr', e.trans hrk⟩
theorem Inv.called (h : Inv w0 M V0 n st V a w) {mem' : Nat → Option Res} {V' : View} {w' : World} (hsame : ∀ t x, toVal st.mem t = some x → toVal mem' t = some x)
  (hp : MPre mem' V' w') (hk : Kept (blksM st.mem) w w') (hg : Grows (blksM st.mem) w.heap.size V V') (hn : ∀ b, blksM mem' b → blksM st.mem b ∨ w.heap.size ≤ b) :
  Inv w0 M V0 n ⟨st.env, mem'⟩ V' a w' := by
 refine ⟨h.defers, h.size, fun k s hs => hsame s _ (h.env k s hs), hp, ?_, ⟨View.le_trans h.grows.1 hg.1, ?_⟩, ?_⟩
 ·refine ⟨hk.os.trans h.kept.os, hk.tape.trans h.kept.tape, hk.output.trans h.kept.output, Nat.le_trans h.kept.size hk.size, fun k hk0 hMk => ?_⟩
  rw [hk.block k (Nat.lt_of_lt_of_le hk0 h.kept.size) (fun hb => ?_), h.kept.block k hk0 hMk]
  rcases h.new k hb with h1 | h1
  ·exact hMk h1
  ·omega
 ·intro b o v hv
  rcases hg.2 b o v hv with h1 | h1 | h1
  ·exact h.grows.2 b o v h1
  ·exact .inr (.inl (Nat.le_trans h.kept.size h1))
  ·rcases h.new b h1 with h2 | h2
   ·exact .inr (.inr h2)
   ·exact .inr (.inl h2)
 ·intro b hb
  rcases hn b hb with h1 | h1
  ·exact h.new b h1
  ·exact .inr (Nat.le_trans h.kept.size h1)
end
section
variable {P : Program} {w0 : World} {M : Nat → Prop} {V0 : View} {n : Nat} {st : St} {V : View} {a : Act} {w : World}
def SV.name : SV → Option Nat
 | .own i _ => some i
 | .row i => some i
 | _ => none
theorem demote_some {mem : Nat → Option Res} {g : Nat} {s s' : SV} (h : demote mem g s = some s') : (s' = s ∧ s.name ≠ some g) ∨ (s.name = some g ∧ ∃ v, toVal mem s = some v ∧ s' = .v v) := by
 cases s with
 | v x => simp only [demote, Option.some.injEq] at h; exact .inl ⟨h.symm, by simp [SV.name]⟩
 | kb x => simp only [demote, Option.some.injEq] at h; exact .inl ⟨h.symm, by simp [SV.name]⟩
 | own i o =>
  simp only [demote] at h
  split at h
  ·rename_i hb
   have := Nat.eq_of_beq_eq_true hb
   subst this
   split at h
   ·rename_i v hv
    simp only [Option.some.injEq] at h
    exact .inr ⟨rfl, v, hv, h.symm⟩
   ·cases h
  ·rename_i hb
   simp only [Option.some.injEq] at h
   refine .inl ⟨h.symm, fun e => ?_⟩
   simp only [SV.name, Option.some.injEq] at e; subst e
   rw [Nat.beq_refl] at hb; cases hb
 | row i =>
  simp only [demote] at h
  split at h
  ·rename_i hb
   have := Nat.eq_of_beq_eq_true hb
   subst this
   split at h
   ·rename_i v hv
    simp only [Option.some.injEq] at h
    exact .inr ⟨rfl, v, hv, h.symm⟩
   ·cases h
  ·rename_i hb
   simp only [Option.some.injEq] at h
   refine .inl ⟨h.symm, fun e => ?_⟩
   simp only [SV.name, Option.some.injEq] at e; subst e
   rw [Nat.beq_refl] at hb; cases hb
theorem purge_some {env : Nat → Option SV} {mem : Nat → Option Res} {g k : Nat} {s : SV} (h : purge env mem g k = some s) :
  ∃ s', env k = some s' ∧ ((s = s' ∧ s'.name ≠ some g) ∨ (s'.name = some g ∧ ∃ v, toVal mem s' = some v ∧ s = .v v)) := by
 unfold purge at h
 split at h
 ·rename_i s' hs; exact ⟨s', hs, demote_some h⟩
 ·cases h
theorem del_same {α : Type} (f : Nat → Option α) (d : Nat) : del f d d = none := by simp [del, Nat.beq_refl]
theorem del_ne {α : Type} (f : Nat → Option α) {d k : Nat} (h : k ≠ d) : del f d k = f k := by
 have : Nat.beq k d = false := by
  cases hb : Nat.beq k d with
  | false => rfl
  | true => exact absurd (Nat.eq_of_beq_eq_true hb) h
 simp [del, this]
theorem toVal_of {mem mem' : Nat → Option Res} {s : SV} (h : ∀ i, s.name = some i → mem' i = mem i) : toVal mem' s = toVal mem s := by
 cases s with
 | v x => rfl
 | kb b => rfl
 | own i o => simp only [toVal, h i rfl]
 | row i => simp only [toVal, h i rfl]
theorem Inv.forget (h : Inv w0 M V0 n st V a w) (g : Nat) : Inv w0 M V0 n (st.forget g) V a w := by
 have hm : ∀ i r, del st.mem g i = some r → st.mem i = some r := fun i r hr => by
  by_cases hi : i = g
  ·subst hi; rw [del_same] at hr; cases hr
  ·rwa [del_ne _ hi] at hr
 refine ⟨h.defers, h.size, fun k s hk => ?_, ⟨h.mp.sub, fun i r hr => h.mp.ok i r (hm i r hr), fun i j r r' b hij hi hj => h.mp.apart i j r r' b hij (hm i r hi) (hm j r' hj)⟩, h.kept, h.grows, ?_⟩
 ·obtain ⟨s', h1, h2⟩ := purge_some hk
  rw [← h.env k s' h1]
  rcases h2 with ⟨rfl, h2⟩ | ⟨_, v, hv, rfl⟩
  ·exact toVal_of fun i hi => del_ne _ (fun e => h2 (by rw [hi, e]))
  ·rw [hv]; rfl
 ·intro b ⟨i, r, hr, hb⟩
  exact h.new b ⟨i, r, hm i r hr, hb⟩
theorem Inv.change (h : Inv w0 M V0 n st V a w) {g : Nat} {w' : World} {V' : View} (hos : w'.os = w.os) (htape : w'.tape = w.tape) (hout : w'.output = w.output) (hdr : w.drawn ≤ w'.drawn) (hsize : w.heap.size ≤ w'.heap.size)
  (hblk : ∀ k, k < w.heap.size → k ≠ g → w'.heap[k]? = w.heap[k]?) (hfree : ∀ i r, st.mem i = some r → r.blk ≠ some g) (hg : M g ∨ w0.heap.size ≤ g)
  (hth : ∀ k, (k < w.heap.size → Thawed w k) → Thawed w' k) (hsub : Sub V' w') (hle : V.le V') (hnew : ∀ b o v, V' b o = some v → V b o = some v ∨ b = g) : Inv w0 M V0 n st V' a w' := by
 have hnone : ∀ b o, b ≠ g → V b o = none → V' b o = none := fun b o hb hV => by
  cases hv : V' b o with
  | none => rfl
  | some v =>
   rcases hnew b o v hv with h1 | h1
   ·rw [hV] at h1; cases h1
   ·exact absurd h1 hb
 refine ⟨h.defers, h.size, h.env, ⟨hsub, fun i r hr => ?_, h.mp.apart⟩, ⟨hos.trans h.kept.os, htape.trans h.kept.tape, hout.trans h.kept.output, Nat.le_trans h.kept.size hsize, fun k hk hMk => ?_⟩, ⟨View.le_trans h.grows.1 hle, ?_⟩, h.new⟩
 ·have hok := h.mp.ok i r hr
  exact hok.keep (fun b hb => hblk b (blk_lt hok hb) (fun e => hfree i r hr (by rw [hb, e]))) (fun b hb o hV => hnone b o (fun e => hfree i r hr (by rw [hb, e])) hV)
 ·have hkg : k ≠ g := fun e => by
   subst e
   rcases hg with h1 | h1
   ·exact hMk h1
   ·omega
  rw [hblk k (Nat.lt_of_lt_of_le hk h.kept.size) hkg]
  exact h.kept.block k hk hMk
 ·intro b o v hv
  rcases hnew b o v hv with h1 | h1
  ·exact h.grows.2 b o v h1
  ·subst h1
   rcases hg with h2 | h2
   ·exact .inr (.inr h2)
   ·exact .inr (.inl h2)
theorem Inv.addRow (h : Inv w0 M V0 n st V a w) {d : Nat} (hd : d < n) {v : Value} {e : TypeId} {size k : Nat} (hok : (Res.row v e size k).ok w V)
  (hfree : ∀ g, rowBlk v = some g → (∀ i r, i ≠ d → st.mem i = some r → r.blk ≠ some g) ∧ (M g ∨ w0.heap.size ≤ g)) :
  Inv w0 M V0 n ⟨upd (purge st.env st.mem d) d (.row d), upd st.mem d (.row v e size k)⟩ V (a.put (some d) v) w := by
 refine ⟨h.defers, by simp [Act.put, h.size], fun j s hj => ?_, ⟨h.mp.sub, fun i r hr => ?_, fun i j r r' b hij hi hj hb hb' => ?_⟩, h.kept, h.grows, ?_⟩
 ·simp only [Act.put, getD_set, h.size]
  by_cases hjd : j = d
  ·subst hjd
   simp only [upd_same, Option.some.injEq] at hj
   subst hj
   rw [if_pos ⟨rfl, hd⟩]
   simp [toVal, upd_same]
  ·rw [if_neg (fun e => hjd e.1)]
   simp only [upd_ne _ _ hjd] at hj
   obtain ⟨s', h1, h2⟩ := purge_some hj
   rw [← h.env j s' h1]
   rcases h2 with ⟨rfl, h2⟩ | ⟨_, x, hx, rfl⟩
   ·exact toVal_of fun i hi => upd_ne _ _ (fun e => h2 (by rw [hi, e]))
   ·rw [hx]; rfl
 ·by_cases hi : i = d
  ·subst hi
   simp only [upd_same, Option.some.injEq] at hr
   subst hr
   exact hok
  ·simp only [upd_ne _ _ hi] at hr
   exact h.mp.ok i r hr
 ·simp only at hi hj
  by_cases hid : i = d
  ·subst hid
   rw [upd_same, Option.some.injEq] at hi
   subst hi
   rw [upd_ne _ _ (Ne.symm hij)] at hj
   exact (hfree b hb).1 j r' (Ne.symm hij) hj hb'
  ·rw [upd_ne _ _ hid] at hi
   by_cases hjd : j = d
   ·subst hjd
    rw [upd_same, Option.some.injEq] at hj
    subst hj
    exact (hfree b hb').1 i r hid hi hb
   ·rw [upd_ne _ _ hjd] at hj
    exact h.mp.apart i j r r' b hij hi hj hb hb'
 ·intro b ⟨i, r, hr, hb⟩
  simp only at hr
  by_cases hid : i = d
  ·subst hid
   rw [upd_same, Option.some.injEq] at hr
   subst hr
   exact (hfree b hb).2
  ·rw [upd_ne _ _ hid] at hr
   exact h.new b ⟨i, r, hr, hb⟩
theorem upd_del {α : Type} (f : Nat → Option α) (d : Nat) (x : α) : upd (del f d) d x = upd f d x := by
 funext k
 by_cases h : k = d
 ·subst h; rw [upd_same, upd_same]
 ·rw [upd_ne _ _ h, upd_ne _ _ h, del_ne _ h]
inductive Appended (w : World) (v : Value) (e : TypeId) (size n m : Nat) (xs news : List Value) : Value → World → Prop where
 | same (base : Option Addr) (cap : Nat) : v = .slice base n cap → m = 0 → Appended w v e size n m xs news v w
 | room (g cap : Nat) (cur : Array Value) : v = .slice (some ⟨g, 0, none⟩) n cap → n + m ≤ cap → w.heap[g]? = some (.cells cur e (0, 0)) →
   Appended w v e size n m xs news (.slice (some ⟨g, 0, none⟩) (n + m) cap) (w.setRow g (cur.toList.take (n * size) ++ news ++ cur.toList.drop (n * size + news.length)).toArray)
 | grown (cap : Nat) (rest : Array Value) : n + m ≤ cap → cap ≠ 0 → cap ≤ maxLen → (xs.length + news.length + rest.size = cap * size) →
   Appended w v e size n m xs news (.slice (some ⟨w.heap.size, 0, none⟩) (n + m) cap) (w.drew.alloc (.cells (xs.toArray ++ news.toArray ++ rest) e))
theorem src_of {t e : TypeId} (ht : P.underlying t = some (.slice e)) {size m : Nat} {x : Value} {news : List Value} (hsub : Sub V w) (hx : Shape x m) (hnews : m = 0 ∨ V.cells x news) (hnl : news.length = m * size)
  (h1 : ∀ u ∈ news, u.oneCell' = true) : Src P size t x m news w := by
 have h0 : m = 0 → news = [] := fun h => List.eq_nil_of_length_eq_zero (by rw [hnl, h, Nat.zero_mul])
 rcases hx with ⟨base, cap, rfl⟩ | ⟨s, rfl, rfl⟩
 ·cases base with
  | none =>
   have hn : news = [] := by
    rcases hnews with h | h
    ·exact h0 h
    ·simpa [View.cells] using h
   subst hn
   exact ⟨.inl ⟨e, ht⟩, fun _ => rfl, run_firstCells_none w size m m cap, run_firstCells_none w.drew size m m cap, hnl, h1⟩
  | some a =>
   refine Src.ofSlice w ht a m cap news hnl (fun j u hj => ?_) h1
   rcases hnews with h | h
   ·rw [h0 h] at hj; simp at hj
   ·unfold View.cells at h
    split at h
    ·rename_i b off _ _ he
     injection he with h2 _ _
     cases h2
     rw [add_lit]
     exact hsub _ _ _ (h j u hj)
    ·rename_i he; subst h; simp at hj
    ·rename_i he; cases he
    ·exact h.elim
 ·have hn : news = Lib.strCells s := by
   rcases hnews with h | h
   ·rw [h0 h]
    exact (List.eq_nil_of_length_eq_zero (by rw [Lib.strCells_length]; exact h)).symm
   ·simpa [View.cells, Lib.strCells] using h
  subst hn
  exact ⟨.inl ⟨e, ht⟩, fun _ => rfl, Lib.run_firstCells_string w size s, Lib.run_firstCells_string w.drew size s, hnl, h1⟩
theorem run_appended {t ty e : TypeId} {i : TypeInfo} {z : Value} (ht : P.underlying t = some (.slice e)) (hi : P.info? e = some i) (hz : i.zero = some z) (hzs : z.cells.size = i.size)
  (hsz : 0 < i.size) {v x : Value} {k m : Nat} {xs news : List Value} (hok : (Res.row v e i.size k).ok w V) (hsub : Sub V w) (hxs : V.cells v xs) (hxl : xs.length = k * i.size)
  (hx : Shape x m) (hnews : m = 0 ∨ V.cells x news) (hnl : news.length = m * i.size) (h1 : ∀ u ∈ news, u.oneCell' = true) (h63 : k + m ≤ maxLen) (hby : (k + m) * i.bytes ≤ 140737488355328) :
  ∃ v' w', (Builtin.append_ #[t, t] ty #[v, x]).run P w = .ok v' w' ∧ Appended w v e i.size k m xs news v' w' := by
 have hsmall : ((k + m : Nat) : Int) ≤ 9223372036854775807 := by simp only [maxLen] at h63; omega
 have hsrc : Src P i.size t x m news w := src_of ht hsub hx hnews hnl h1
 have hv : ∃ base cap, v = .slice base k cap := by
  rcases hok with ⟨base, rfl, rfl⟩ | ⟨g, cap, cur, rfl, _⟩
  ·exact ⟨base, 0, rfl⟩
  ·exact ⟨_, cap, rfl⟩
 obtain ⟨vb, vc, rfl⟩ := hv
 by_cases hm : m = 0
 ·subst hm
  have hn0 : news = [] := List.eq_nil_of_length_eq_zero (by simpa using hnl)
  subst hn0
  have hle : k ≤ vc := by
   rcases hok with ⟨base, he, rfl⟩ | ⟨g, cap, cur, he, _, _, hl, _⟩
   ·omega
   ·injection he with _ _ h3; omega
  refine ⟨_, _, ?_, .same vb vc rfl rfl⟩
  cases vb with
  | none => simp [Builtin.append_, run_underlying ht, sizeOf, typeInfo, hi, hsrc.len, hle, hsrc.cells]
  | some b => simp [Builtin.append_, run_underlying ht, sizeOf, typeInfo, hi, hsrc.len, hle, hsrc.cells, storeCells]
 ·have grow : ∀ (sCap : Nat), sCap < k + m → ∃ v' w', (∃ r, r = Builtin.zeroCells z.cells (grownCap w (k + m) sCap e - (k + m)) ∧ v' = .slice (some ⟨w.heap.size, 0, none⟩) (k + m) (grownCap w (k + m) sCap e) ∧
    w' = w.drew.alloc (.cells (xs.toArray ++ news.toArray ++ r) e)) ∧ Appended w (.slice vb k vc) e i.size k m xs news v' w' := by
   intro sCap _
   refine ⟨_, _, ⟨_, rfl, rfl, rfl⟩, .grown _ _ (grownCap_ge _ _ _ _) (by have := grownCap_ge w (k + m) sCap e; omega) (grownCap_le_maxLen _ _ _ _ h63) ?_⟩
   rw [size_zeroCells, hzs, hxl, hnl, ← Nat.add_mul, ← Nat.add_mul]
   congr 1
   have := grownCap_ge w (k + m) sCap e
   omega
  rcases hok with ⟨base, he, rfl⟩ | ⟨g, cap, cur, he, hc0, hg, hkc, hcm, hcs, hVg⟩
  ·injection he with h2 _ h3
   subst h2; subst h3
   have hx0 : xs = [] := List.eq_nil_of_length_eq_zero (by simpa using hxl)
   subst hx0
   obtain ⟨v', w', ⟨r, rfl, rfl, rfl⟩, hA⟩ := grow 0 (by omega)
   refine ⟨_, _, ?_, hA⟩
   have hfit : Builtin.nextslicecap (0 + m) 0 * i.bytes ≤ 281474976710656 := growslice_fits (by omega) hby
   have hold : (Builtin.firstCells i.size 0 (.slice vb 0 0)).run P w.drew = .ok ([] : List Value).toArray w.drew := by
    cases vb with
    | none => exact run_firstCells_none _ _ _ _ _
    | some b => simp [Builtin.firstCells, loadCells, loadCellsFrom]
   have := run_append_grow_src (P := P) w t t ty e i z ht hi hz vb 0 0 [] hold x m news hsrc (by omega) hsmall hfit
   simpa using this
  ·injection he with h2 _ h3
   subst h2; subst h3
   have hxs' : ∀ j u, xs[j]? = some u → w.cell? ⟨g, j, none⟩ = some u := fun j u hj => by
    have := hxs j u hj
    simp only [Nat.zero_add] at this
    exact hsub _ _ _ this
   by_cases hroom : k + m ≤ vc
   ·refine ⟨_, _, ?_, .room g vc cur rfl hroom hg⟩
    have hfit : k * i.size + news.length ≤ cur.size := by rw [hcs, hnl, ← Nat.add_mul]; exact Nat.mul_le_mul_right _ hroom
    have hst := run_storeCells_at P g (k * i.size) e news 0 cur w hg (by simpa using hfit) h1
    simp only [Nat.add_zero] at hst
    simp [Builtin.append_, run_underlying ht, sizeOf, typeInfo, hi, hsrc.len, hroom, hsrc.cells, Addr.add_lit, hst]
   ·obtain ⟨v', w', ⟨r, rfl, rfl, rfl⟩, hA⟩ := grow vc (by omega)
    refine ⟨_, _, ?_, hA⟩
    have hold := run_firstCells_some (P := P) w.drew i.size k ⟨g, 0, none⟩ k vc xs hxl (fun j u hj => by rw [add_lit, Nat.zero_add]; simpa using hxs' j u hj)
    have := run_append_grow_src (P := P) w t t ty e i z ht hi hz (some ⟨g, 0, none⟩) k vc xs hold x m news hsrc (by omega) hsmall (growslice_fits (by omega) hby)
    simpa using this
theorem run_append_full {t ty e : TypeId} {i : TypeInfo} {z : Value} (ht : P.underlying t = some (.slice e)) (hi : P.info? e = some i) (hz : i.zero = some z) (hzs : z.cells.size = i.size)
  (hsz : 0 < i.size) {b off k m : Nat} {x : Value} {xs news : List Value} (hsub : Sub V w) (hxs : V.has b off xs) (hxl : xs.length = k * i.size)
  (hx : Shape x m) (hm : 0 < m) (hnews : m = 0 ∨ V.cells x news) (hnl : news.length = m * i.size) (h1 : ∀ u ∈ news, u.oneCell' = true) (h63 : k + m ≤ maxLen) (hby : (k + m) * i.bytes ≤ 140737488355328) :
  ∃ cap rest, (Builtin.append_ #[t, t] ty #[.slice (some ⟨b, off, none⟩) k k, x]).run P w = .ok (.slice (some ⟨w.heap.size, 0, none⟩) (k + m) cap) (w.drew.alloc (.cells (xs.toArray ++ news.toArray ++ rest) e)) ∧
   k + m ≤ cap ∧ cap ≠ 0 ∧ cap ≤ maxLen ∧ (xs.toArray ++ news.toArray ++ rest).size = cap * i.size := by
 have hsmall : ((k + m : Nat) : Int) ≤ 9223372036854775807 := by simp only [maxLen] at h63; omega
 have hsrc : Src P i.size t x m news w := src_of ht hsub hx hnews hnl h1
 have hold := run_firstCells_some (P := P) w.drew i.size k ⟨b, off, none⟩ k k xs hxl (fun j u hj => by rw [add_lit]; simpa using hsub _ _ _ (hxs j u hj))
 have hr := run_append_grow_src (P := P) w t t ty e i z ht hi hz (some ⟨b, off, none⟩) k k xs hold x m news hsrc (by omega) hsmall (growslice_fits (by omega) hby)
 refine ⟨_, Builtin.zeroCells z.cells (grownCap w (k + m) k e - (k + m)), by simpa using hr, grownCap_ge _ _ _ _, by have := grownCap_ge w (k + m) k e; omega, grownCap_le_maxLen _ _ _ _ h63, ?_⟩
 simp only [Array.size_append, List.size_toArray]
 rw [size_zeroCells, hzs, hxl, hnl, ← Nat.add_mul, ← Nat.add_mul]
 congr 1
 have := grownCap_ge w (k + m) k e
 omega
theorem run_append_zero {t ty e : TypeId} {i : TypeInfo} (ht : P.underlying t = some (.slice e)) (hi : P.info? e = some i) {b off k cap : Nat} {x : Value} (hle : k ≤ cap) (hx : Shape x 0) :
  (Builtin.append_ #[t, t] ty #[.slice (some ⟨b, off, none⟩) k cap, x]).run P w = .ok (.slice (some ⟨b, off, none⟩) k cap) w := by
 have hsrc : Src P i.size t x 0 [] w := src_of (V := fun _ _ => none) ht (fun _ _ _ h => by cases h) hx (.inl rfl) (by simp) (fun _ h => by cases h)
 simp [Builtin.append_, run_underlying ht, sizeOf, typeInfo, hi, hsrc.len, hle, hsrc.cells, storeCells]
end
section
variable {P : Program} {w0 : World} {M : Nat → Prop} {V0 : View} {n : Nat} {st : St} {V : View} {a : Act} {w : World}
theorem Inv.drew (h : Inv w0 M V0 n st V a w) : Inv w0 M V0 n st V a w.drew :=
 ⟨h.defers, h.size, h.env, ⟨h.mp.sub, h.mp.ok, h.mp.apart⟩, ⟨h.kept.os, h.kept.tape, h.kept.output, h.kept.size, h.kept.block⟩, h.grows, h.new⟩
theorem Inv.appended (h : Inv w0 M V0 n st V a w) {v : Value} {e : TypeId} {size k m : Nat} {xs news : List Value} {v' : Value} {w' : World} (hok : (Res.row v e size k).ok w V)
  (hfree : ∀ g, rowBlk v = some g → (∀ i r, st.mem i = some r → r.blk ≠ some g) ∧ (M g ∨ w0.heap.size ≤ g)) (hxs : V.cells v xs) (hxl : xs.length = k * size) (hnl : news.length = m * size)
  (hA : Appended w v e size k m xs news v' w') :
  ∃ V', V.le V' ∧ V'.cells v' (xs ++ news) ∧ (∃ base cap, v' = .slice base (k + m) cap ∧ k + m ≤ cap) ∧ Inv w0 M V0 n st V' a w' ∧ (Res.row v' e size (k + m)).ok w' V' ∧
   (∀ g, rowBlk v' = some g → (∀ i r, st.mem i = some r → r.blk ≠ some g) ∧ (M g ∨ w0.heap.size ≤ g)) ∧ (∀ g, rowBlk v' = some g → rowBlk v = some g ∨ ∀ o, V g o = none) ∧
   ∀ b o u, V' b o = some u → V b o = some u ∨ rowBlk v' = some b := by
 cases hA with
 | same base cap hv hm =>
  subst hm
  have hn0 : news = [] := List.eq_nil_of_length_eq_zero (by simpa using hnl)
  subst hn0
  exact ⟨V, View.le_refl _, by simpa using hxs, ⟨base, cap, by simpa using hv, by
   subst hv
   rcases hok with ⟨b', he, rfl⟩ | ⟨g, c, cur, he, _, _, hl, _⟩
   ·omega
   ·injection he with _ _ h3; omega⟩, h, by simpa using hok, hfree, fun g hg => .inl hg, fun b o u hu => .inl hu⟩
 | room g cap cur hv hroom hg =>
  subst hv
  rcases hok with ⟨base, he, rfl⟩ | ⟨g', cap', cur', he, hc0, hg', hkc, hcm, hcs, hVg⟩
  ·injection he with _ _ h3
   subst h3
   have hm0 : m = 0 := by omega
   subst hm0
   have hn0 : news = [] := List.eq_nil_of_length_eq_zero (by simpa using hnl)
   subst hn0
   have hw : w.setRow g (cur.toList.take (0 * size) ++ [] ++ cur.toList.drop (0 * size + ([] : List Value).length)).toArray = w := by
    simp only [Nat.zero_mul, List.take_zero, List.nil_append, List.length_nil, Nat.add_zero, List.drop_zero, Array.toArray_toList]
    exact setRow_self w g cur e (0, 0) hg
   rw [hw]
   exact ⟨V, View.le_refl _, by simpa using hxs, ⟨_, _, rfl, hroom⟩, h, .inl ⟨_, rfl, rfl⟩, hfree, fun g hg => .inl hg, fun b o u hu => .inl hu⟩
  ·injection he with h2 _ h3
   simp only [Option.some.injEq, Addr.mk.injEq, and_true] at h2
   subst h2; subst h3
   rw [hg] at hg'
   simp only [Option.some.injEq, Obj.cells.injEq, and_true] at hg'
   obtain ⟨rfl, _⟩ := hg'
   have hlt : g < w.heap.size := (Array.getElem?_eq_some_iff.1 hg).1
   have hf := hfree g (by simp [rowBlk, hc0])
   have hcl : cur.toList.length = cap * size := by simpa using hcs
   have hks : k * size + news.length ≤ cap * size := by rw [hnl, ← Nat.add_mul]; exact Nat.mul_le_mul_right _ hroom
   have hxs' : ∀ (j : Nat) (u : Value), xs[j]? = some u → cur.toList[j]? = some u := fun j u hj => by
    have h1 := hxs j u hj
    simp only [Nat.zero_add] at h1
    have h2 := h.mp.sub _ _ _ h1
    rw [cell_of_row w g j _ _ _ hg] at h2
    simpa using h2
   let V' : View := fun b o => if b = g ∧ k * size ≤ o ∧ o < k * size + news.length then news[o - k * size]? else V b o
   have hle : V.le V' := fun b o u hu => by
    show (if b = g ∧ k * size ≤ o ∧ o < k * size + news.length then news[o - k * size]? else V b o) = some u
    rw [if_neg]
    ·exact hu
    ·rintro ⟨rfl, h1, _⟩; rw [hVg o h1] at hu; cases hu
   have hnewc : ∀ b o u, V' b o = some u → V b o = some u ∨ (b = g ∧ k * size ≤ o ∧ news[o - k * size]? = some u) := fun b o u hu => by
    by_cases hc : b = g ∧ k * size ≤ o ∧ o < k * size + news.length
    ·simp only [V', if_pos hc] at hu; exact .inr ⟨hc.1, hc.2.1, hu⟩
    ·simp only [V', if_neg hc] at hu; exact .inl hu
   have hcell : ∀ o, (w.setRow g (cur.toList.take (k * size) ++ news ++ cur.toList.drop (k * size + news.length)).toArray).cell? ⟨g, o, none⟩ = (cur.toList.take (k * size) ++ news ++ cur.toList.drop (k * size + news.length))[o]? := fun o => by
    rw [cell_setRow_same w g o _ _ e (0, 0) hg]; simp
   have htl : (cur.toList.take (k * size)).length = k * size := by rw [List.length_take, hcl]; omega
   have hsub : Sub V' (w.setRow g (cur.toList.take (k * size) ++ news ++ cur.toList.drop (k * size + news.length)).toArray) := by
    intro b o u hu
    rcases hnewc b o u hu with h1 | ⟨rfl, h1, h2⟩
    ·by_cases hb : b = g
     ·subst hb
      have ho : o < k * size := by
       rcases Nat.lt_or_ge o (k * size) with h2 | h2
       ·exact h2
       ·rw [hVg o h2] at h1; cases h1
      have h2 := h.mp.sub _ _ _ h1
      rw [cell_of_row w b o _ _ _ hg] at h2
      rw [hcell, List.append_assoc, List.getElem?_append_left (by rw [htl]; exact ho), List.getElem?_take, if_pos ho]
      simpa using h2
     ·rw [cell_keep (setRow_other w g b _ hb)]
      exact h.mp.sub _ _ _ h1
    ·have hlt2 : o - k * size < news.length := (List.getElem?_eq_some_iff.1 h2).1
     rw [hcell, List.append_assoc, List.getElem?_append_right (by rw [htl]; exact h1), htl, List.getElem?_append_left hlt2]
     exact h2
   have hinv := h.change (g := g) (V' := V') (w' := w.setRow g (cur.toList.take (k * size) ++ news ++ cur.toList.drop (k * size + news.length)).toArray) rfl rfl rfl (Nat.le_refl _) (by simp [World.setRow])
    (fun b _ hb => setRow_other w g b _ hb) hf.1 hf.2 (Thawed.setRow' hg) hsub hle (fun b o u hu => (hnewc b o u hu).imp id (fun hx => hx.1))
   refine ⟨V', hle, ?_, ⟨_, _, rfl, hroom⟩, hinv, .inr ⟨g, cap, _, rfl, hc0, setRow_heap w g _ _ e _ hg, hroom, hcm, ?_, ?_⟩, fun g' hg' => ?_, fun g' hg' => .inl ?_, fun b o u hu => ?_⟩
   ·intro j u hj
    simp only [Nat.zero_add]
    rcases Nat.lt_or_ge j xs.length with hlt2 | hge
    ·rw [List.getElem?_append_left hlt2] at hj
     have := hle _ _ _ (hxs j u hj)
     simpa using this
    ·rw [List.getElem?_append_right hge, hxl] at hj
     have hlt2 : j - k * size < news.length := (List.getElem?_eq_some_iff.1 hj).1
     have hge' : k * size ≤ j := by omega
     show (if g = g ∧ k * size ≤ j ∧ j < k * size + news.length then news[j - k * size]? else V g j) = some u
     rw [if_pos ⟨rfl, hge', by omega⟩]
     exact hj
   ·simp only [List.size_toArray, List.length_append, htl, List.length_drop, hcl]; omega
   ·intro o ho
    show (if g = g ∧ k * size ≤ o ∧ o < k * size + news.length then news[o - k * size]? else V g o) = none
    rw [Nat.add_mul, ← hnl] at ho
    rw [if_neg (by omega)]
    exact hVg o (by omega)
   ·simp only [rowBlk, hc0, if_false, Option.some.injEq] at hg'
    subst hg'
    exact hf
   ·simpa [rowBlk, hc0] using hg'
   ·rcases hnewc b o u hu with h1 | ⟨rfl, _, _⟩
    ·exact .inl h1
    ·exact .inr (by simp [rowBlk, hc0])
 | grown cap rest hroom hc0 hcm hcs =>
  have h1 := h.drew
  have hs := newBlk_none h.mp.sub
  have hfree2 : ∀ i r, st.mem i = some r → r.blk ≠ some w.heap.size := fun i r hr hb => absurd (blk_lt (h.mp.ok i r hr) hb) (Nat.lt_irrefl _)
  have hheap : (w.drew.alloc (.cells (xs.toArray ++ news.toArray ++ rest) e)).heap[w.heap.size]? = some (.cells (xs.toArray ++ news.toArray ++ rest) e (0, 0)) := heap_alloc_new w.drew _
  have hinv := h.change (g := w.heap.size) (V' := V.add w.heap.size (xs ++ news)) (w' := w.drew.alloc (.cells (xs.toArray ++ news.toArray ++ rest) e)) rfl rfl rfl (by first | exact Nat.le_refl _ | exact Nat.le_succ _) (by simp)
   (fun b hb _ => alloc_old w.drew _ hb) hfree2 (.inr h.kept.size) (fun k hk => Thawed.alloc (w := w.drew) (by intro _ _ _ h; cases h; rfl) hk) (fun b o u hu => by
    unfold View.add at hu
    by_cases hb : b = w.heap.size
    ·subst hb
     rw [if_pos rfl] at hu
     rw [cell_of_row _ _ _ _ _ _ hheap]
     have hlt := (List.getElem?_eq_some_iff.1 hu).1
     rw [Array.getElem?_append_left (by simpa using hlt)]
     rw [← hu]; simp
    ·rw [if_neg hb] at hu
     rw [cell_keep (alloc_old w.drew _ (sub_lt h.mp.sub hu))]
     exact h.mp.sub _ _ _ hu) (View.add_le hs) (fun b o u hu => by
    unfold View.add at hu
    by_cases hb : b = w.heap.size
    ·exact .inr hb
    ·rw [if_neg hb] at hu; exact .inl hu)
  refine ⟨_, View.add_le hs, View.add_has, ⟨_, _, rfl, hroom⟩, hinv, .inr ⟨w.heap.size, cap, _, rfl, hc0, hheap, hroom, hcm, ?_, ?_⟩, fun g' hg' => ?_, fun g' hg' => .inr ?_, fun b o u hu => ?_⟩
  ·simp only [Array.size_append, List.size_toArray]; exact hcs
  ·intro o ho
   simp only [View.add, if_true]
   rw [List.getElem?_eq_none]
   rw [List.length_append, hxl, hnl, ← Nat.add_mul]
   exact ho
  ·simp only [rowBlk, hc0, if_false, Option.some.injEq] at hg'
   subst hg'
   exact ⟨hfree2, .inr h.kept.size⟩
  ·simp only [rowBlk, hc0, if_false, Option.some.injEq] at hg'
   subst hg'
   exact hs
  ·unfold View.add at hu
   by_cases hb : b = w.heap.size
   ·exact .inr (by simp [rowBlk, hc0, hb])
   ·rw [if_neg hb] at hu; exact .inl hu
theorem Inv.grown (h : Inv w0 M V0 n st V a w) {e : TypeId} {size k m cap : Nat} {xs news : List Value} {rest : Array Value} (hxl : xs.length = k * size) (hnl : news.length = m * size)
  (hroom : k + m ≤ cap) (hc0 : cap ≠ 0) (hcm : cap ≤ maxLen) (hcs : (xs.toArray ++ news.toArray ++ rest).size = cap * size) :
  ∃ V', V.le V' ∧ V'.cells (.slice (some ⟨w.heap.size, 0, none⟩) (k + m) cap) (xs ++ news) ∧ (∃ base cap', Value.slice (some ⟨w.heap.size, 0, none⟩) (k + m) cap = .slice base (k + m) cap' ∧ k + m ≤ cap') ∧
   Inv w0 M V0 n st V' a (w.drew.alloc (.cells (xs.toArray ++ news.toArray ++ rest) e)) ∧ (Res.row (.slice (some ⟨w.heap.size, 0, none⟩) (k + m) cap) e size (k + m)).ok (w.drew.alloc (.cells (xs.toArray ++ news.toArray ++ rest) e)) V' ∧
   (∀ g, rowBlk (.slice (some ⟨w.heap.size, 0, none⟩) (k + m) cap) = some g → (∀ i r, st.mem i = some r → r.blk ≠ some g) ∧ (M g ∨ w0.heap.size ≤ g)) ∧ (∀ g, rowBlk (.slice (some ⟨w.heap.size, 0, none⟩) (k + m) cap) = some g → rowBlk (.slice none 0 0) = some g ∨ ∀ o, V g o = none) ∧
   ∀ b o u, V' b o = some u → V b o = some u ∨ rowBlk (.slice (some ⟨w.heap.size, 0, none⟩) (k + m) cap) = some b := by
 have h1 := h.drew
 have hs := newBlk_none h.mp.sub
 have hfree2 : ∀ i r, st.mem i = some r → r.blk ≠ some w.heap.size := fun i r hr hb => absurd (blk_lt (h.mp.ok i r hr) hb) (Nat.lt_irrefl _)
 have hheap : (w.drew.alloc (.cells (xs.toArray ++ news.toArray ++ rest) e)).heap[w.heap.size]? = some (.cells (xs.toArray ++ news.toArray ++ rest) e (0, 0)) := heap_alloc_new w.drew _
 have hinv := h.change (g := w.heap.size) (V' := V.add w.heap.size (xs ++ news)) (w' := w.drew.alloc (.cells (xs.toArray ++ news.toArray ++ rest) e)) rfl rfl rfl (by first | exact Nat.le_refl _ | exact Nat.le_succ _) (by simp)
  (fun b hb _ => alloc_old w.drew _ hb) hfree2 (.inr h.kept.size) (fun k hk => Thawed.alloc (w := w.drew) (by intro _ _ _ h; cases h; rfl) hk) (fun b o u hu => by
   unfold View.add at hu
   by_cases hb : b = w.heap.size
   ·subst hb
    rw [if_pos rfl] at hu
    rw [cell_of_row _ _ _ _ _ _ hheap]
    have hlt := (List.getElem?_eq_some_iff.1 hu).1
    rw [Array.getElem?_append_left (by simpa using hlt)]
    rw [← hu]; simp
   ·rw [if_neg hb] at hu
    rw [cell_keep (alloc_old w.drew _ (sub_lt h.mp.sub hu))]
    exact h.mp.sub _ _ _ hu) (View.add_le hs) (fun b o u hu => by
   unfold View.add at hu
   by_cases hb : b = w.heap.size
   ·exact .inr hb
   ·rw [if_neg hb] at hu; exact .inl hu)
 refine ⟨_, View.add_le hs, View.add_has, ⟨_, _, rfl, hroom⟩, hinv, .inr ⟨w.heap.size, cap, _, rfl, hc0, hheap, hroom, hcm, ?_, ?_⟩, fun g' hg' => ?_, fun g' hg' => .inr ?_, fun b o u hu => ?_⟩
 ·exact hcs
 ·intro o ho
  simp only [View.add, if_true]
  rw [List.getElem?_eq_none]
  rw [List.length_append, hxl, hnl, ← Nat.add_mul]
  exact ho
 ·simp only [rowBlk, hc0, if_false, Option.some.injEq] at hg'
  subst hg'
  exact ⟨hfree2, .inr h.kept.size⟩
 ·simp only [rowBlk, hc0, if_false, Option.some.injEq] at hg'
  subst hg'
  exact hs
 ·unfold View.add at hu
  by_cases hb : b = w.heap.size
  ·exact .inr (by simp [rowBlk, hc0, hb])
  ·rw [if_neg hb] at hu; exact .inl hu
theorem xop_sound {o : Oper} {K : St → View → Prop} {next : Act → World → Prop} {Q : Exit → Act → World → Prop} (h : Inv w0 M V0 n st V a w) (hx : xop P o st V K) (hd : ∀ d, o.dst = some d → d < n)
  (hK : ∀ st' V' a' w', Inv w0 M V0 n st' V' a' w' → K st' V' → next a' w') : o.wp P a w next Q := by
 unfold xop at hx
 have hs := effOf_sound (P := P) h o
 unfold Oper.wp
 generalize effOf P o st = e at hx hs
 cases e with
 | val s =>
  obtain ⟨v, hv, hr⟩ := hs
  rw [hr]
  exact hK _ _ _ _ (h.put hd hv) hx
 | pick c s t =>
  obtain ⟨v1, v2, h1, h2, hr⟩ := hs
  rw [hr]
  cases c with
  | true => exact hK _ _ _ _ (h.put hd h1) (hx.yes rfl)
  | false => exact hK _ _ _ _ (h.put hd h2) (hx.no rfl)
 | ldv t b off k =>
  obtain ⟨l, hl, hV, hv⟩ := hx.get
  split at hv
  ·rename_i v hav
   rw [hs l v hl hV hav]
   exact hK _ _ _ _ (h.put hd rfl) hv
  ·exact hv.no.elim
 | idx base len i size =>
  obtain ⟨b, off, hb, h0, hl, hk⟩ := hx.get
  rw [hs b off hb h0 hl]
  exact hK _ _ _ _ (h.put hd rfl) hk
 | sem s =>
  obtain ⟨v, hv, hk⟩ := hx.get
  rw [hs v hv]
  exact hK _ _ _ _ (h.put hd rfl) hk
 | box t cells =>
  simp only [EffSem] at hs
  rw [hs]
  simp only [effRun] at hx
  split at hx
  ·rename_i d hdd
   simp only [Oper.upon]
   rw [hdd]
   exact hK _ _ _ _ (h.newBox (hd d hdd) t cells) (hx _)
  ·exact hx.no.elim
 | lit e len cells =>
  simp only [EffSem] at hs
  rw [hs]
  exact hK _ _ _ _ (h.newRow hd e cells len) (hx _ _ (View.add_le (newBlk_none h.mp.sub)) View.add_has)
 | sto pl id off cells =>
  cases pl with
  | false =>
   simp only [effRun] at hx
   split at hx
   ·rename_i b t old hm
    split at hx
    ·rename_i hle
     rw [hs b t old hm (Nat.le_of_ble_eq_true hle)]
     exact hK _ _ _ _ ((h.store hm).put hd rfl) hx
    ·exact hx.no.elim
   ·exact hx.no.elim
  | true =>
   obtain ⟨id', t, old, hm, hle, hk⟩ := hx.get
   rw [hs id' t old hm hle]
   exact hK _ _ _ _ ((h.store hm).put hd rfl) hk
 | call f args =>
  simp only [EffSem] at hs
  rw [hs]
  refine (hx.run w h.mp).mono fun e w' ⟨v, s, V', mem', he, hv, hKs, hsame, hp, hk, hg, hn⟩ => ?_
  subst he
  exact hK _ _ _ _ ((h.called hsame hp hk hg hn).put hd hv) hKs
 | app s e size bytes x =>
  obtain ⟨t, i, z, vs, hvs, ht, hi, hz, rfl, rfl, hzs, hsz, hr⟩ := hs
  simp only [effRun] at hx
  split at hx
  ·rename_i d hdd
   have hdn := hd d hdd
   rw [hr]
   split at hx
   ·rename_i id
    split at hx
    ·rename_i v ty sz k hm
     split at hx
     ·rename_i hty hszz
      have hty := Nat.eq_of_beq_eq_true hty
      have hszz := Nat.eq_of_beq_eq_true hszz
      subst hty; subst hszz
      obtain ⟨xs, news, m, hxs, hxl, hxx, hnews, hnl, h1, h63, hby, hKn⟩ := hx.get
      simp only [toVal, hm, Option.some.injEq] at hvs
      subst hvs
      have hok := h.mp.ok id _ hm
      obtain ⟨v', w', hrun, hA⟩ := run_appended (P := P) (ty := o.type) ht hi hz hzs hsz hok h.mp.sub hxs hxl hxx hnews hnl h1 h63 hby
      have hf := h.forget id
      obtain ⟨V', hle, hc, hsl, hinv, hok', hfr, hf1, hf2⟩ := hf.appended hok (fun g hg => ⟨fun i' r' hr' hb => by
       have hr' : del st.mem id i' = some r' := hr'
       have hne : i' ≠ id := fun e => by subst e; rw [del_same] at hr'; cases hr'
       rw [del_ne _ hne] at hr'
       exact h.mp.apart id i' _ r' g (Ne.symm hne) hm hr' hg hb, h.new g ⟨id, _, hm, hg⟩⟩) hxs hxl hnl hA
      rw [hrun]
      simp only [Result.andThen_ok, Oper.upon, hdd]
      have hadd := hinv.addRow hdn hok' (fun g hg => ⟨fun i' r' _ hr' => (hfr g hg).1 i' r' hr', (hfr g hg).2⟩)
      have hK1 := hKn v' V' hle hc hsl ⟨hf1, hf2, fun i' r' hr' hne g hg => (hfr g hg).1 i' r' (by
       show del st.mem id i' = some r'
       rw [del_ne _ (fun e => hne (by rw [e]))]; exact hr'), row_off hok'⟩
      exact hK _ _ _ _ hadd hK1
     ·exact hx.no.elim
    ·exact hx.no.elim
   ·rename_i base
    obtain ⟨xs, news, m, hxs, hxl, hxx, hnews, hnl, h1, h63, hby, hKn⟩ := hx.get
    simp only [toVal, Option.some.injEq] at hvs
    subst hvs
    have hok : (Res.row (.slice base 0 0) e i.size 0).ok w V := .inl ⟨base, rfl, rfl⟩
    obtain ⟨v', w', hrun, hA⟩ := run_appended (P := P) (ty := o.type) ht hi hz hzs hsz hok h.mp.sub hxs hxl hxx hnews hnl h1 h63 hby
    obtain ⟨V', hle, hc, hsl, hinv, hok', hfr, hf1, hf2⟩ := h.appended hok (fun g hg => by cases base <;> simp [rowBlk] at hg) hxs hxl hnl hA
    rw [hrun]
    simp only [Result.andThen_ok, Oper.upon, hdd]
    exact hK _ _ _ _ (hinv.addRow hdn hok' (fun g hg => ⟨fun i' r' _ hr' => (hfr g hg).1 i' r' hr', (hfr g hg).2⟩)) (hKn v' V' hle hc hsl ⟨hf1, hf2, fun i' r' hr' _ g hg => (hfr g hg).1 i' r' hr', row_off hok'⟩)
   ·rename_i v hv0
    obtain ⟨id, k, hx⟩ := hx.get
    cases hm : st.mem id with
    | some r =>
     rw [hm] at hx
     obtain ⟨rfl, hx⟩ := hx
     obtain ⟨xs, news, m, hxs, hxl, hxx, hnews, hnl, h1, h63, hby, hKn⟩ := hx.get
     simp only [toVal, Option.some.injEq] at hvs
     subst hvs
     have hok := h.mp.ok id _ hm
     obtain ⟨v', w', hrun, hA⟩ := run_appended (P := P) (ty := o.type) ht hi hz hzs hsz hok h.mp.sub hxs hxl hxx hnews hnl h1 h63 hby
     have hf := h.forget id
     obtain ⟨V', hle, hc, hsl, hinv, hok', hfr, hf1, hf2⟩ := hf.appended hok (fun g hg => ⟨fun i' r' hr' hb => by
      have hr' : del st.mem id i' = some r' := hr'
      have hne : i' ≠ id := fun e => by subst e; rw [del_same] at hr'; cases hr'
      rw [del_ne _ hne] at hr'
      exact h.mp.apart id i' _ r' g (Ne.symm hne) hm hr' hg hb, h.new g ⟨id, _, hm, hg⟩⟩) hxs hxl hnl hA
     rw [hrun]
     simp only [Result.andThen_ok, Oper.upon, hdd]
     have hadd := hinv.addRow hdn hok' (fun g hg => ⟨fun i' r' _ hr' => (hfr g hg).1 i' r' hr', (hfr g hg).2⟩)
     have hK1 := hKn v' V' hle hc hsl ⟨hf1, hf2, fun i' r' hr' hne g hg => (hfr g hg).1 i' r' (by
      show del st.mem id i' = some r'
      rw [del_ne _ (fun e => hne (by rw [e]))]; exact hr'), row_off hok'⟩
     exact hK _ _ _ _ hadd hK1
    | none =>
     rw [hm] at hx
     rcases hx with ⟨⟨b, off, m0, rfl, hsh⟩, hx⟩ | ⟨⟨b, off, cap, rfl, hsh, hle, hn⟩, hx0⟩
     rotate_left
     ·simp only [toVal, Option.some.injEq] at hvs
      subst hvs
      rw [run_append_zero (P := P) (ty := o.type) ht hi hle hsh]
      simp only [Result.andThen_ok, Oper.upon, hdd]
      exact hK _ _ _ _ (h.put (dst := some d) (fun d' hd' => by cases hd'; exact hdn) rfl) hx0
     obtain ⟨xs, news, m, hxs, hxl, hxx, hnews, hnl, h1, h63, hby, hKn⟩ := hx.get
     have hmm := hxx.eq hsh
     subst hmm
     simp only [toVal, Option.some.injEq] at hvs
     subst hvs
     obtain ⟨cap, rest, hrun, hroom, hc0, hcm, hcs⟩ := run_append_full (P := P) (ty := o.type) ht hi hz hzs hsz h.mp.sub hxs hxl hxx (Nat.succ_pos _) hnews hnl h1 h63 hby
     obtain ⟨V', hle, hc, hsl, hinv, hok', hfr, hf1, hf2⟩ := h.grown (e := e) hxl hnl hroom hc0 hcm hcs
     rw [hrun]
     simp only [Result.andThen_ok, Oper.upon, hdd]
     exact hK _ _ _ _ (hinv.addRow hdn hok' (fun g hg => ⟨fun i' r' _ hr' => (hfr g hg).1 i' r' hr', (hfr g hg).2⟩)) (hKn _ V' hle hc hsl ⟨hf1, hf2, fun i' r' hr' _ g hg => (hfr g hg).1 i' r' hr', row_off hok'⟩)
   ·exact hx.no.elim
  ·exact hx.no.elim
 | bad => exact hx.no.elim
end
def opsOk (n : Nat) : List Oper → Bool
 | [] => true
 | o :: l => match o.dst with | some d => (match Nat.blt d n with | true => opsOk n l | false => false) | none => opsOk n l
theorem opsOk_spec {n : Nat} : ∀ {l : List Oper}, opsOk n l = true → ∀ o ∈ l, ∀ d, o.dst = some d → d < n
 | [], _, o, ho, _, _ => by cases ho
 | x :: l, h, o, ho, d, hd => by
  unfold opsOk at h
  rcases List.mem_cons.1 ho with rfl | ho
  ·rw [hd] at h
   simp only at h
   split at h
   ·rename_i hb
    have hb : Nat.ble (d + 1) n = true := hb
    exact Nat.le_of_ble_eq_true hb
   ·cases h
  ·refine opsOk_spec (l := l) ?_ o ho d hd
   split at h
   ·split at h
    ·exact h
    ·cases h
   ·exact h
def exOf : Ex → Exit
 | .normal => .normal
 | .ret => .ret
 | .exit i => .exit i
section
variable {P : Program} {w0 : World} {M : Nat → Prop} {V0 : View} {n : Nat}
theorem getD_bool {l : Array Value} {d : Nat} {b : Bool} (h : l.getD d undef = .bool b) : l[d]? = some (.bool b) := by
 rw [Array.getD_eq_getD_getElem?] at h
 cases hl : l[d]? with
 | none => rw [hl] at h; cases h
 | some v => rw [hl] at h; simp only [Option.getD_some] at h; rw [h]
theorem yielded_of {ops : Array Oper} {a : Act} {j d : Nat} {b : Bool} (hd : dstOf ops j = some d) (hv : a.tmps.getD d undef = .bool b) :
  yielded ops a.tmps j = some b := by
 unfold dstOf at hd
 split at hd
 ·rename_i o ho
  simp [yielded, ho, hd, getD_bool hv]
 ·cases hd
theorem Inv.known {st : St} {V : View} {a : Act} {w : World} (h : Inv w0 M V0 n st V a w) {d : Nat} {b : Bool} (hd : st.env d = some (.v (.bool b))) :
  Inv w0 M V0 n ⟨upd st.env d (.kb b), st.mem⟩ V a w := by
 refine ⟨h.defers, h.size, fun k s hk => ?_, h.mp, h.kept, h.grows, h.new⟩
 by_cases hkd : k = d
 ·subst hkd
  simp only [upd_same, Option.some.injEq] at hk
  subst hk
  have := h.env k _ hd
  exact this
 ·simp only [upd_ne _ _ hkd] at hk
  exact h.env k s hk
theorem Inv.skip {st : St} {V : View} {a : Act} {w : World} (h : Inv w0 M V0 n st V a w) {o : Oper} (hd : ∀ d, o.dst = some d → d < n) : Inv w0 M V0 n (st.put o.dst (.v undef)) V (a.put o.dst undef) w := h.put hd rfl
theorem xops_sound {ops : Array Oper} {K : St → View → Prop} {Q : Exit → Act → World → Prop} (hK : ∀ st V a w, Inv w0 M V0 n st V a w → K st V → Q .normal a w) :
  ∀ (l : List Oper) (st : St) (V : View) (a : Act) (w : World), (∀ o ∈ l, ∀ d, o.dst = some d → d < n) → Inv w0 M V0 n st V a w → xops P ops K l st V → wpList P ops Q l a w
 | [], st, V, a, w, _, h, hx => hK st V a w h hx
 | o :: l, st, V, a, w, hl, h, hx => by
  have ih := xops_sound (ops := ops) (K := K) (Q := Q) hK l
  have hd := hl o (by simp)
  have hl' : ∀ o ∈ l, ∀ d, o.dst = some d → d < n := fun x hx => hl x (by simp [hx])
  refine wpList_step fun Kw hKw => ?_
  have step : ∀ (st : St), Inv w0 M V0 n st V a w → xop P o st V (xops P ops K l) → o.wp P a w Kw Q := fun st h hx =>
   xop_sound h hx hd (fun st' V' a' w' h' hx' => hKw a' w' (ih st' V' a' w' hl' h' hx'))
  have pass : ∀ (st : St), Inv w0 M V0 n st V a w → xops P ops K l (st.put o.dst (.v undef)) V → Kw (a.put o.dst undef) w := fun st h hx => hKw _ _ (ih _ _ _ _ hl' (h.skip hd) hx)
  unfold xops at hx
  split at hx
  ·rename_i hg
   rw [if_pos (by simp [Region.wanted, hg])]
   exact step st h hx
  ·rename_i j want hg
   split at hx
   ·exact hx.no.elim
   ·rename_i d hjd
    have hw : ∀ b, a.tmps.getD d undef = .bool b → Region.wanted o (yielded ops a.tmps) = (b == want) := fun b hb => by
     simp only [Region.wanted, hg, yielded_of hjd hb]
     cases b <;> cases want <;> rfl
    split at hx
    ·rename_i b hb
     have hv : a.tmps.getD d undef = .bool b := by have := h.env d _ hb; exact (Option.some.inj this).symm
     rw [hw b hv]
     cases b <;> cases want <;> simp only at hx
     ·rw [if_pos (by rfl)]; exact step st h hx
     ·rw [if_neg (by decide)]; exact pass st h hx
     ·rw [if_neg (by decide)]; exact pass st h hx
     ·rw [if_pos (by rfl)]; exact step st h hx
    ·rename_i b hb
     have hv : a.tmps.getD d undef = .bool b := by have := h.env d _ hb; exact (Option.some.inj this).symm
     rw [hw b hv]
     have hk := h.known hb
     cases b
     ·have hx := hx.no rfl
      cases want <;> simp only at hx
      ·rw [if_pos (by rfl)]; exact step _ hk hx
      ·rw [if_neg (by decide)]; exact pass _ hk hx
     ·have hx := hx.yes rfl
      cases want <;> simp only at hx
      ·rw [if_neg (by decide)]; exact pass _ hk hx
      ·rw [if_pos (by rfl)]; exact step _ hk hx
    ·rename_i l hb
     have hv : a.tmps.getD d undef = .tuple l := by have := h.env d _ hb; exact (Option.some.inj this).symm
     have hy : yielded ops a.tmps j = none := by
      unfold dstOf at hjd
      split at hjd
      ·rename_i o2 ho2
       unfold yielded
       simp only [ho2, Option.bind_some, hjd]
       rw [Array.getD_eq_getD_getElem?] at hv
       cases hl : a.tmps[d]? with
       | none => rfl
       | some v => rw [hl, Option.getD_some] at hv; subst hv; rfl
      ·cases hjd
     rw [if_neg (by simp [Region.wanted, hg, hy])]
     exact pass st h hx
    ·exact hx.no.elim
theorem exists_least {p : Nat → Prop} (h : ∃ k, p k) : ∃ k, p k ∧ ∀ m, p m → k ≤ m := by
 obtain ⟨k, hk⟩ := h
 induction k using Nat.strongRecOn with
 | _ k ih =>
  by_cases hx : ∃ m, m < k ∧ p m
  ·obtain ⟨m, hm, hp⟩ := hx; exact ih m hm hp
  ·exact ⟨k, hk, fun m hm => by
    rcases Nat.lt_or_ge m k with h | h
    ·exact absurd ⟨m, h, hm⟩ hx
    ·exact h⟩
open Classical in
noncomputable def leastOf (J : Nat → Act → World → Prop) (a : Act) (w : World) : Nat := if h : ∃ k, J k a w then Classical.choose (exists_least h) else 0
theorem leastOf_spec {J : Nat → Act → World → Prop} {a : Act} {w : World} (h : ∃ k, J k a w) : J (leastOf J a w) a w := by
 unfold leastOf; rw [dif_pos h]; exact (Classical.choose_spec (exists_least h)).1
theorem leastOf_le {J : Nat → Act → World → Prop} {a : Act} {w : World} {m : Nat} (h : J m a w) : leastOf J a w ≤ m := by
 unfold leastOf; rw [dif_pos ⟨m, h⟩]; exact (Classical.choose_spec (exists_least ⟨m, h⟩)).2 m h
def LoopJ (w0 : World) (M : Nat → Prop) (V0 : View) (n : Nat) (I : Nat → St → View → Prop) (k : Nat) (a : Act) (w : World) : Prop := ∃ st V, I k st V ∧ Inv w0 M V0 n st V a w
end
def memOf : List (Nat × Res) → Nat → Option Res
 | [] => fun _ => none
 | (i, r) :: l => upd (memOf l) i r
theorem memOf_mem : ∀ {ms : List (Nat × Res)} {i : Nat} {r : Res}, memOf ms i = some r → (i, r) ∈ ms
 | [], i, r, h => by cases h
 | (j, s) :: ms, i, r, h => by
  unfold memOf at h
  by_cases hi : i = j
  ·subst hi; rw [upd_same, Option.some.injEq] at h; subst h; simp
  ·rw [upd_ne _ _ hi] at h; exact List.mem_cons_of_mem _ (memOf_mem h)
theorem pre_memOf {V : View} {ms : List (Nat × Res)} {w : World} (h : Pre V (ms.map (·.2)) w) : MPre (memOf ms) V w := by
 refine ⟨h.sub, fun i r hr => ?_, fun i j r r' b hij hi hj hb => ?_⟩
 ·obtain ⟨k, hk⟩ := List.mem_iff_getElem?.1 (memOf_mem hr)
  exact h.ok k r (by simp [hk])
 ·obtain ⟨k, hk⟩ := List.mem_iff_getElem?.1 (memOf_mem hi)
  obtain ⟨k', hk'⟩ := List.mem_iff_getElem?.1 (memOf_mem hj)
  refine h.apart k k' r r' b (fun e => ?_) (by simp [hk]) (by simp [hk']) hb
  subst e
  rw [hk] at hk'
  simp only [Option.some.injEq, Prod.mk.injEq] at hk'
  exact hij hk'.1
section
variable {P : Program} {w0 : World} {M : Nat → Prop} {V0 : View} {n : Nat}
theorem initEnv_get : ∀ (l : List SV) (k m : Nat), initEnv l k m = if k ≤ m then l[m - k]? else none
 | [], k, m => by simp [initEnv]
 | s :: l, k, m => by
  unfold initEnv
  by_cases h : m = k
  ·subst h; simp [upd_same]
  ·rw [upd_ne _ _ h, initEnv_get l (k + 1) m]
   by_cases hk : k ≤ m
   ·rw [if_pos (by omega), if_pos hk, show m - k = (m - (k + 1)) + 1 by omega, List.getElem?_cons_succ]
   ·rw [if_neg (by omega), if_neg hk]
theorem toVals_get {mem : Nat → Option Res} : ∀ {l : List SV} {vs : List Value}, toVals mem l = some vs → ∀ (i : Nat) (s : SV), l[i]? = some s → ∃ v, toVal mem s = some v ∧ vs[i]? = some v
 | [], vs, _, i, s, hs => by simp at hs
 | x :: l, vs, h, i, s, hs => by
  unfold toVals at h
  split at h
  ·rename_i v vs' hv hvs
   simp only [Option.some.injEq] at h; subst h
   cases i with
   | zero => simp only [List.getElem?_cons_zero, Option.some.injEq] at hs; subst hs; exact ⟨v, hv, rfl⟩
   | succ i => exact toVals_get hvs i s (by simpa using hs)
  ·cases h
theorem toVals_length {mem : Nat → Option Res} : ∀ {l : List SV} {vs : List Value}, toVals mem l = some vs → vs.length = l.length
 | [], vs, h => by unfold toVals at h; simp only [Option.some.injEq] at h; subst h; rfl
 | x :: l, vs, h => by
  unfold toVals at h
  split at h
  ·rename_i v vs' hv hvs
   simp only [Option.some.injEq] at h; subst h
   simp [toVals_length hvs]
  ·cases h
theorem inv_init {args : List SV} {vs : List Value} {mem : Nat → Option Res} {V : View} {w : World} (hp : MPre mem V w) (ha : toVals mem args = some vs) (hn : args.length ≤ n) :
  Inv w (blksM mem) V n ⟨initEnv args 0, mem⟩ V { tmps := vs.toArray ++ Array.replicate (n - vs.toArray.size) undef, defers := [] } w := by
 have hl := toVals_length ha
 refine ⟨rfl, by simp [hl]; omega, fun k s hk => ?_, hp, Kept.refl _ _, ⟨View.le_refl _, fun _ _ _ h => .inl h⟩, fun b hb => .inl hb⟩
 simp only [initEnv_get, Nat.zero_le, if_true, Nat.sub_zero] at hk
 obtain ⟨v, hv, hv'⟩ := toVals_get ha k s hk
 rw [hv]
 congr 1
 rw [Array.getD_eq_getD_getElem?, Array.getElem?_append_left (by
  have := (List.getElem?_eq_some_iff.1 hv').1
  simpa using this)]
 simp [hv']
def resSem (tmps : Array Value) : ResultVar → Sem Value
 | .tmp t => pure (tmps.getD t undef)
 | .cell x t => do loadVar t (← asAddr (tmps.getD x undef))
theorem readRes_sound {st : St} {V : View} {a : Act} {w : World} (h : Inv w0 M V0 n st V a w) {r : ResultVar} {s : SV} (hr : readRes P st r = some s) :
  ∃ v, toVal st.mem s = some v ∧ (resSem a.tmps r).run P w = .ok v w := by
 cases r with
 | tmp t => exact ⟨_, h.env t s hr, rfl⟩
 | cell x t =>
  simp only [readRes] at hr
  split at hr
  ·rename_i id off hx
   split at hr
   ·rename_i b ty cells z hm hz
    split at hr
    ·rename_i hl
     split at hr
     ·rename_i v hv
      simp only [Option.some.injEq] at hr; subst hr
      refine ⟨v, rfl, ?_⟩
      have hl' := Nat.eq_of_beq_eq_true hl
      have hg := (h.boxAt hm).1
      have := run_loadVar (P := P) (w := w) (b := b) (off := off) hz hl' (fun i y hy => by
       rw [cell_box hg]
       rw [List.getElem?_take] at hy
       split at hy
       ·rwa [List.getElem?_drop] at hy
       ·cases hy) hv
      have he := h.env x _ hx
      simp only [toVal, hm, Option.some.injEq] at he
      simp only [resSem]
      rw [← he]
      simp [asAddr, this]
     ·cases hr
    ·cases hr
   ·cases hr
  ·cases hr
theorem readAll_sound {st : St} {V : View} {a : Act} {w : World} (h : Inv w0 M V0 n st V a w) : ∀ {rs : List ResultVar} {l : List SV}, readAll P st rs = some l →
  ∃ vs, toVals st.mem l = some vs ∧ (rs.mapM (resSem a.tmps)).run P w = .ok vs w
 | [], l, hr => by simp only [readAll, Option.some.injEq] at hr; subst hr; exact ⟨[], rfl, rfl⟩
 | r :: rs, l, hr => by
  simp only [readAll] at hr
  split at hr
  ·rename_i s ss hs hss
   simp only [Option.some.injEq] at hr; subst hr
   obtain ⟨v, hv, hrun⟩ := readRes_sound h hs
   obtain ⟨vs, hvs, hruns⟩ := readAll_sound h hss
   refine ⟨v :: vs, by simp [toVals, hv, hvs], ?_⟩
   rw [List.mapM_cons, Sem.run_bind, hrun]
   simp only [Result.andThen_ok, Sem.run_bind, hruns]
   rfl
  ·cases hr
theorem results_sound {fn : Func} {st : St} {V : View} {a : Act} {w : World} (h : Inv w0 M V0 n st V a w) {l : List SV} (hr : readAll P st fn.results.toList = some l) :
  ∃ vs, toVals st.mem l = some vs ∧ (results fn a.tmps).run P w = .ok (packVals vs) w := by
 obtain ⟨vs, hvs, hrun⟩ := readAll_sound h hr
 refine ⟨vs, hvs, ?_⟩
 have hr' : results fn a.tmps = (do let vs ← fn.results.mapM (resSem a.tmps); pure (if h : vs.size = 1 then vs[0] else .tuple vs)) := by
  unfold results
  congr 1
 rw [hr', Array.mapM_eq_mapM_toList, map_eq_pure_bind, bind_assoc]
 simp only [pure_bind]
 rw [Sem.run_bind, hrun]
 simp only [Result.andThen_ok, Sem.run_pure]
 match vs with
 | [] => rfl
 | [v] => rfl
 | _ :: _ :: _ => rfl
end
def updL : List (Nat × Res) → (Nat → Option Res) → Nat → Option Res
 | [], m => m
 | (i, r) :: l, m => upd (updL l m) i r
def delL : List Nat → (Nat → Option Res) → Nat → Option Res
 | [], m => m
 | i :: l, m => del (delL l m) i
theorem updL_cases : ∀ {l : List (Nat × Res)} {m : Nat → Option Res} {i : Nat} {r : Res}, updL l m i = some r → (i, r) ∈ l ∨ (i ∉ l.map (·.1) ∧ m i = some r)
 | [], m, i, r, h => .inr ⟨by simp, h⟩
 | (j, s) :: l, m, i, r, h => by
  unfold updL at h
  by_cases hi : i = j
  ·subst hi; rw [upd_same, Option.some.injEq] at h; subst h; exact .inl (by simp)
  ·rw [upd_ne _ _ hi] at h
   rcases updL_cases h with h1 | ⟨h1, h2⟩
   ·exact .inl (List.mem_cons_of_mem _ h1)
   ·exact .inr ⟨by simp only [List.map_cons, List.mem_cons, not_or]; exact ⟨hi, h1⟩, h2⟩
theorem delL_some : ∀ {l : List Nat} {m : Nat → Option Res} {i : Nat} {r : Res}, delL l m i = some r → i ∉ l ∧ m i = some r
 | [], m, i, r, h => ⟨by simp, h⟩
 | j :: l, m, i, r, h => by
  unfold delL at h
  by_cases hi : i = j
  ·subst hi; rw [del_same] at h; cases h
  ·rw [del_ne _ hi] at h
   have := delL_some h
   exact ⟨by simp only [List.mem_cons, not_or]; exact ⟨hi, this.1⟩, this.2⟩
section
variable {P : Program} {f : FuncId} {args : List Value} {V : View} {mem : Nat → Option Res} {K : SV → View → (Nat → Option Res) → Prop} {R : Value → View → List Res → Prop}
theorem CallN.gen (ids : List Nat) (hnd : ids.Nodup) {bs : List Res} (hids : ids.map mem = bs.map some) (h : Does P f args V bs R)
  (k : ∀ v V' bs', V.le V' → R v V' bs' → ∃ (outs : List (Nat × Res)) (s : SV), outs.map (·.2) = bs' ∧ (outs.map (·.1)).Nodup ∧ (∀ t x, toVal mem t = some x → toVal (updL outs (delL ids mem)) t = some x) ∧
   toVal (updL outs (delL ids mem)) s = some v ∧ K s V' (updL outs (delL ids mem))) : CallN P f args V mem K := by
 refine ⟨fun w hw => ?_⟩
 have hget : ∀ (i : Nat) (r : Res), bs[i]? = some r → ∃ k, ids[i]? = some k ∧ mem k = some r := by
  intro i r hi
  have := congrArg (fun l => l[i]?) hids
  simp only [List.getElem?_map, hi, Option.map_some] at this
  cases hk : ids[i]? with
  | none => rw [hk] at this; cases this
  | some k => rw [hk] at this; exact ⟨k, rfl, by simpa using this⟩
 have hmem : ∀ r, r ∈ bs → ∃ k, k ∈ ids ∧ mem k = some r := fun r hr => by
  obtain ⟨i, hi⟩ := List.mem_iff_getElem?.1 hr
  obtain ⟨k, hk, hm⟩ := hget i r hi
  exact ⟨k, List.mem_of_getElem? hk, hm⟩
 have hbm : ∀ b, blksOf bs b → blksM mem b := fun b ⟨r, hr, hb⟩ => by
  obtain ⟨k, _, hm⟩ := hmem r hr
  exact ⟨k, r, hm, hb⟩
 have hpre : Pre V bs w := by
  refine ⟨hw.sub, fun i r hi => ?_, fun i j r r' b hij hi hj hb hb' => ?_⟩
  ·obtain ⟨k, _, hm⟩ := hget i r hi; exact hw.ok k r hm
  ·obtain ⟨k, hk1, hm⟩ := hget i r hi
   obtain ⟨k', hk2, hm'⟩ := hget j r' hj
   refine hw.apart k k' r r' b (fun e => ?_) hm hm' hb hb'
   subst e
   exact hij ((List.getElem?_inj (List.getElem?_eq_some_iff.1 hk1).1 hnd).1 (hk1.trans hk2.symm))
 refine (h w hpre).mono fun e w' ⟨v, V', bs', he, hR, hp, hk, hg, hn⟩ => ?_
 obtain ⟨outs, s, houts, hnd2, hsame, hs, hK⟩ := k v V' bs' hg.1 hR
 have stay : ∀ i r, i ∉ ids → mem i = some r → ∀ b, r.blk = some b → b < w.heap.size ∧ ¬ blksOf bs b := fun i r hi hr b hb => by
  refine ⟨blk_lt (hw.ok i r hr) hb, fun ⟨r', hr', hb'⟩ => ?_⟩
  obtain ⟨j, hj, hm⟩ := hmem r' hr'
  exact hw.apart i j r r' b (fun e => hi (e ▸ hj)) hr hm hb hb'
 have hout : ∀ i r, (i, r) ∈ outs → ∃ j : Nat, bs'[j]? = some r ∧ outs[j]? = some (i, r) := fun i r hr => by
  obtain ⟨j, hj⟩ := List.mem_iff_getElem?.1 hr
  exact ⟨j, by rw [← houts, List.getElem?_map, hj]; rfl, hj⟩
 have hcases : ∀ i r, updL outs (delL ids mem) i = some r → (i, r) ∈ outs ∨ (i ∉ ids ∧ mem i = some r) := fun i r hr => by
  rcases updL_cases hr with h1 | ⟨_, h1⟩
  ·exact .inl h1
  ·exact .inr (delL_some h1)
 refine ⟨v, s, V', updL outs (delL ids mem), he, hs, hK, hsame, ⟨hp.sub, fun i r hr => ?_, fun i j r r' b hij hi hj hb hb' => ?_⟩, ?_, ?_, ?_⟩
 ·rcases hcases i r hr with h1 | ⟨h1, h2⟩
  ·obtain ⟨j, hj, _⟩ := hout i r h1
   exact hp.ok j r hj
  ·refine (hw.ok i r h2).keep (fun b hb => ?_) (fun b hb o hV => ?_)
   ·obtain ⟨hlt, hnb⟩ := stay i r h1 h2 b hb
    exact hk.block b hlt hnb
   ·obtain ⟨hlt, hnb⟩ := stay i r h1 h2 b hb
    cases hv : V' b o with
    | none => rfl
    | some u =>
     rcases hg.2 b o u hv with h3 | h3 | h3
     ·rw [hV] at h3; cases h3
     ·omega
     ·exact absurd h3 hnb
 ·rcases hcases i r hi with h1 | ⟨h1, h2⟩
  ·obtain ⟨x, hx, hx2⟩ := hout i r h1
   rcases hcases j r' hj with h3 | ⟨h3, h4⟩
   ·obtain ⟨y, hy, hy2⟩ := hout j r' h3
    refine hp.apart x y r r' b (fun e => ?_) hx hy hb hb'
    subst e
    rw [hx2] at hy2
    simp only [Option.some.injEq, Prod.mk.injEq] at hy2
    exact hij hy2.1
   ·obtain ⟨hlt, hnb⟩ := stay j r' h3 h4 b hb'
    rcases hn b ⟨r, List.mem_of_getElem? hx, hb⟩ with h5 | h5
    ·exact hnb h5
    ·omega
  ·obtain ⟨hlt, hnb⟩ := stay i r h1 h2 b hb
   rcases hcases j r' hj with h3 | ⟨h3, h4⟩
   ·obtain ⟨y, hy, hy2⟩ := hout j r' h3
    rcases hn b ⟨r', List.mem_of_getElem? hy, hb'⟩ with h5 | h5
    ·exact hnb h5
    ·omega
   ·exact hw.apart i j r r' b hij h2 h4 hb hb'
 ·exact ⟨hk.os, hk.tape, hk.output, hk.size, fun b hb hm => hk.block b hb (fun h1 => hm (hbm b h1))⟩
 ·refine ⟨hg.1, fun b o u hu => ?_⟩
  rcases hg.2 b o u hu with h1 | h1 | h1
  ·exact .inl h1
  ·exact .inr (.inl h1)
  ·exact .inr (.inr (hbm b h1))
 ·intro b ⟨i, r, hr, hb⟩
  rcases hcases i r hr with h1 | ⟨_, h2⟩
  ·obtain ⟨x, hx, _⟩ := hout i r h1
   rcases hn b ⟨r, List.mem_of_getElem? hx, hb⟩ with h5 | h5
   ·exact .inl (hbm b h5)
   ·exact .inr h5
  ·exact .inl ⟨i, r, h2, hb⟩
theorem CallN.pure (h : Does P f args V [] R) (k : ∀ v V' bs', V.le V' → R v V' bs' → K (.v v) V' mem) : CallN P f args V mem K :=
 CallN.gen (R := fun v V' bs' => bs' = [] ∧ ∃ bs', R v V' bs') [] (by simp) (bs := []) rfl (fun w hw => (h w hw).mono fun e w' ⟨v, V', bs', he, hR, hp, hk, hg, _⟩ =>
   ⟨v, V', [], he, ⟨rfl, bs', hR⟩, ⟨hp.sub, fun i r hi => by simp at hi, fun i j r r' b _ hi => by simp at hi⟩, hk, hg, fun b ⟨r, hr, _⟩ => by cases hr⟩)
  (fun v V' bs' hle ⟨hb, bs2, hR⟩ => ⟨[], .v v, by simp [hb], by simp, fun _ _ hx => hx, rfl, k v V' bs2 hle hR⟩)
theorem CallN.box (id : Nat) {b : Nat} {t : TypeId} {cells : List Value} (hm : mem id = some (.box b t cells)) (h : Does P f args V [.box b t cells] R)
  (k : ∀ v V' bs', V.le V' → R v V' bs' → ∃ t' cells', bs' = [.box b t' cells'] ∧ K (.v v) V' (upd (del mem id) id (.box b t' cells'))) : CallN P f args V mem K :=
 CallN.gen [id] (by simp) (bs := [.box b t cells]) (by simp [hm]) h fun v V' bs' hle hR => by
  obtain ⟨t', cells', hb, hK⟩ := k v V' bs' hle hR
  refine ⟨[(id, .box b t' cells')], .v v, by simp [hb], by simp, fun s x hx => ?_, rfl, hK⟩
  show toVal (upd (del mem id) id (.box b t' cells')) s = some x
  rw [upd_del]
  cases s with
  | v y => exact hx
  | kb y => exact hx
  | own i o =>
   by_cases hi : i = id
   ·subst hi
    simp only [toVal, hm] at hx
    simp only [toVal, upd_same]; exact hx
   ·simp only [toVal, upd_ne _ _ hi]; exact hx
  | row i =>
   by_cases hi : i = id
   ·subst hi
    simp only [toVal, hm] at hx
    cases hx
   ·simp only [toVal, upd_ne _ _ hi]; exact hx
theorem CallN.new (d : Nat) (hd : mem d = none) (h : Does P f args V [] R)
  (k : ∀ v V' bs', V.le V' → R v V' bs' → ∃ r s, bs' = [r] ∧ toVal (upd mem d r) s = some v ∧ K s V' (upd mem d r)) : CallN P f args V mem K :=
 CallN.gen [] (by simp) (bs := []) rfl h fun v V' bs' hle hR => by
  obtain ⟨r, s, hb, hs, hK⟩ := k v V' bs' hle hR
  refine ⟨[(d, r)], s, by simp [hb], by simp, fun t x hx => ?_, hs, hK⟩
  show toVal (upd mem d r) t = some x
  rw [← hx]
  exact toVal_of fun i hi => upd_ne _ _ (fun e => by
   subst e
   cases t with
   | v y => cases hi
   | kb y => cases hi
   | own j o => simp only [SV.name, Option.some.injEq] at hi; subst hi; simp [toVal, hd] at hx
   | row j => simp only [SV.name, Option.some.injEq] at hi; subst hi; simp [toVal, hd] at hx)
end
def envOf : List (Nat × SV) → Nat → Option SV
 | [] => fun _ => none
 | (k, s) :: l => upd (envOf l) k s
def St.of (env : List (Nat × SV)) (ms : List (Nat × Res)) : St := ⟨envOf env, memOf ms⟩
def St.holds (st : St) : List (Nat × Res) → Prop
 | [] => True
 | (i, r) :: l => st.mem i = some r ∧ st.holds l
theorem LoopN.mk' {σ : Type} (sh : σ → St) (inv : Nat → σ → View → Prop) {round : (Ex → St → View → Prop) → St → View → Prop} {K : Ex → St → View → Prop} {st : St} {V : View} (k : Nat) (x : σ)
  (hw : Weak (sh x) st V) (h0 : inv k x V)
  (hr : ∀ k x V, inv k x V → round (fun e st' V' => match e with | .normal => ∃ m st'', m < k ∧ Weak st'' st' V' ∧ ∃ y, st'' = sh y ∧ inv m y V' | e => K e st' V') (sh x) V) : LoopN round K st V :=
 ⟨⟨fun k st V => ∃ x, st = sh x ∧ inv k x V, ⟨k, sh x, hw, x, rfl, h0⟩, fun k st V ⟨x, hst, hi⟩ => by subst hst; exact hr k x V hi⟩⟩
end Go.X
end
