/- One part of a proof: an evaluator of the model, shown right, and contracts that it yields. No condition beyond those that each theorem names. -/
import Derived.Test.YtenpginanhnkbaaX1
namespace Go.X

def sizeB (P : Program) (t : TypeId) : Option Nat := match P.info? t with | some i => some i.size | none => none
/-- the offset of a field whose type has cells -/
def fieldOff (P : Program) (t : TypeId) (f : Nat) : Option Nat := match P.underlying t with
  | some (.struct fs) => (match fs[f]? with
    | some x => (match sizeB P x.type with | some 0 => none | some _ => some x.offset | none => none)
    | none => none)
  | _ => none
def asVar (P : Program) (t : TypeId) (l : List Value) : Option Value := match P.underlying t with
  | some (.struct _) => some (.agg l.toArray)
  | some (.array _ _) => some (.agg l.toArray)
  | some _ => match l with | [x] => some x | _ => none
  | none => none
def allOne (l : List Value) : Bool := match l with | [] => true | v :: r => match v.oneCell' with | true => allOne r | false => false

def setAt : List Value → Nat → List Value → List Value
  | l, _, [] => l
  | [], _, _ => []
  | _ :: r, 0, x :: xs => x :: setAt r 0 xs
  | y :: r, n + 1, x :: xs => y :: setAt r n (x :: xs)

inductive Eff where
  | val (s : SV)
  | pick (c : Bool) (s1 s2 : SV)
  | ldv (t : TypeId) (b off n : Nat)
  | idx (base : Option Addr) (len : Nat) (i : Int) (size : Nat)
  | sem (s : Sem Value)
  | box (t : TypeId) (cells : List Value)
  | lit (e : TypeId) (len : Nat) (cells : List Value)
  | sto (id off : Nat) (cells : List Value)
  | call (f : FuncId) (args : List Value)
  | app (s : SV) (e : TypeId) (size bytes : Nat) (x : Value)
  | bad

def pureVal (P : Program) (s : Sem Value) : Eff := match pureRun P s with | some v => .val (.v v) | none => .bad

def callOk (P : Program) (f : FuncId) : Bool := match P.funcs[f]? with
  | some fn => !(fn.name == "runtime.NumGoroutine") && fn.body.isSome
  | none => false

def litSem (t : TypeId) (len : Nat) (parts : Array (Nat × Value)) : Sem (TypeId × Array Value) := do
  let .slice elem ← underlying t | stuck "buildSlice: slice type expected"
  let size ← sizeOf elem
  if len * size > 2 ^ 24 then unsupported (.resourceLimit "buildSlice: more than 2^24 cells")
  let zero ← if len * size = 0 then pure #[] else do pure (← zeroValue elem).cells
  let some cells := Instr.fill (fun i => some (i * size, size)) ((Array.range (len * size)).map (zero[· % zero.size]!)) parts.toList
    | stuck "buildSlice: a part of the wrong size"
  pure (elem, cells)
theorem buildSlice_eq (t : TypeId) (len : Nat) (parts : Array (Nat × Value)) : Instr.buildSlice t len parts = (litSem t len parts >>= fun x => do pure (.slice (some (← newRow x.1 x.2)) len len)) := by
  unfold Instr.buildSlice litSem
  simp only [bind_assoc]
  congr 1; funext d
  cases d <;> try rfl
  simp only [bind_assoc]
  congr 1; funext sz
  by_cases h : len * sz > 2 ^ 24
  · simp only [h, if_true]; rfl
  · simp only [h, if_false]
    by_cases h2 : len * sz = 0
    · simp only [h2, if_true, pure_bind]
      split
      · rename_i hx; simp only [hx, pure_bind]
      · rename_i hx; split
        · rename_i hy; exact absurd hy (hx _)
        · rfl
    · simp only [h2, if_false, bind_assoc, pure_bind]
      congr 1; funext z
      split
      · rename_i hx; simp only [hx, pure_bind]
      · rename_i hx; split
        · rename_i hy; exact absurd hy (hx _)
        · rfl

def placesB (P : Program) : List Field → Option (List (Nat × Nat))
  | [] => some []
  | f :: l => match sizeB P f.type, placesB P l with | some z, some r => some ((f.offset, z) :: r) | _, _ => none
def fillB (place : Nat → Option (Nat × Nat)) (cells : List Value) : List (Nat × Value) → Option (List Value)
  | [] => some cells
  | (i, v) :: rest => match place i with
    | none => none
    | some (off, size) => match Nat.beq v.cells.size size, Nat.ble (off + v.cells.size) cells.length with
      | true, true => fillB place (setAt cells off v.cells.toList) rest
      | _, _ => none
def repB (z : List Value) : Nat → List Value
  | 0 => []
  | n + 1 => z ++ repB z n
def buildB (P : Program) (t : TypeId) (l : List (Nat × Value)) : Option (List Value) := match P.info? t with
  | some i => match i.zero with
    | some z => match P.underlying t with
      | some (.struct fs) => (match placesB P fs.toList with
        | some ps => fillB (fun k => ps[k]?) z.cells.toList l
        | none => none)
      | some (.array _ e) => (match sizeB P e with
        | some s => fillB (fun k => some (k * s, s)) z.cells.toList l
        | none => none)
      | _ => none
    | none => none
  | none => none
def litB (P : Program) (t : TypeId) (len : Nat) (l : List (Nat × Value)) : Option (TypeId × List Value) := match P.underlying t with
  | some (.slice e) => match P.info? e with
    | some i => match i.zero with
      | some z => (match Nat.beq z.cells.size i.size, Nat.ble (len * i.size) 16777216 with
        | true, true => (match fillB (fun k => some (k * i.size, i.size)) (repB z.cells.toList len) l with
          | some cells => some (e, cells)
          | none => none)
        | _, _ => none)
      | none => none
    | none => none
  | _ => none

/-- operations whose outcome the prover says: structs held together, a divisor or a shift that is not written out -/
def byHand (op : BinOp) (y : Operand) (a : Value) : Bool := match op with
  | .eql | .neq => (match a with | .agg _ => true | _ => false)
  | .quo | .rem | .shl | .shr => (match y with | .const _ => false | _ => true)
  | _ => false

/-- what an operation does, its operands read off the state -/
def effOf (P : Program) (o : Oper) (st : St) : Eff :=
  match o.op with
  | .move x => match opd st.env x with | some s => .val s | none => .bad
  | .assign x => match opd st.env x with | some s => .val s | none => .bad
  | .pick c a b => match opd st.env c with
    | some (.kb true) => match opd st.env a with | some s => .val s | none => .bad
    | some (.kb false) => match opd st.env b with | some s => .val s | none => .bad
    | some (.v (.bool c)) => match opd st.env a, opd st.env b with | some s, some t => .pick c s t | _, _ => .bad
    | _ => .bad
  | .box t x => match st.val x with | some v => .box t v.cells.toList | none => .bad
  | .alloc t => match P.info? t with
    | some i => match i.zero with | some z => .box t z.cells.toList | none => .bad
    | none => .bad
  | .load t a => match opd st.env a with
    | some (.own id off) => match st.mem id, sizeB P t with
      | some (.box _ _ cells), some n => match asVar P t ((cells.drop off).take n) with
        | some v => (match Nat.beq ((cells.drop off).take n).length n with | true => .val (.v v) | false => .bad)
        | none => .bad
      | _, _ => .bad
    | some (.v (.pointer (some ⟨b, off, none⟩))) => match sizeB P t with | some n => .ldv t b off n | none => .bad
    | _ => .bad
  | .store t a x => match opd st.env a, st.val x, sizeB P t with
    | some (.own id off), some v, some n => match Nat.beq v.cells.size n, allOne v.cells.toList with
      | true, true => .sto id off v.cells.toList
      | _, _ => .bad
    | _, _, _ => .bad
  | .fieldAddr s x f => match opd st.env x, fieldOff P s f with
    | some (.own id off), some k => .val (.own id (off + k))
    | some (.v (.pointer (some ⟨b, off, none⟩))), some k => .val (.v (.pointer (some ⟨b, off + k, none⟩)))
    | _, _ => .bad
  | .indexAddr t x i => match P.underlying t with
    | some (.slice e) => match st.val x, st.val i, sizeB P e with
      | some (.slice base len _), some (.int _ n), some z => .idx base len n z
      | _, _, _ => .bad
    | some (.array len e) => match opd st.env x, st.val i, sizeB P e with
      | some (.own id off), some (.int _ (.ofNat n)), some z => (match Nat.blt n len with | true => .val (.own id (off + n * z)) | false => .bad)
      | some (.v (.pointer (some ⟨b, off, none⟩))), some (.int _ (.ofNat n)), some z => (match Nat.blt n len with | true => .val (.v (.pointer (some ⟨b, off + n * z, none⟩))) | false => .bad)
      | _, _, _ => .bad
    | _ => .bad
  | .binOp op t x y _ => match st.val x, st.val y with
    | some a, some b => (match byHand op y a with
      | true => .sem (do eqGuard op t x y a b; binOp op t a b)
      | false => pureVal P (do eqGuard op t x y a b; binOp op t a b))
    | _, _ => .bad
  | .unOp op _ x => match st.val x with | some a => pureVal P (Op.unary op a) | none => .bad
  | .convert src dst x => match st.val x with | some a => pureVal P (convert src dst a) | none => .bad
  | .makeInterface t x => match st.val x with | some a => pureVal P (Instr.makeInterface t a) | none => .bad
  | .extract t i => match st.val t with | some a => pureVal P (Instr.extract a i) | none => .bad
  | .field t x f => match st.val x with | some a => pureVal P (Instr.field t a f) | none => .bad
  | .index t x i => match P.underlying t with
    | some .string => match st.val x, st.val i with | some a, some b => .sem (Instr.index t a b) | _, _ => .bad
    | _ => match st.val x, st.val i with | some a, some b => pureVal P (Instr.index t a b) | _, _ => .bad
  | .build t ps => match st.parts ps.toList with | some l => (match buildB P t l with | some cells => .val (.v (.agg cells.toArray)) | none => .bad) | none => .bad
  | .buildSlice t len ps => match st.parts ps.toList with
    | some l => match litB P t len l with
      | some (e, cells) => .lit e len cells
      | none => .bad
    | none => .bad
  | .makeFunc fn first captured => match st.vals first.toList, st.vals captured.toList with
    | some a, some b => .val (.v (.func fn a.toArray b.toArray))
    | _, _ => .bad
  | .nilCheck x => match opd st.env x with
    | some (.own id off) => .val (.own id off)
    | some (.v (.pointer (some a))) => .val (.v (.pointer (some a)))
    | _ => .bad
  | .call c => match c.callee with
    | .value f => match st.val f, st.vals c.args.toList with
      | some (.func (.func g) first captured), some args => match callOk P g with
        | true => .call g (first.toList ++ args ++ captured.toList)
        | false => .bad
      | _, _ => .bad
    | .builtin .append => match c.args.toList, c.argTypes.toList with
      | [s, x], [t, t'] => match Nat.beq t' t, P.underlying t with
        | true, some (.slice e) => match P.info? e with
          | some i => match i.zero with
            | some z => match Nat.beq z.cells.size i.size, Nat.blt 0 i.size, opd st.env s, st.val x with
              | true, true, some sv, some xv => .app sv e i.size i.bytes xv
              | _, _, _, _ => .bad
            | none => .bad
          | none => .bad
        | _, _ => .bad
      | _, _ => .bad
    | .builtin .len => match st.vals c.args.toList with | some l => pureVal P (Builtin.len_ c.argTypes o.type l.toArray) | none => .bad
    | .builtin .cap => match st.vals c.args.toList with | some l => pureVal P (Builtin.cap_ c.argTypes o.type l.toArray) | none => .bad
    | .builtin .min => match st.vals c.args.toList with | some l => .sem (Builtin.min_ c.argTypes o.type l.toArray) | none => .bad
    | .builtin .max => match st.vals c.args.toList with | some l => .sem (Builtin.max_ c.argTypes o.type l.toArray) | none => .bad
    | _ => .bad
  | _ => .bad

/-- a new box: pointers to an elder box of that name are forgotten -/
def St.newBox (st : St) (d : Nat) (r : Res) : St := match st.mem d with
  | none => ⟨upd st.env d (.own d 0), upd st.mem d r⟩
  | some _ => ⟨upd (fun n => match st.env n with | some (.own i k) => (match Nat.beq i d with | true => none | false => some (.own i k)) | some (.row i) => (match Nat.beq i d with | true => none | false => some (.row i)) | x => x) d (.own d 0), upd st.mem d r⟩

/-- a name that is forgotten: what leant on it is a plain value from now on -/
def demote (mem : Nat → Option Res) (g : Nat) : SV → Option SV
  | .own i o => (match Nat.beq i g with | true => (match toVal mem (.own i o) with | some v => some (.v v) | none => none) | false => some (.own i o))
  | .row i => (match Nat.beq i g with | true => (match toVal mem (.row i) with | some v => some (.v v) | none => none) | false => some (.row i))
  | x => some x
def purge (env : Nat → Option SV) (mem : Nat → Option Res) (g : Nat) : Nat → Option SV := fun k => match env k with
  | some s => demote mem g s
  | none => none
def St.forget (st : St) (g : Nat) : St := ⟨purge st.env st.mem g, del st.mem g⟩
/-- a row under a new name (the elder one is used up) -/
def St.newRow (st : St) (gone : Option Nat) (d : Nat) (r : Res) : St := match gone with
  | none => ⟨upd (purge st.env st.mem d) d (.row d), upd st.mem d r⟩
  | some g => ⟨upd (purge (purge st.env st.mem g) (del st.mem g) d) d (.row d), upd (del st.mem g) d r⟩

def goneOf : SV → Option Nat
  | .row i => some i
  | _ => none
/-- where an append has put its row -/
structure AppOk (V : View) (mem : Nat → Option Res) (gone : Option Nat) (v v' : Value) (V' : View) : Prop where
  blk : ∀ g, rowBlk v' = some g → rowBlk v = some g ∨ ∀ o, V g o = none
  new : ∀ b o u, V' b o = some u → V b o = some u ∨ rowBlk v' = some b
  free : ∀ i r, mem i = some r → gone ≠ some i → ∀ g, rowBlk v' = some g → r.blk ≠ some g
/-- append onto a slice that is owned (or empty, without room) -/
structure AppN (V : View) (mem : Nat → Option Res) (gone : Option Nat) (v : Value) (n size bytes : Nat) (x : Value) (K : Value → Nat → View → Prop) : Prop where
  get : ∃ xs news m, V.cells v xs ∧ xs.length = n * size ∧ (∃ base cap, x = .slice base m cap) ∧ V.cells x news ∧ news.length = m * size ∧ (∀ u ∈ news, u.oneCell' = true) ∧
    n + m ≤ maxLen ∧ (n + m) * bytes ≤ 140737488355328 ∧ ∀ v' V', V.le V' → V'.cells v' (xs ++ news) → (∃ base cap, v' = .slice base (n + m) cap ∧ n + m ≤ cap) → AppOk V mem gone v v' V' → K v' (n + m) V'

def effRun (P : Program) (o : Oper) (e : Eff) (st : St) (V : View) (K : St → View → Prop) : Prop :=
  match e with
  | .val s => K (st.put o.dst s) V
  | .pick c s t => Br c (K (st.put o.dst s) V) (K (st.put o.dst t) V)
  | .ldv t b off n => LoadN V b off n (fun l => match asVar P t l with | some v => K (st.put o.dst (.v v)) V | none => Stuck o)
  | .idx base len i size => IdxN base len i size (fun b off => K (st.put o.dst (.v (.pointer (some ⟨b, off, none⟩)))) V)
  | .sem s => SemN P s (fun v => K (st.put o.dst (.v v)) V)
  | .box t cells => match o.dst with
    | some d => ∀ blk : Nat, K (st.newBox d (.box blk t cells)) V
    | none => Stuck o
  | .lit _ len cells => ∀ (b : Nat) (V' : View), V.le V' → V'.has b 0 cells → K (st.put o.dst (.v (.slice (some ⟨b, 0, none⟩) len len))) V'
  | .sto id off cells => match st.mem id with
    | some (.box b t old) => (match Nat.ble (off + cells.length) old.length with | true => K ((⟨st.env, upd st.mem id (.box b t (setAt old off cells))⟩ : St).put o.dst (.v undef)) V | false => Stuck o)
    | _ => Stuck o
  | .call f args => CallN P f args V st.mem (fun s V' mem' => K ((⟨st.env, mem'⟩ : St).put o.dst s) V')
  | .app s e size bytes x => match o.dst with
    | some d => (match s with
      | .row id => (match st.mem id with
        | some (.row v ty sz n) => (match Nat.beq ty e, Nat.beq sz size with
          | true, true => AppN V st.mem (some id) v n size bytes x (fun v' n' V' => K (st.newRow (some id) d (.row v' e size n')) V')
          | _, _ => Stuck o)
        | _ => Stuck o)
      | .v (.slice base 0 0) => AppN V st.mem none (.slice base 0 0) 0 size bytes x (fun v' n' V' => K (st.newRow none d (.row v' e size n')) V')
      | _ => Stuck o)
    | none => Stuck o
  | .bad => Stuck o

def xop (P : Program) (o : Oper) (st : St) (V : View) (K : St → View → Prop) : Prop := effRun P o (effOf P o st) st V K

def dstOf (ops : Array Oper) (j : Nat) : Option Nat := match ops[j]? with | some o => o.dst | none => none

def xops (P : Program) (ops : Array Oper) (K : St → View → Prop) : List Oper → St → View → Prop
  | [], st, V => K st V
  | o :: rest, st, V =>
    match o.guard with
    | none => xop P o st V (xops P ops K rest)
    | some (j, want) => match dstOf ops j with
      | none => Stuck o
      | some d => match st.env d with
        | some (.kb b) => (match b, want with
          | true, true => xop P o st V (xops P ops K rest)
          | false, false => xop P o st V (xops P ops K rest)
          | _, _ => xops P ops K rest (st.put o.dst (.v undef)) V)
        | some (.v (.bool b)) => Br b
          (match want with | true => xop P o ⟨upd st.env d (.kb true), st.mem⟩ V (xops P ops K rest) | false => xops P ops K rest ((⟨upd st.env d (.kb true), st.mem⟩ : St).put o.dst (.v undef)) V)
          (match want with | false => xop P o ⟨upd st.env d (.kb false), st.mem⟩ V (xops P ops K rest) | true => xops P ops K rest ((⟨upd st.env d (.kb false), st.mem⟩ : St).put o.dst (.v undef)) V)
        | some (.v (.tuple _)) => xops P ops K rest (st.put o.dst (.v undef)) V
        | _ => Stuck o

inductive Ex where
  | normal
  | ret
  | exit (id : Nat)

/-- a loop, as it is left to the prover; 'weak' states that know less -/
structure LoopN (round : (Ex → St → View → Prop) → St → View → Prop) (K : Ex → St → View → Prop) (st : St) (V : View) : Prop where
  get : ∃ I : Nat → St → View → Prop, (∃ n st', Weak st' st V ∧ I n st' V) ∧
    ∀ n st V, I n st V → round (fun e st' V' => match e with | .normal => ∃ m st'', m < n ∧ Weak st'' st' V' ∧ I m st'' V' | e => K e st' V') st V

def xcode (P : Program) : Code → (Ex → St → View → Prop) → St → View → Prop
  | .skip, K, st, V => K .normal st V
  | .region _ ops false, K, st, V => xops P ops (K .normal) ops.toList st V
  | .seq a b, K, st, V => xcode P a (fun e st V => match e with | .normal => xcode P b K st V | .ret => K .ret st V | .exit i => K (.exit i) st V) st V
  | .cond c a b, K, st, V => match opd st.env c with
    | some (.kb true) => xcode P a K st V
    | some (.kb false) => xcode P b K st V
    | some (.v (.bool c)) => Br c (xcode P a K st V) (xcode P b K st V)
    | _ => False
  | .block id b, K, st, V => xcode P b (fun e st V => match e with
      | .exit id' => (match Nat.beq id' id with | true => K .normal st V | false => K (.exit id') st V)
      | .normal => K .normal st V
      | .ret => K .ret st V) st V
  | .loop b, K, st, V => LoopN (xcode P b) K st V
  | .exit id, K, st, V => K (.exit id) st V
  | .ret, K, st, V => K .ret st V
  | _, _, _, _ => False

def readRes (P : Program) (st : St) : ResultVar → Option SV
  | .tmp t => st.env t
  | .cell a t => match st.env a with
    | some (.own id off) => match st.mem id, sizeB P t with
      | some (.box _ _ cells), some n => (match Nat.beq ((cells.drop off).take n).length n with | true => (match asVar P t ((cells.drop off).take n) with | some v => some (.v v) | none => none) | false => none)
      | _, _ => none
    | _ => none
def readAll (P : Program) (st : St) : List ResultVar → Option (List SV)
  | [] => some []
  | r :: l => match readRes P st r, readAll P st l with | some v, some vs => some (v :: vs) | _, _ => none
def toVals (mem : Nat → Option Res) : List SV → Option (List Value)
  | [] => some []
  | s :: l => match toVal mem s, toVals mem l with | some v, some vs => some (v :: vs) | _, _ => none
/-- what a function hands back: the resources by their names -/
structure RetN (v : Value) (mem : Nat → Option Res) (V : View) (R : Value → View → List Res → Prop) : Prop where
  get : ∃ ids : List Nat, ids.Nodup ∧ ∃ bs : List Res, ids.map mem = bs.map some ∧ R v V bs

def packVals : List Value → Value
  | [v] => v
  | vs => .tuple vs.toArray

def initEnv : List SV → Nat → (Nat → Option SV)
  | [], _ => fun _ => none
  | s :: l, n => upd (initEnv l (n + 1)) n s

def xfun (P : Program) (fn : Func) (args : List SV) (mem : Nat → Option Res) (V : View) (R : Value → View → List Res → Prop) : Prop :=
  match fn.body with
  | some c => xcode P c (fun e st V => match e with
      | .exit _ => False
      | _ => match readAll P st fn.results.toList with
        | some l => (match toVals st.mem l with
          | some vs => RetN (packVals vs) st.mem V R
          | none => False)
        | none => False) ⟨initEnv args 0, mem⟩ V
  | none => False
end Go.X
