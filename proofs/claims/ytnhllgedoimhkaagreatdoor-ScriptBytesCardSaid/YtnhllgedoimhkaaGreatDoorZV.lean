/- One part of a proof: an evaluator of the model, shown right, and contracts that it yields. No condition beyond those that each theorem names. -/
import Derived.Test.YtnhllgedoimhkaaGreatDoorZFC
set_option linter.unusedSimpArgs false
set_option linter.unusedVariables false
set_option linter.unusedSectionVars false
set_option linter.deprecated false
section
namespace Go.Z
open Go.X
noncomputable section
abbrev GetT := EA → Option Value
abbrev SetT := EA → Value → (EA → Ans) → Ans
inductive LS where
 | nil
 | cons (k : EA → Heap → Nat → Ans) (r : LS)
inductive VS where
 | mk (call : CallT) (ls : LS) (h : Heap) (nx : Nat)
abbrev MT := EA → VS → Ans
inductive MB where
 | mk (m : MT)
inductive GB where
 | mk (g : GetT)
inductive SB where
 | mk (s : SetT)
abbrev PT := EA → VS → (Value → Ans) → Ans
inductive PB where
 | mk (p : PT)
 | none
def vsH (st : VS) : Heap := @VS.rec (fun _ => Heap) (fun _ _ h _ => h) st
def runB (b : MB) (env : EA) (st : VS) : Ans := @MB.rec (fun _ => MT) (fun m => m) b env st
def mNo (w : List String) : MT := fun _ _ => .no w
def gE (g : EB → Option Value) (G : EA → EB) (env : EA) : Option Value := g (G env)
def gC (v : Value) (_ : EA) : Option Value := some v
def gNo (_ : EA) : Option Value := none
def gTmp (t : Nat) : GB := @Acc.rec (fun _ => GB) (fun g G _ _ => .mk (gE g G)) (.mk gNo) (accOf t)
def cG (x : Operand) : GB := @Operand.rec (fun _ => GB) gTmp (fun c => @Bool.rec (fun _ => GB) (.mk gNo) (.mk (gC c)) (plainD c)) (fun _ => .mk gNo) (fun f => .mk (gC (.func (.func f) #[] #[]))) x
def sE (G : EA → EB) (s : EB → Option Value → (EB → Ans) → Ans) (S : EA → EB → (EA → Ans) → Ans) (env : EA) (v : Value) (k : EA → Ans) : Ans := s (G env) (some v) fun b => S env b k
def sNo (_ : EA) (_ : Value) (_ : EA → Ans) : Ans := .no ["temporaries"]
def sSkip (env : EA) (_ : Value) (k : EA → Ans) : Ans := k env
def cS (dst : Option Nat) : SB := @Option.rec Nat (fun _ => SB) (.mk sSkip) (fun d => @Acc.rec (fun _ => SB) (fun _ G s S => .mk (sE G s S)) (.mk sNo) (accOf d)) dst
def kB (K : MB) (st : VS) (env : EA) : Ans := @MB.rec (fun _ => MT) (fun m => m) K env st
def kS (s : SetT) (K : MB) (env : EA) (st : VS) (v : Value) : Ans := s env v (kB K st)
def pMove (g : GetT) (wo : List String) (env : EA) (_ : VS) (k : Value → Ans) : Ans := @Option.rec Value (fun _ => Ans) (.no wo) k (g env)
def pBin2 (P : Program) (op : BinOp) (t : TypeId) (w : List String) (st : VS) (k : Value → Ans) (u v : Value) : Ans := qBinA op t P (vsH st) u v (.no w) k
def pBin1 (P : Program) (op : BinOp) (t : TypeId) (b : GetT) (wo w : List String) (env : EA) (st : VS) (k : Value → Ans) (u : Value) : Ans := @Option.rec Value (fun _ => Ans) (.no wo) (pBin2 P op t w st k u) (b env)
def pBin (P : Program) (op : BinOp) (t : TypeId) (a b : GetT) (wo w : List String) (env : EA) (st : VS) (k : Value → Ans) : Ans := @Option.rec Value (fun _ => Ans) (.no wo) (pBin1 P op t b wo w env st k) (a env)
def pLoad1 (P : Program) (t : TypeId) (x : Operand) (ty : TypeId) (w : List String) (st : VS) (k : Value → Ans) (v : Value) : Ans := vPtr v (qSlow (.load t x) P (vsH st) ty [v] (.no w) k) fun n off => loadA P (vsH st) t n off (.no w) k
def pLoad (P : Program) (t : TypeId) (x : Operand) (ty : TypeId) (g : GetT) (wo w : List String) (env : EA) (st : VS) (k : Value → Ans) : Ans := @Option.rec Value (fun _ => Ans) (.no wo) (pLoad1 P t x ty w st k) (g env)
def pField1 (P : Program) (s : TypeId) (f : Nat) (w : List String) (k : Value → Ans) (v : Value) : Ans := vPtr v (.no w) fun n off => oN (fieldOff P s f) (.no w) fun q => fN (Nat.add off q) fun m => k (.pointer (some ⟨n, m, none⟩))
def pField (P : Program) (s : TypeId) (f : Nat) (g : GetT) (wo w : List String) (env : EA) (_ : VS) (k : Value → Ans) : Ans := @Option.rec Value (fun _ => Ans) (.no wo) (pField1 P s f w k) (g env)
def pExtr1 (i : Nat) (w : List String) (k : Value → Ans) (v : Value) : Ans := vTup v (.no w) fun l => lnth i l (.no w) k
def pExtr (i : Nat) (g : GetT) (wo w : List String) (env : EA) (_ : VS) (k : Value → Ans) : Ans := @Option.rec Value (fun _ => Ans) (.no wo) (pExtr1 i w k) (g env)
def pIdx2 (P : Program) (t : TypeId) (x i : Operand) (ty : TypeId) (w : List String) (st : VS) (k : Value → Ans) (u v : Value) : Ans :=
 vSl u (qSlow (.indexAddr t x i) P (vsH st) ty [u, v] (.no w) k) fun a len _ => vInt v (.no w) fun _ m => iNat m (.no w) fun q => oN (elZ P t) (.no w) fun z => bA (Nat.blt q len) (.no w) (oA a (.no w) fun n off _ => fN (Nat.add off (Nat.mul q z)) fun m => k (.pointer (some ⟨n, m, none⟩)))
def pIdx1 (P : Program) (t : TypeId) (x i : Operand) (ty : TypeId) (b : GetT) (wo w : List String) (env : EA) (st : VS) (k : Value → Ans) (u : Value) : Ans := @Option.rec Value (fun _ => Ans) (.no wo) (pIdx2 P t x i ty w st k u) (b env)
def pIdx (P : Program) (t : TypeId) (x i : Operand) (ty : TypeId) (a b : GetT) (wo w : List String) (env : EA) (st : VS) (k : Value → Ans) : Ans := @Option.rec Value (fun _ => Ans) (.no wo) (pIdx1 P t x i ty b wo w env st k) (a env)
def pNil1 (P : Program) (x : Operand) (ty : TypeId) (w : List String) (st : VS) (k : Value → Ans) (v : Value) : Ans := vPtr v (qSlow (.nilCheck x) P (vsH st) ty [v] (.no w) k) fun _ _ => k v
def pNil (P : Program) (x : Operand) (ty : TypeId) (g : GetT) (wo w : List String) (env : EA) (st : VS) (k : Value → Ans) : Ans := @Option.rec Value (fun _ => Ans) (.no wo) (pNil1 P x ty w st k) (g env)
def pPick3 (w : List String) (k : Value → Ans) (c a b : Value) : Ans := vBool c (.no w) fun t => bA t (k b) (k a)
def pPick2 (g : GetT) (wo w : List String) (env : EA) (k : Value → Ans) (c a : Value) : Ans := @Option.rec Value (fun _ => Ans) (.no wo) (pPick3 w k c a) (g env)
def pPick1 (a b : GetT) (wo w : List String) (env : EA) (k : Value → Ans) (c : Value) : Ans := @Option.rec Value (fun _ => Ans) (.no wo) (pPick2 b wo w env k c) (a env)
def pPick (c a b : GetT) (wo w : List String) (env : EA) (_ : VS) (k : Value → Ans) : Ans := @Option.rec Value (fun _ => Ans) (.no wo) (pPick1 a b wo w env k) (c env)
abbrev Pt := Program → TypeId → List String → List String → PB
def p_none (_ : Op) : Pt := fun _ _ _ _ => .none
def withG (x : Operand) (f : GetT → PB) : PB := @GB.rec (fun _ => PB) f (cG x)
def p_move (x : Operand) : Pt := fun _ _ wo _ => withG x fun g => .mk (pMove g wo)
def p_fieldAddr (s : TypeId) (x : Operand) (f : Nat) : Pt := fun P _ wo w => withG x fun g => .mk (pField P s f g wo w)
def p_extract (x : Operand) (i : Nat) : Pt := fun _ _ wo w => withG x fun g => .mk (pExtr i g wo w)
def p_indexAddr (t : TypeId) (x i : Operand) : Pt := fun P ty wo w => withG x fun a => withG i fun b => .mk (pIdx P t x i ty a b wo w)
def p_nilCheck (x : Operand) : Pt := fun P ty wo w => withG x fun g => .mk (pNil P x ty g wo w)
def p_pick (c a b : Operand) : Pt := fun _ _ wo w => withG c fun gc => withG a fun ga => withG b fun gb => .mk (pPick gc ga gb wo w)
def p_load (t : TypeId) (x : Operand) : Pt := fun P ty wo w => withG x fun g => .mk (pLoad P t x ty g wo w)
def p_binOp (op : BinOp) (t : TypeId) (x y : Operand) (_ : TypeId) : Pt := fun P _ wo w => withG x fun a => withG y fun b => .mk (pBin P op t a b wo w)
def cP (op : Op) : Pt := @Op.rec (fun _ => Pt) p_move p_move p_pick (fun (x0 : TypeId) => p_none (.alloc x0)) (fun (x0 : TypeId) (x1 : Operand) => p_none (.box x0 x1)) (fun (x0 : TypeId) (x1 : Array (Nat × Operand)) => p_none (.build x0 x1)) (fun (x0 : TypeId) (x1 : Nat) (x2 : Array (Nat × Operand)) => p_none (.buildSlice x0 x1 x2)) (fun (x0 : TypeId) (x1 : Operand) (x2 : Operand) (x3 : Operand) => p_none (.insert x0 x1 x2 x3)) p_load (fun (x0 : TypeId) (x1 : Operand) (x2 : Operand) => p_none (.store x0 x1 x2)) (fun (x0 : Nat) => p_none (.ready x0)) (fun (x0 : Nat) => p_none (.waits x0)) p_nilCheck p_binOp (fun (x0 : UnOp) (x1 : TypeId) (x2 : Operand) => p_none (.unOp x0 x1 x2)) (fun (x0 : TypeId) (x1 : TypeId) (x2 : Operand) => p_none (.convert x0 x1 x2)) (fun (x0 : TypeId) (x1 : Operand) => p_none (.sliceToArrayPointer x0 x1)) (fun (x0 : TypeId) (x1 : Operand) => p_none (.makeInterface x0 x1)) (fun (x0 : Fn) (x1 : Array Operand) (x2 : Array Operand) => p_none (.makeFunc x0 x1 x2)) (fun (x0 : TypeId) (x1 : Option Operand) => p_none (.makeMap x0 x1)) (fun (x0 : TypeId) (x1 : Operand) => p_none (.makeChan x0 x1)) (fun (x0 : TypeId) (x1 : Operand) (x2 : Operand) => p_none (.makeSlice x0 x1 x2)) (fun (x0 : TypeId) (x1 : Operand) (x2 : Option Operand) (x3 : Option Operand) (x4 : Option Operand) => p_none (.slice x0 x1 x2 x3 x4)) p_fieldAddr (fun (x0 : TypeId) (x1 : Operand) (x2 : Nat) => p_none (.field x0 x1 x2)) p_indexAddr (fun (x0 : TypeId) (x1 : Operand) (x2 : Operand) => p_none (.index x0 x1 x2)) (fun (x0 : TypeId) (x1 : Operand) (x2 : Operand) (x3 : Bool) => p_none (.lookup x0 x1 x2 x3)) (fun (x0 : TypeId) (x1 : Operand) (x2 : Operand) (x3 : Operand) => p_none (.mapUpdate x0 x1 x2 x3)) (fun (x0 : TypeId) (x1 : Operand) (x2 : Operand) => p_none (.mapEntry x0 x1 x2)) (fun (x0 : TypeId) (x1 : Operand) (x2 : Operand) (x3 : Operand) => p_none (.entryStore x0 x1 x2 x3)) (fun (x0 : TypeId) (x1 : Operand) => p_none (.range x0 x1)) (fun (x0 : Operand) (x1 : Bool) => p_none (.next x0 x1)) (fun (x0 : Operand) => p_none (.entry x0)) (fun (x0 : Operand) (x1 : TypeId) (x2 : TypeId) (x3 : Bool) => p_none (.typeAssert x0 x1 x2 x3)) p_extract (fun (x0 : Call) => p_none (.call x0)) (fun (x0 : Call) => p_none (.go x0)) (fun (x0 : Call) => p_none (.defer x0)) (fun (x0 : Operand) => p_none (.panic x0)) (fun (x0 : Operand) (x1 : Operand) => p_none (.send x0 x1)) (fun (x0 : TypeId) (x1 : Operand) (x2 : Bool) => p_none (.recv x0 x1 x2)) (fun (x0 : Array SelectCase) (x1 : Bool) => p_none (.select x0 x1)) op
def mGen (E : Env) (op : Op) (ty : TypeId) (w : List String) (s : SetT) (K : MB) (env : EA) (st : VS) : Ans :=
 @VS.rec (fun _ => Ans) (fun call ls h nx => opX op E call bkAll ty env h nx (.no w) (fun v => kS s K env (.mk call ls h nx) v) fun v h nx => s env v fun env => kB K (.mk call ls h nx) env) st
def mP (p : PT) (s : SetT) (K : MB) (env : EA) (st : VS) : Ans := p env st (kS s K env st)
def cOpU (E : Env) (o : Oper) (K : MB) : MB := @SB.rec (fun _ => MB) (fun s => @PB.rec (fun _ => MB) (fun p => .mk (mP p s K)) (.mk (mGen E o.op o.type [o.pos] s K)) (cP o.op E.P o.type [o.pos] [o.pos])) (cS o.dst)
def mSetU (s : SetT) (K : MB) (env : EA) (st : VS) : Ans := s env undef (kB K st)
def cSkip (o : Oper) (K : MB) : MB := @SB.rec (fun _ => MB) (fun s => .mk (mSetU s K)) (cS o.dst)
def mGate2 (want : Bool) (skip go : MB) (env : EA) (st : VS) (b : Bool) : Ans := runB (@Bool.rec (fun _ => MB) (@Bool.rec (fun _ => MB) go skip want) (@Bool.rec (fun _ => MB) skip go want) b) env st
def mGate1 (want : Bool) (skip go : MB) (w : List String) (env : EA) (st : VS) (v : Value) : Ans := vBool v (vTup v (.no w) fun _ => runB skip env st) (mGate2 want skip go env st)
def mGate (g : GetT) (want : Bool) (skip go : MB) (w : List String) (env : EA) (st : VS) : Ans := @Option.rec Value (fun _ => Ans) (.no w) (mGate1 want skip go w env st) (g env)
def cGate (ops : Array Oper) (o : Oper) (skip go : MB) : MB :=
 @Option.rec (Nat × Bool) (fun _ => MB) go (fun p => @Option.rec Nat (fun _ => MB) (.mk (mNo [o.pos, "guard"])) (fun d => @GB.rec (fun _ => MB) (fun g => .mk (mGate g p.2 skip go [o.pos, "guard"])) (gTmp d)) (dstOf ops p.1)) o.guard
def cOp (E : Env) (ops : Array Oper) (o : Oper) (K : MB) : MB := cGate ops o (cSkip o K) (cOpU E o K)
def cOps (E : Env) (ops : Array Oper) (l : List Oper) (K : MB) : MB := @List.rec Oper (fun _ => MB) K (fun o _ ih => cOp E ops o ih) l
def mSel (E : Env) (o : Oper) (s : SetT) (K : MB) (env : EA) (st : VS) : Ans :=
 @VS.rec (fun _ => Ans) (fun call ls h nx => selA E.P o env h (.no [o.pos, "select"]) fun v h => s env v fun env => kB K (.mk call ls h nx) env) st
def cSel (E : Env) (ops : Array Oper) (o : Oper) (rest : List Oper) (K : MB) : MB := @SB.rec (fun _ => MB) (fun s => .mk (mSel E o s (cOps E ops rest K))) (cS o.dst)
def cPlain (E : Env) (ops : Array Oper) (K : MB) : MB := @List.rec Oper (fun _ => MB) K (fun o rest _ => @Bool.rec (fun _ => MB) (cOps E ops (o :: rest) K) (cSel E ops o rest K) (isSelect o.op)) ops.toList
abbrev DT := List Watch → EA → VS → Ans
inductive DB where
 | mk (m : DT)
def runD (b : DB) (ws : List Watch) (env : EA) (st : VS) : Ans := @DB.rec (fun _ => DT) (fun m => m) b ws env st
def dNo (w : List String) : DT := fun _ _ _ => .no w
def kD (K : DB) (ws : List Watch) (st : VS) (env : EA) : Ans := @DB.rec (fun _ => DT) (fun m => m) K ws env st
def dEnd (P : Program) (K : MB) (ws : List Watch) (env : EA) (st : VS) : Ans := allHF P (vsH st) ws (.no ["late"]) (runB K env st)
def dGate2 (want : Bool) (skip go : DB) (ws : List Watch) (env : EA) (st : VS) (b : Bool) : Ans := runD (@Bool.rec (fun _ => DB) (@Bool.rec (fun _ => DB) go skip want) (@Bool.rec (fun _ => DB) skip go want) b) ws env st
def dGate1 (want : Bool) (skip go : DB) (w : List String) (ws : List Watch) (env : EA) (st : VS) (v : Value) : Ans := vBool v (vTup v (.no w) fun _ => runD skip ws env st) (dGate2 want skip go ws env st)
def dGate (g : GetT) (want : Bool) (skip go : DB) (w : List String) (ws : List Watch) (env : EA) (st : VS) : Ans := @Option.rec Value (fun _ => Ans) (.no w) (dGate1 want skip go w ws env st) (g env)
def cGateD (ops : Array Oper) (o : Oper) (w : List String) (skip go : DB) : DB :=
 @Option.rec (Nat × Bool) (fun _ => DB) go (fun p => @Option.rec Nat (fun _ => DB) (.mk (dNo w)) (fun d => @GB.rec (fun _ => DB) (fun g => .mk (dGate g p.2 skip go w)) (gTmp d)) (dstOf ops p.1)) o.guard
def dSetU (s : SetT) (K : DB) (ws : List Watch) (env : EA) (st : VS) : Ans := s env undef (kD K ws st)
def dS (s : SetT) (K : DB) (ws : List Watch) (env : EA) (st : VS) (v : Value) : Ans := s env v (kD K ws st)
def dP (p : PT) (s : SetT) (K : DB) (ws : List Watch) (env : EA) (st : VS) : Ans := p env st (dS s K ws env st)
def dQuiet (P : Program) (i : Nat) (o : Oper) (s : SetT) (K : DB) (ws : List Watch) (env : EA) (st : VS) : Ans :=
 argsK (opnds o.op) env (.no [o.pos, "operand"]) fun args => quietA o.op P (vsH st) o.type args (.no [o.pos]) fun v => s env v (kD K (@Bool.rec (fun _ => List Watch) ws (⟨i, o.op, o.type, args, v, none⟩ :: ws) (reads o.op)) st)
def dLays (P : Program) (i : Nat) (o : Oper) (s : SetT) (K : DB) (ws : List Watch) (env : EA) (st : VS) : Ans :=
 @VS.rec (fun _ => Ans) (fun call ls h nx => argsK (opnds o.op) env (.no [o.pos, "operand"]) fun args => laysO o.op P args nx (.no [o.pos]) fun v ob => Tr.insF 40 h nx (some ob) fun h => s env v fun env => fN (Nat.succ nx) fun nx' => kD K (⟨i, o.op, o.type, args, v, some (nx, ob)⟩ :: ws) (.mk call ls h nx') env) st
def dBad (o : Oper) (ws : List Watch) (env : EA) (st : VS) : Ans := argsK (opnds o.op) env (.no [o.pos, "operand"]) fun _ => .no [o.pos]
def dLoud (E : Env) (ms : List Nat) (i : Nat) (o : Oper) (s : SetT) (K : DB) (ws : List Watch) (env : EA) (st : VS) : Ans :=
 @VS.rec (fun _ => Ans) (fun call ls h nx => argsK (opnds o.op) env (.no [o.pos, "operand"]) fun args => stepA E call bkOne o.op o.type args h nx (.no [o.pos]) (fun _ => .no [o.pos, "quiet"]) fun v h nx => s env v fun env => dropF ms i ws fun ws => kD K ws (.mk call ls h nx) env) st
def dHold (P : Program) (w : List String) (K : DB) (ws : List Watch) (env : EA) (st : VS) : Ans := allHF P (vsH st) ws (.no w) (runD K ws env st)
def bD (b : Bool) (f t : DB) : DB := @Bool.rec (fun _ => DB) f t b
def cTake (E : Env) (i : Nat) (o : Oper) (K : DB) : DB :=
 @SB.rec (fun _ => DB) (fun s => @Nat.rec (fun _ => DB)
  (@Bool.rec (fun _ => DB) (@PB.rec (fun _ => DB) (fun p => .mk (dP p s K)) (.mk (dQuiet E.P i o s K)) (cP o.op E.P o.type [o.pos, "operand"] [o.pos])) (.mk (dQuiet E.P i o s K)) (reads o.op))
  (fun c _ => @Nat.rec (fun _ => DB) (.mk (dLays E.P i o s K)) (fun _ _ => .mk (dBad o)) c) (cls E.P o.op)) (cS o.dst)
def cSkipD (o : Oper) (K : DB) : DB := @SB.rec (fun _ => DB) (fun s => .mk (dSetU s K)) (cS o.dst)
abbrev Rd := Todo → Nat → DB
def cScan (P : Program) (ops : Array Oper) (done : Nat) (l : Todo) (none : DB) (some : Nat → Oper → Bool → Todo → DB) : DB :=
 @List.rec (Nat × Oper) (fun _ => DB → (Nat → Oper → Bool → Todo → DB) → DB) (fun none _ => none)
  (fun x r ih none some => bD (readyF done x.2) (ih none fun i o b r => some i o b (x :: r))
   (cGateD ops x.2 [x.2.pos, "guard"] (some x.1 x.2 false r) (bD (is2 P x.2.op) (some x.1 x.2 true r) (ih none fun i o b r => some i o b (x :: r))))) l none some
def cPickL (done : Nat) (l : Todo) (none : DB) (some : Nat → Oper → Todo → DB) : DB :=
 @List.rec (Nat × Oper) (fun _ => DB → (Nat → Oper → Todo → DB) → DB) (fun none _ => none)
  (fun x r ih none some => bD (readyF done x.2) (ih none fun i o r => some i o (x :: r)) (some x.1 x.2 r)) l none some
def cLoud (E : Env) (ops : Array Oper) (ms : List Nat) (ih : Rd) (done : Nat) (i : Nat) (o : Oper) (rest : Todo) : DB :=
 .mk (dHold E.P [o.pos, "late"] (bD (noneRF done rest) (.mk (dNo [o.pos, "drawn"])) (cGateD ops o [o.pos, "guard"] (.mk (dNo [o.pos, "drawn"])) (bD (is2 E.P o.op) (.mk (dNo [o.pos, "drawn"]))
  (@SB.rec (fun _ => DB) (fun s => .mk (dLoud E ms i o s (ih rest (Nat.lor done (Nat.pow 2 i))))) (cS o.dst))))))
def cStepD (E : Env) (ops : Array Oper) (ms : List Nat) (K : MB) (ih : Rd) (todo : Todo) (done : Nat) : DB :=
 bD (isNilT todo)
  (cScan E.P ops done todo (cPickL done todo (.mk (dNo ["none ready"])) (cLoud E ops ms ih done))
   fun i o b rest => bD b (cSkipD o (ih rest (Nat.lor done (Nat.pow 2 i)))) (cTake E i o (ih rest (Nat.lor done (Nat.pow 2 i)))))
  (.mk (dEnd E.P K))
def cD (E : Env) (ops : Array Oper) (ms : List Nat) (K : MB) (f : Nat) : Rd := @Nat.rec (fun _ => Rd) (fun _ _ => .mk (dNo ["drawn"])) (fun _ ih => cStepD E ops ms K ih) f
def mDraw (D : DB) (env : EA) (st : VS) : Ans := runD D [] env st
def cDraw (E : Env) (ops : Array Oper) (K : MB) : MB := .mk (mDraw (cD E ops (masks ops.toList []) K (ops.size + 1) (tagOps 0 ops.toList) 0))
abbrev Xs := Nat → MB
abbrev Ct := MB → Xs → MB
def mCond2 (A B : MB) (env : EA) (st : VS) (t : Bool) : Ans := runB (@Bool.rec (fun _ => MB) B A t) env st
def mCond1 (A B : MB) (env : EA) (st : VS) (v : Value) : Ans := vBool v (.no ["cond"]) (mCond2 A B env st)
def mCond (g : GetT) (A B : MB) (env : EA) (st : VS) : Ans := @Option.rec Value (fun _ => Ans) (.no ["cond"]) (mCond1 A B env st) (g env)
def mCont (env : EA) (st : VS) : Ans := @VS.rec (fun _ => Ans) (fun _ ls h nx => @LS.rec (fun _ => EA → Heap → Nat → Ans) (fun _ _ _ => .no ["loop"]) (fun k _ _ => k) ls env h nx) st
def mPop (K : MB) (env : EA) (st : VS) : Ans := @VS.rec (fun _ => Ans) (fun call ls h nx => @LS.rec (fun _ => Ans) (.no ["loop"]) (fun _ r _ => runB K env (.mk call r h nx)) ls) st
def lpM (body : MB) (call : CallT) (ls : LS) (n : Nat) : EA → Heap → Nat → Ans := @Nat.rec (fun _ => EA → Heap → Nat → Ans) (fun _ _ _ => .no ["rounds"]) (fun _ ih env h nx => runB body env (.mk call (.cons ih ls) h nx)) n
def mLoopN (n : Nat) (body : MB) (env : EA) (st : VS) : Ans := @VS.rec (fun _ => Ans) (fun call ls h nx => lpM body call ls n env h nx) st
def mRet (P : Program) (fn : Func) (env : EA) (st : VS) : Ans := @VS.rec (fun _ => Ans) (fun _ _ h nx => retF P fn env h nx) st
def t_no : Ct := fun _ _ => .mk (mNo ["code"])
def cC (E : Env) (R : MB) (c : Code) : Ct :=
 @Code.rec (fun _ => Ct) (fun K _ => K) (fun _ ops d K _ => @Bool.rec (fun _ => MB) (cPlain E ops K) (cDraw E ops K) d) (fun _ _ a b K X => a (b K X) X)
  (fun c _ _ a b K X => @GB.rec (fun _ => MB) (fun g => .mk (mCond g (a K X) (b K X))) (cG c)) (fun id _ a K X => a K fun i => @Bool.rec (fun _ => MB) (X i) K (Nat.beq i id))
  (fun _ a _ X => .mk (mLoopN 1000000 (a (.mk mCont) fun i => .mk (mPop (X i))))) (fun _ _ _ _ _ _ => t_no) (fun id _ X => X id) (fun _ _ => t_no) (fun _ => t_no) (fun _ => t_no) (fun _ _ => R) (fun _ => t_no) c
def xNo : Xs := fun _ => .mk (mNo ["exit"])
def cBody (E : Env) (fn : Func) : MB := @Option.rec Code (fun _ => MB) (.mk (mNo ["body"])) (fun c => cC E (.mk (mRet E.P fn)) c (.mk (mRet E.P fn)) xNo) fn.body
def stB : Code → Bool
 | .region _ ops d => (match d with | false => true | true => staticB ops)
 | .seq a b => (match stB a with | true => stB b | false => false)
 | .cond _ a b => (match stB a with | true => stB b | false => false)
 | .block _ a => stB a
 | .loop a => stB a
 | _ => true
def fnSt (fn : Func) : Bool := match fn.body with
 | some c => codeB fn c && stB c
 | none => false
def allSt (P : Program) (mask : Nat) : Bool := (List.range P.funcs.size).all fun f => !mask.testBit f || (match P.funcs[f]? with | some fn => fnSt fn | none => false)
def fnV (E : Env) (call : CallT) (fn : Func) (args : List Value) (h : Heap) (nx : Nat) : Ans :=
 bA (Nat.ble args.length fn.ntmps) (.no [fn.name, "args"]) (initF args 0 EA.nil fun env => runB (cBody E fn) env (.mk call .nil h nx))
def nthFn (f : Nat) (l : List Func) : Option Func :=
 @Nat.rec (fun _ => List Func → Option Func) (fun l => @List.rec Func (fun _ => Option Func) none (fun x _ _ => some x) l) (fun _ ih l => @List.rec Func (fun _ => (List Func → Option Func) → Option Func) (fun _ => none) (fun _ r _ ih => ih r) l ih) f l
def stV (E : Env) (mask : Nat) (call : CallT) (f : FuncId) (args : List Value) (h : Heap) (nx : Nat) : Ans :=
 @Option.rec (Heap → Nat → List Value → Option (List Out)) (fun _ => Ans) (@Option.rec Func (fun _ => Ans) (.no ["func"]) (fun fn => bA (Nat.testBit mask f) (.no [fn.name, "not looked at"]) (fnV E call fn args h nx)) (nthFn f E.P.funcs.toList)) (fun p => primF p args h nx) (E.prim f)
def runV (E : Env) (mask : Nat) (d : Nat) : CallT := @Nat.rec (fun _ => CallT) (fun _ _ _ _ => .no ["depth"]) (fun _ ih => stV E mask ih) d
end
noncomputable section
theorem cG_get (x : Operand) {g : GetT} (h : cG x = .mk g) (env : EA) (no : Ans) (k : Value → Ans) : evF x env no k = @Option.rec Value (fun _ => Ans) no k (g env) := by
 cases x with
 | tmp t =>
  have e1 : cG (.tmp t) = @Acc.rec (fun _ => GB) (fun g G _ _ => .mk (gE g G)) (.mk gNo) (accOf t) := rfl
  have e2 : evF (.tmp t) env no k = @Acc.rec (fun _ => EA → Ans → (Value → Ans) → Ans) (fun g G _ _ env no k => oV (g (G env)) no k) (fun _ no _ => no) (accOf t) env no k := rfl
  rw [e1] at h
  rw [e2]
  generalize accOf t = ac at h ⊢
  cases ac with
  | mk g0 G s S =>
   cases h
   show oV (g0 (G env)) no k = @Option.rec Value (fun _ => Ans) no k (g0 (G env))
   cases g0 (G env) <;> rfl
  | no => cases h; rfl
 | const c =>
  have e1 : cG (.const c) = @Bool.rec (fun _ => GB) (.mk gNo) (.mk (gC c)) (plainD c) := rfl
  have e2 : evF (.const c) env no k = @Bool.rec (fun _ => Value → Ans → (Value → Ans) → Ans) (fun _ no _ => no) (fun c _ k => k c) (plainD c) c no k := rfl
  rw [e1] at h
  rw [e2]
  generalize plainD c = b at h ⊢
  cases b with
  | false => cases h; rfl
  | true => cases h; rfl
 | global g => cases h; rfl
 | func f => cases h; rfl
theorem gTmp_get (t : Nat) {g : GetT} (h : gTmp t = .mk g) (env : EA) (no : Ans) (k : Value → Ans) : getE t env no k = @Option.rec Value (fun _ => Ans) no k (g env) := cG_get (.tmp t) h env no k
theorem cS_set (dst : Option Nat) {s : SetT} (h : cS dst = .mk s) (env : EA) (v : Value) (k : EA → Ans) : setE dst env v k = s env v k := by
 cases dst with
 | none => cases h; rfl
 | some d =>
  have e1 : cS (some d) = @Acc.rec (fun _ => SB) (fun _ G s S => .mk (sE G s S)) (.mk sNo) (accOf d) := rfl
  have e2 : setE (some d) env v k = @Acc.rec (fun _ => EA → Value → (EA → Ans) → Ans) (fun g G s S e v k => s (G e) (some v) fun b => S e b k) (fun _ _ _ => .no ["temporaries"]) (accOf d) env v k := rfl
  rw [e1] at h
  rw [e2]
  generalize accOf d = ac at h ⊢
  cases ac with
  | mk g0 G s S => cases h; rfl
  | no => cases h; rfl
theorem withG_mk {x : Operand} {f : GetT → PB} {p : PT} (h : withG x f = .mk p) : ∃ g, cG x = .mk g ∧ f g = .mk p := by
 unfold withG at h
 cases hg : cG x with
 | mk g => rw [hg] at h; exact ⟨g, rfl, h⟩
section
variable {E : Env} {call : CallT} {ls : LS} {h : Heap} {nx : Nat} {env : EA}
theorem cP_plain (op : Op) (ty : TypeId) (w : List String) {p : PT} (hp : cP op E.P ty w w = .mk p) (bk : Bk) (k : Value → Ans) (kl : Kl) :
  p env (.mk call ls h nx) k = opX op E call bk ty env h nx (.no w) k kl := by
 cases op with
 | move x =>
  obtain ⟨g, hg, e⟩ := withG_mk (show withG x (fun g => .mk (pMove g w)) = .mk p from hp)
  cases e
  exact (cG_get x hg env (.no w) k).symm
 | assign x =>
  obtain ⟨g, hg, e⟩ := withG_mk (show withG x (fun g => .mk (pMove g w)) = .mk p from hp)
  cases e
  exact (cG_get x hg env (.no w) k).symm
 | fieldAddr s x f =>
  obtain ⟨g, hg, e⟩ := withG_mk (show withG x (fun g => .mk (pField E.P s f g w w)) = .mk p from hp)
  cases e
  exact (cG_get x hg env (.no w) _).symm
 | extract x i =>
  obtain ⟨g, hg, e⟩ := withG_mk (show withG x (fun g => .mk (pExtr i g w w)) = .mk p from hp)
  cases e
  exact (cG_get x hg env (.no w) _).symm
 | load t x =>
  obtain ⟨g, hg, e⟩ := withG_mk (show withG x (fun g => .mk (pLoad E.P t x ty g w w)) = .mk p from hp)
  cases e
  exact (cG_get x hg env (.no w) _).symm
 | nilCheck x =>
  obtain ⟨g, hg, e⟩ := withG_mk (show withG x (fun g => .mk (pNil E.P x ty g w w)) = .mk p from hp)
  cases e
  exact (cG_get x hg env (.no w) _).symm
 | binOp op t x y u =>
  obtain ⟨a, ha, e⟩ := withG_mk (show withG x (fun a => withG y fun b => .mk (pBin E.P op t a b w w)) = .mk p from hp)
  obtain ⟨b, hb, e⟩ := withG_mk e
  cases e
  refine ((cG_get x ha env (.no w) _).trans ?_).symm
  unfold pBin
  congr 1
  funext u
  exact cG_get y hb env (.no w) _
 | indexAddr t x i =>
  obtain ⟨a, ha, e⟩ := withG_mk (show withG x (fun a => withG i fun b => .mk (pIdx E.P t x i ty a b w w)) = .mk p from hp)
  obtain ⟨b, hb, e⟩ := withG_mk e
  cases e
  refine ((cG_get x ha env (.no w) _).trans ?_).symm
  unfold pIdx
  congr 1
  funext u
  exact cG_get i hb env (.no w) _
 | pick c a b =>
  obtain ⟨gc, hc, e⟩ := withG_mk (show withG c (fun gc => withG a fun ga => withG b fun gb => .mk (pPick gc ga gb w w)) = .mk p from hp)
  obtain ⟨ga, ha, e⟩ := withG_mk e
  obtain ⟨gb, hb, e⟩ := withG_mk e
  cases e
  refine ((cG_get c hc env (.no w) _).trans ?_).symm
  unfold pPick
  congr 1
  funext u
  refine (cG_get a ha env (.no w) _).trans ?_
  unfold pPick1
  congr 1
  funext v
  exact cG_get b hb env (.no w) _
 | _ => cases hp
theorem cP_drawn (op : Op) (ty : TypeId) (wo w : List String) {p : PT} (hp : cP op E.P ty wo w = .mk p) (k : Value → Ans) :
  p env (.mk call ls h nx) k = argsK (opnds op) env (.no wo) fun args => quietA op E.P h ty args (.no w) k := by
 cases op with
 | move x =>
  obtain ⟨g, hg, e⟩ := withG_mk (show withG x (fun g => .mk (pMove g wo)) = .mk p from hp)
  cases e
  exact (cG_get x hg env (.no wo) k).symm
 | assign x =>
  obtain ⟨g, hg, e⟩ := withG_mk (show withG x (fun g => .mk (pMove g wo)) = .mk p from hp)
  cases e
  exact (cG_get x hg env (.no wo) k).symm
 | fieldAddr s x f =>
  obtain ⟨g, hg, e⟩ := withG_mk (show withG x (fun g => .mk (pField E.P s f g wo w)) = .mk p from hp)
  cases e
  exact (cG_get x hg env (.no wo) _).symm
 | extract x i =>
  obtain ⟨g, hg, e⟩ := withG_mk (show withG x (fun g => .mk (pExtr i g wo w)) = .mk p from hp)
  cases e
  exact (cG_get x hg env (.no wo) _).symm
 | load t x =>
  obtain ⟨g, hg, e⟩ := withG_mk (show withG x (fun g => .mk (pLoad E.P t x ty g wo w)) = .mk p from hp)
  cases e
  exact (cG_get x hg env (.no wo) _).symm
 | nilCheck x =>
  obtain ⟨g, hg, e⟩ := withG_mk (show withG x (fun g => .mk (pNil E.P x ty g wo w)) = .mk p from hp)
  cases e
  exact (cG_get x hg env (.no wo) _).symm
 | binOp op t x y u =>
  obtain ⟨a, ha, e⟩ := withG_mk (show withG x (fun a => withG y fun b => .mk (pBin E.P op t a b wo w)) = .mk p from hp)
  obtain ⟨b, hb, e⟩ := withG_mk e
  cases e
  refine ((cG_get x ha env (.no wo) _).trans ?_).symm
  unfold pBin
  congr 1
  funext u
  exact cG_get y hb env (.no wo) _
 | indexAddr t x i =>
  obtain ⟨a, ha, e⟩ := withG_mk (show withG x (fun a => withG i fun b => .mk (pIdx E.P t x i ty a b wo w)) = .mk p from hp)
  obtain ⟨b, hb, e⟩ := withG_mk e
  cases e
  refine ((cG_get x ha env (.no wo) _).trans ?_).symm
  unfold pIdx
  congr 1
  funext u
  exact cG_get i hb env (.no wo) _
 | pick c a b =>
  obtain ⟨gc, hc, e⟩ := withG_mk (show withG c (fun gc => withG a fun ga => withG b fun gb => .mk (pPick gc ga gb wo w)) = .mk p from hp)
  obtain ⟨ga, ha, e⟩ := withG_mk e
  obtain ⟨gb, hb, e⟩ := withG_mk e
  cases e
  refine ((cG_get c hc env (.no wo) _).trans ?_).symm
  unfold pPick
  congr 1
  funext u
  refine (cG_get a ha env (.no wo) _).trans ?_
  unfold pPick1
  congr 1
  funext v
  exact cG_get b hb env (.no wo) _
 | _ => cases hp
theorem cOpU_eq (o : Oper) (K : MB) : runB (cOpU E o K) env (.mk call ls h nx) = opX o.op E call bkAll o.type env h nx (.no [o.pos]) (fun v => setE o.dst env v fun env => runB K env (.mk call ls h nx)) (fun v h nx => setE o.dst env v fun env => runB K env (.mk call ls h nx)) := by
 unfold cOpU
 cases hs : cS o.dst with
 | mk s =>
  have e : ∀ (env : EA) (v : Value) (k : EA → Ans), setE o.dst env v k = s env v k := fun env v k => cS_set o.dst hs env v k
  simp only [e]
  show runB (@PB.rec (fun _ => MB) (fun p => .mk (mP p s K)) (.mk (mGen E o.op o.type [o.pos] s K)) (cP o.op E.P o.type [o.pos] [o.pos])) env (.mk call ls h nx) = _
  cases hp : cP o.op E.P o.type [o.pos] [o.pos] with
  | mk p => exact cP_plain o.op o.type [o.pos] hp bkAll _ _
  | none => rfl
theorem cGate_eq (ops : Array Oper) (o : Oper) (skip go : MB) (st : VS) : runB (cGate ops o skip go) env st = gateF ops o env (.no [o.pos, "guard"]) (runB skip env st) (runB go env st) := by
 obtain ⟨dst, op, type, pos, after, guard⟩ := o
 cases guard with
 | none => rfl
 | some p =>
  obtain ⟨j, want⟩ := p
  show runB (@Option.rec Nat (fun _ => MB) (.mk (mNo [pos, "guard"])) (fun d => @GB.rec (fun _ => MB) (fun g => .mk (mGate g want skip go [pos, "guard"])) (gTmp d)) (dstOf ops j)) env st = oN (dstOf ops j) _ _
  cases dstOf ops j with
  | none => rfl
  | some d =>
   show runB (@GB.rec (fun _ => MB) (fun g => .mk (mGate g want skip go [pos, "guard"])) (gTmp d)) env st = getE d env _ _
   cases hg : gTmp d with
   | mk g =>
    rw [gTmp_get d hg]
    show @Option.rec Value (fun _ => Ans) _ (mGate1 want skip go [pos, "guard"] env st) (g env) = _
    congr 1
    funext v
    unfold mGate1
    congr 1
    funext b
    cases b <;> cases want <;> rfl
theorem cSkip_eq (o : Oper) (K : MB) (st : VS) : runB (cSkip o K) env st = setE o.dst env undef fun env => runB K env st := by
 unfold cSkip
 cases hs : cS o.dst with
 | mk s =>
  rw [cS_set o.dst hs]
  rfl
theorem cOps_eq (ops : Array Oper) (K : MB) : ∀ (l : List Oper) {env : EA} {h : Heap} {nx : Nat}, runB (cOps E ops l K) env (.mk call ls h nx) = zopsF E call ops l env h nx fun env h nx => runB K env (.mk call ls h nx)
 | [], env, h, nx => rfl
 | o :: l, env, h, nx => by
  show runB (cGate ops o (cSkip o (cOps E ops l K)) (cOpU E o (cOps E ops l K))) env (.mk call ls h nx) = zstepF E call ops o (zopsF E call ops l) env h nx _
  rw [cGate_eq, cSkip_eq, cOpU_eq]
  unfold zstepF
  simp only [cOps_eq ops K l]
theorem cPlain_eq (ops : Array Oper) (K : MB) : runB (cPlain E ops K) env (.mk call ls h nx) = plainF E call ops env h nx fun env h nx => runB K env (.mk call ls h nx) := by
 unfold cPlain plainF
 cases ops.toList with
 | nil => rfl
 | cons o rest =>
  show runB (@Bool.rec (fun _ => MB) (cOps E ops (o :: rest) K) (cSel E ops o rest K) (isSelect o.op)) env (.mk call ls h nx) = bA (isSelect o.op) _ _
  cases isSelect o.op with
  | false => exact cOps_eq ops K (o :: rest)
  | true =>
   show runB (cSel E ops o rest K) env (.mk call ls h nx) = selKF E call ops o rest env h nx _
   unfold cSel selKF
   cases hs : cS o.dst with
   | mk s =>
    simp only [cS_set o.dst hs]
    show (selA E.P o env h (.no [o.pos, "select"]) fun v h => s env v fun env => runB (cOps E ops rest K) env (.mk call ls h nx)) = _
    simp only [cOps_eq ops K rest]
theorem runD_bD (b : Bool) (f t : DB) (ws : List Watch) (st : VS) : runD (bD b f t) ws env st = bA b (runD f ws env st) (runD t ws env st) := by cases b <;> rfl
theorem cGateD_eq (ops : Array Oper) (o : Oper) (skip go : DB) (ws : List Watch) (st : VS) : runD (cGateD ops o [o.pos, "guard"] skip go) ws env st = gateF ops o env (.no [o.pos, "guard"]) (runD skip ws env st) (runD go ws env st) := by
 obtain ⟨dst, op, type, pos, after, guard⟩ := o
 cases guard with
 | none => rfl
 | some p =>
  obtain ⟨j, want⟩ := p
  show runD (@Option.rec Nat (fun _ => DB) (.mk (dNo [pos, "guard"])) (fun d => @GB.rec (fun _ => DB) (fun g => .mk (dGate g want skip go [pos, "guard"])) (gTmp d)) (dstOf ops j)) ws env st = oN (dstOf ops j) _ _
  cases dstOf ops j with
  | none => rfl
  | some d =>
   show runD (@GB.rec (fun _ => DB) (fun g => .mk (dGate g want skip go [pos, "guard"])) (gTmp d)) ws env st = getE d env _ _
   cases hg : gTmp d with
   | mk g =>
    rw [gTmp_get d hg]
    show @Option.rec Value (fun _ => Ans) _ (dGate1 want skip go [pos, "guard"] ws env st) (g env) = _
    congr 1
    funext v
    unfold dGate1
    congr 1
    funext b
    cases b <;> cases want <;> rfl
theorem cScan_eq (P : Program) (ops : Array Oper) (done : Nat) (ws : List Watch) (st : VS) : ∀ (l : Todo) (nn : DB) (sm : Nat → Oper → Bool → Todo → DB),
  runD (cScan P ops done l nn sm) ws env st = pickQF P ops done env l (runD nn ws env st) fun i o b r => runD (sm i o b r) ws env st
 | [], nn, sm => rfl
 | x :: l, nn, sm => by
  show runD (bD (readyF done x.2) (cScan P ops done l nn fun i o b r => sm i o b (x :: r)) (cGateD ops x.2 [x.2.pos, "guard"] (sm x.1 x.2 false l) (bD (is2 P x.2.op) (sm x.1 x.2 true l) (cScan P ops done l nn fun i o b r => sm i o b (x :: r))))) ws env st = _
  rw [runD_bD, cGateD_eq, runD_bD, cScan_eq P ops done ws st l]
  rfl
theorem cPickL_eq (done : Nat) (ws : List Watch) (st : VS) : ∀ (l : Todo) (nn : DB) (sm : Nat → Oper → Todo → DB),
  runD (cPickL done l nn sm) ws env st = pickLF done l (runD nn ws env st) fun i o r => runD (sm i o r) ws env st
 | [], nn, sm => rfl
 | x :: l, nn, sm => by
  show runD (bD (readyF done x.2) (cPickL done l nn fun i o r => sm i o (x :: r)) (sm x.1 x.2 l)) ws env st = _
  rw [runD_bD, cPickL_eq done ws st l]
  rfl
theorem cD_eq (ops : Array Oper) (ms : List Nat) (K : MB) : ∀ (f : Nat) {todo : Todo} {done : Nat} {ws : List Watch} {env : EA} {h : Heap} {nx : Nat},
  runD (cD E ops ms K f todo done) ws env (.mk call ls h nx) = dloopF E call ops ms f todo done ws env h nx fun env h nx => runB K env (.mk call ls h nx)
 | 0, todo, done, ws, env, h, nx => rfl
 | f + 1, todo, done, ws, env, h, nx => by
  have ih := @cD_eq ops ms K f
  show runD (cStepD E ops ms K (cD E ops ms K f) todo done) ws env (.mk call ls h nx) = dstepF E call ops ms (dloopF E call ops ms f) todo done ws env h nx _
  unfold cStepD dstepF
  rw [runD_bD, cScan_eq, cPickL_eq]
  congr 1
  congr 1
  ·congr 1
   funext i o rest
   unfold cLoud
   show allHF E.P h ws (.no [o.pos, "late"]) (runD (bD (noneRF done rest) (.mk (dNo [o.pos, "drawn"])) (cGateD ops o [o.pos, "guard"] (.mk (dNo [o.pos, "drawn"])) (bD (is2 E.P o.op) (.mk (dNo [o.pos, "drawn"])) _))) ws env (.mk call ls h nx)) = _
   rw [runD_bD, cGateD_eq, runD_bD]
   congr 1
   congr 1
   congr 1
   congr 1
   cases hs : cS o.dst with
   | mk s =>
    simp only [cS_set o.dst hs, fN_eq]
    show (argsK (opnds o.op) env (.no [o.pos, "operand"]) fun args => stepA E call bkOne o.op o.type args h nx (.no [o.pos]) (fun _ => .no [o.pos, "quiet"]) fun v h nx => s env v fun env => dropF ms i ws fun ws => runD (cD E ops ms K f rest (Nat.lor done (Nat.pow 2 i))) ws env (.mk call ls h nx)) = _
    simp only [ih]
  ·funext i o b rest
   rw [fN_eq, runD_bD]
   congr 1
   ·unfold cSkipD
    cases hs : cS o.dst with
    | mk s =>
     rw [cS_set o.dst hs]
     show (s env undef fun env => runD (cD E ops ms K f rest (Nat.lor done (Nat.pow 2 i))) ws env (.mk call ls h nx)) = _
     simp only [ih]
   ·unfold cTake
    cases hs : cS o.dst with
    | mk s =>
     simp only [cS_set o.dst hs]
     have quiet : runD (.mk (dQuiet E.P i o s (cD E ops ms K f rest (Nat.lor done (Nat.pow 2 i))))) ws env (.mk call ls h nx) = argsK (opnds o.op) env (.no [o.pos, "operand"]) fun args => quietA o.op E.P h o.type args (.no [o.pos]) fun v => s env v fun env => dloopF E call ops ms f rest (Nat.lor done (Nat.pow 2 i)) (@Bool.rec (fun _ => List Watch) ws (⟨i, o.op, o.type, args, v, none⟩ :: ws) (reads o.op)) env h nx fun env h nx => runB K env (.mk call ls h nx) := by
      show (argsK (opnds o.op) env (.no [o.pos, "operand"]) fun args => quietA o.op E.P h o.type args (.no [o.pos]) fun v => s env v fun env => runD (cD E ops ms K f rest (Nat.lor done (Nat.pow 2 i))) (@Bool.rec (fun _ => List Watch) ws (⟨i, o.op, o.type, args, v, none⟩ :: ws) (reads o.op)) env (.mk call ls h nx)) = _
      simp only [ih]
     cases cls E.P o.op with
     | zero =>
      show runD (@Bool.rec (fun _ => DB) (@PB.rec (fun _ => DB) (fun p => .mk (dP p s _)) (.mk (dQuiet E.P i o s _)) (cP o.op E.P o.type [o.pos, "operand"] [o.pos])) (.mk (dQuiet E.P i o s _)) (reads o.op)) ws env (.mk call ls h nx) = _
      cases hr : reads o.op with
      | true =>
       refine Eq.trans quiet ?_
       rw [hr]
       rfl
      | false =>
       cases hp : cP o.op E.P o.type [o.pos, "operand"] [o.pos] with
       | none =>
        refine Eq.trans quiet ?_
        rw [hr]
        rfl
       | mk p =>
        show p env (.mk call ls h nx) (fun v => s env v fun env => runD (cD E ops ms K f rest (Nat.lor done (Nat.pow 2 i))) ws env (.mk call ls h nx)) = _
        rw [cP_drawn o.op o.type [o.pos, "operand"] [o.pos] hp]
        simp only [ih]
        rfl
     | succ c =>
      cases c with
      | zero =>
       show (argsK (opnds o.op) env (.no [o.pos, "operand"]) fun args => laysO o.op E.P args nx (.no [o.pos]) fun v ob => Tr.insF 40 h nx (some ob) fun h => s env v fun env => fN (Nat.succ nx) fun nx' => runD (cD E ops ms K f rest (Nat.lor done (Nat.pow 2 i))) (⟨i, o.op, o.type, args, v, some (nx, ob)⟩ :: ws) env (.mk call ls h nx')) = _
       simp only [ih]
       rfl
      | succ c => rfl
theorem cDraw_eq (ops : Array Oper) (K : MB) (hst : staticB ops = true) : runB (cDraw E ops K) env (.mk call ls h nx) = drawF E call ops env h nx fun env h nx => runB K env (.mk call ls h nx) := by
 unfold drawF
 rw [hst]
 exact cD_eq (E := E) (call := call) (ls := ls) ops (masks ops.toList []) K (ops.size + 1) (todo := tagOps 0 ops.toList) (done := 0) (ws := []) (env := env) (h := h) (nx := nx)
theorem mLoopN_eq (n : Nat) (body : MB) : runB (.mk (mLoopN n body)) env (.mk call ls h nx) = lpM body call ls n env h nx := rfl
theorem cC_eq {fn : Func} : ∀ (c : Code) (hst : stB c = true) (K : MB) (X : Xs) {ls : LS} {env : EA} {h : Heap} {nx : Nat},
  runB (cC E (.mk (mRet E.P fn)) c K X) env (.mk call ls h nx) = zcodeF E call c env h nx (fun env h nx => runB K env (.mk call ls h nx)) (retF E.P fn) fun i env h nx => runB (X i) env (.mk call ls h nx)
 | .skip, hst, K, X, ls, env, h, nx => rfl
 | .region id ops d, hst, K, X, ls, env, h, nx => by
  cases d with
  | false => exact cPlain_eq ops K
  | true => exact cDraw_eq ops K hst
 | .seq a b, hst, K, X, ls, env, h, nx => by
  have h1 : stB a = true ∧ stB b = true := by
   unfold stB at hst
   revert hst
   cases stB a <;> simp
  show runB (cC E _ a (cC E _ b K X) X) env (.mk call ls h nx) = zcodeF E call a env h nx (fun env h nx => zcodeF E call b env h nx _ _ _) _ _
  rw [cC_eq a h1.1]
  simp only [cC_eq b h1.2]
 | .cond c a b, hst, K, X, ls, env, h, nx => by
  have h1 : stB a = true ∧ stB b = true := by
   unfold stB at hst
   revert hst
   cases stB a <;> simp
  show runB (@GB.rec (fun _ => MB) (fun g => .mk (mCond g (cC E _ a K X) (cC E _ b K X))) (cG c)) env (.mk call ls h nx) = evF c env (.no ["cond"]) fun v => vBool v (.no ["cond"]) fun t => bA t (zcodeF E call b env h nx _ _ _) (zcodeF E call a env h nx _ _ _)
  cases hg : cG c with
  | mk g =>
   rw [cG_get c hg]
   show @Option.rec Value (fun _ => Ans) _ (mCond1 (cC E _ a K X) (cC E _ b K X) env (.mk call ls h nx)) (g env) = _
   congr 1
   funext v
   unfold mCond1
   congr 1
   funext t
   cases t with
   | false => exact cC_eq b h1.2 K X
   | true => exact cC_eq a h1.1 K X
 | .block id a, hst, K, X, ls, env, h, nx => by
  show runB (cC E _ a K fun i => @Bool.rec (fun _ => MB) (X i) K (Nat.beq i id)) env (.mk call ls h nx) = zcodeF E call a env h nx _ _ fun i env h nx => bA (Nat.beq i id) (runB (X i) env (.mk call ls h nx)) (runB K env (.mk call ls h nx))
  rw [cC_eq a hst]
  congr 1
  funext i env h nx
  cases Nat.beq i id <;> rfl
 | .loop a, hst, K, X, ls, env, h, nx => by
  have key : ∀ (n : Nat) {env : EA} {h : Heap} {nx : Nat}, lpM (cC E (.mk (mRet E.P fn)) a (.mk mCont) fun i => .mk (mPop (X i))) call ls n env h nx = loopF (zcodeF E call a) n env h nx (fun env h nx => runB K env (.mk call ls h nx)) (retF E.P fn) fun i env h nx => runB (X i) env (.mk call ls h nx) := by
   intro n
   induction n with
   | zero => intro env h nx; rfl
   | succ n ih =>
    intro env h nx
    show runB (cC E (.mk (mRet E.P fn)) a (.mk mCont) fun i => .mk (mPop (X i))) env (.mk call (.cons (lpM _ call ls n) ls) h nx) = zcodeF E call a env h nx (fun env h nx => loopF (zcodeF E call a) n env h nx _ _ _) _ _
    rw [cC_eq a hst]
    simp only [← ih]
    rfl
  have e1 : cC E (.mk (mRet E.P fn)) (.loop a) K X = .mk (mLoopN 1000000 (cC E (.mk (mRet E.P fn)) a (.mk mCont) fun i => .mk (mPop (X i)))) := rfl
  have e2 : ∀ kn kr ke, zcodeF E call (.loop a) env h nx kn kr ke = loopF (zcodeF E call a) 1000000 env h nx kn kr ke := fun _ _ _ => rfl
  rw [e1, mLoopN_eq, e2, key 1000000]
 | .exit id, hst, K, X, ls, env, h, nx => rfl
 | .ret, hst, K, X, ls, env, h, nx => rfl
 | .rangeFunc .., hst, K, X, ls, env, h, nx => rfl
 | .scope _, hst, K, X, ls, env, h, nx => rfl
 | .label _, hst, K, X, ls, env, h, nx => rfl
 | .goto _, hst, K, X, ls, env, h, nx => rfl
 | .refuse _, hst, K, X, ls, env, h, nx => rfl
theorem initF_all : ∀ (l : List Value) (n : Nat) {fe : EA} {e : Tr Value}, EnvR fe e → (∀ k, ∃ w, initF l n fe k = .no w) ∨ ∃ fe', ∀ k, initF l n fe k = k fe'
 | [], n, fe, e, he => .inr ⟨fe, fun _ => rfl⟩
 | v :: l, n, fe, e, he => by
  have e1 : ∀ k, initF (v :: l) n fe k = EA.set n fe v fun env => fN (Nat.succ n) fun n => initF l n env k := fun _ => rfl
  simp only [e1, fN_eq]
  rcases he.set n v with h1 | ⟨fe', h1, h2⟩
  ·exact .inl fun k => h1 _
  ·rcases initF_all l (n + 1) h2 with h3 | ⟨fe'', h3⟩
   ·exact .inl fun k => by rw [h1]; exact h3 k
   ·exact .inr ⟨fe'', fun k => by rw [h1]; exact h3 k⟩
theorem fnV_le {fn : Func} (hst : fnSt fn = true) (args : List Value) : Le (fnV E call fn args h nx) (fnF E call fn args h nx) := by
 unfold fnSt at hst
 unfold fnV fnF cBody
 cases hb : fn.body with
 | none => rw [hb] at hst; cases hst
 | some c =>
  rw [hb] at hst
  simp only [Bool.and_eq_true] at hst
  show Le (bA (Nat.ble args.length fn.ntmps) _ _) (bA (Nat.ble args.length fn.ntmps) _ (bA (codeB fn c) _ (bodyF E call fn c args h nx)))
  rw [hst.1]
  cases Nat.ble args.length fn.ntmps with
  | false => exact Le.no
  | true =>
   show Le (initF args 0 EA.nil fun env => runB (cC E (.mk (mRet E.P fn)) c (.mk (mRet E.P fn)) xNo) env (.mk call .nil h nx)) (bodyF E call fn c args h nx)
   unfold bodyF
   rcases initF_all args 0 EnvR.nil with h1 | ⟨fe', h1⟩
   ·obtain ⟨w, h1⟩ := h1 (fun env => runB (cC E (.mk (mRet E.P fn)) c (.mk (mRet E.P fn)) xNo) env (.mk call .nil h nx))
    rw [h1]; exact Le.no
   ·rw [h1, h1, cC_eq c hst.2]
    intro r hr
    have e : zcodeF E call c fe' h nx (retF E.P fn) (retF E.P fn) (fun _ _ _ _ => .no ["exit"]) = .ok r := hr
    rw [e]
    rfl
end
theorem allSt_get {P : Program} {mask : Nat} (hp : allSt P mask = true) {f : FuncId} {fn : Func} (hf : P.funcs[f]? = some fn) (hm : mask.testBit f = true) : fnSt fn = true := by
 unfold allSt at hp
 rw [List.all_eq_true] at hp
 have := hp f (List.mem_range.2 (Array.getElem?_eq_some_iff.1 hf).1)
 rw [hm, hf] at this
 simpa using this
theorem nthFn_eq : ∀ (f : Nat) (l : List Func), nthFn f l = l[f]?
 | 0, [] => rfl
 | 0, _ :: _ => rfl
 | f + 1, [] => rfl
 | f + 1, _ :: l => nthFn_eq f l
theorem runV_le {E : Env} {mask : Nat} (hp : allSt E.P mask = true) : ∀ (d : Nat) (f : FuncId) (args : List Value) (h : Heap) (nx : Nat), Le (runV E mask d f args h nx) (run E d f args h nx)
 | 0, f, args, h, nx => Le.no
 | d + 1, f, args, h, nx => by
  show Le (stV E mask (runV E mask d) f args h nx) (zfun E (zdraw E) (d + 1) f args h nx)
  unfold stV zfun
  rw [nthFn_eq, Array.getElem?_toList]
  cases E.prim f with
  | some p =>
   show Le (primF p args h nx) _
   unfold primF
   cases hp : p h nx args with
   | none => exact Le.no
   | some l =>
    simp only [hp]
    match l with
    | [] => exact Le.rfl'
    | [(v, h', nx')] =>
     show Le (fK (fun v h nx => .ok [(v, h, nx)]) v h' nx') _
     unfold fK
     rw [fV_eq, fT_eq, fN_eq]
     exact Le.rfl'
    | _ :: _ :: _ => exact Le.rfl'
  | none =>
   simp only
   cases hf : E.P.funcs[f]? with
   | none => exact Le.no
   | some fn =>
    show Le (bA (Nat.testBit mask f) _ (fnV E (runV E mask d) fn args h nx)) _
    cases hm : Nat.testBit mask f with
    | false => exact Le.no
    | true => exact (fnV_le (allSt_get hp hf hm) args).trans (fnF_le (call := zfun E (zdraw E) d) (runV_le hp d) fn args h nx)
end
end Go.Z
end
