/- One part of a proof: an evaluator of the model, shown right, and contracts that it yields. No condition beyond those that each theorem names. -/
import Derived.Test.YtnhllgedoimhkaaGreatDoorXC
import Derived.WideKeyArgs
import Derived.ChangeSlices
set_option linter.unusedSimpArgs false
set_option linter.unusedVariables false
set_option linter.unusedSectionVars false
set_option linter.deprecated false
section
namespace Go.X
theorem le_auto {V W : View} (h : V.le W := by repeat (first | exact View.le_refl _ | assumption | exact View.addU_le _ _ _ | refine View.le_trans ?_ (by assumption) | refine View.le_trans ?_ (View.addU_le _ _ _))) : V.le W := h
open Go.RowKit
def fx (st : St) (K : St → Prop) : Prop := match st with | ⟨env, mem⟩ => K ⟨env, mem⟩
theorem fx_eq (st : St) (K : St → Prop) : fx st K = K st := by cases st; rfl
def fl : List Value → (List Value → Prop) → Prop
 | [], K => K []
 | x :: r, K => fl r (fun r' => K (x :: r'))
theorem fl_eq : ∀ (l : List Value) (K : List Value → Prop), fl l K = K l
 | [], _ => rfl
 | x :: r, K => by unfold fl; rw [fl_eq r]
def St.putz (st : St) (dst : Option Nat) (s : SV) : St := match st with | ⟨env, mem⟩ => (match dst with | some d => ⟨upd env d s, mem⟩ | none => ⟨env, mem⟩)
theorem putz_eq (st : St) (dst : Option Nat) (s : SV) : st.putz dst s = st.put dst s := by cases st; cases dst <;> rfl
def St.newBoxz (st : St) (d : Nat) (r : Res) : St := match st with
 | ⟨env, mem⟩ => (match mem d with
  | none => ⟨upd env d (.own d 0), upd mem d r⟩
  | some _ => ⟨upd (fun n => match env n with | some (.own i k) => (match Nat.beq i d with | true => none | false => some (.own i k)) | some (.row i) => (match Nat.beq i d with | true => none | false => some (.row i)) | x => x) d (.own d 0), upd mem d r⟩)
theorem newBoxz_eq (st : St) (d : Nat) (r : Res) : st.newBoxz d r = st.newBox d r := by
 cases st with
 | mk env mem =>
  unfold St.newBoxz St.newBox
  simp only
  cases mem d <;> rfl
def St.newRowz (st : St) (gone : Option Nat) (d : Nat) (r : Res) : St := match st with
 | ⟨env, mem⟩ => (match gone with
  | none => ⟨upd (purge env mem d) d (.row d), upd mem d r⟩
  | some g => ⟨upd (purge (purge env mem g) (del mem g) d) d (.row d), upd (del mem g) d r⟩)
theorem newRowz_eq (st : St) (gone : Option Nat) (d : Nat) (r : Res) : st.newRowz gone d r = st.newRow gone d r := by cases st; cases gone <;> rfl
def zeff (P : Program) (o : Oper) (e : Eff) (st : St) (V : View) (K : St → View → Prop) : Prop :=
 match e with
 | .val s => fx (st.putz o.dst s) fun st => K st V
 | .pick c s t => Br c (fx (st.putz o.dst s) fun st => K st V) (fx (st.putz o.dst t) fun st => K st V)
 | .ldv f b off n => LoadN V st.mem b off n (fun l => match f l with | some v => fx (st.putz o.dst (.v v)) fun st => K st V | none => Stuck o)
 | .idx base len i size => IdxN base len i size (fun b off => fx (st.putz o.dst (.v (.pointer (some ⟨b, off, none⟩)))) fun st => K st V)
 | .sem s => SemN P s (fun v => fx (st.putz o.dst (.v v)) fun st => K st V)
 | .box t cells => match o.dst with
  | some d => ∀ blk : Nat, fl cells fun cells => fx (st.newBoxz d (.box blk t cells)) fun st => K st V
  | none => Stuck o
 | .lit _ len cells => fl cells fun cells => ∀ (b : Nat) (V' : View), V.le V' → V'.has b 0 cells → fx (st.putz o.dst (.v (.slice (some ⟨b, 0, none⟩) len len))) fun st => K st V'
 | .sto false id off cells => match st with
  | ⟨env, mem⟩ => (match mem id with
   | some (.box b t old) => (match Nat.ble (off + cells.length) old.length with | true => fl (setAt old off cells) fun cells' => fx (St.putz ⟨env, upd mem id (.box b t cells')⟩ o.dst (.v undef)) fun st => K st V | false => Stuck o)
   | _ => Stuck o)
 | .sto true b off cells => match st with
  | ⟨env, mem⟩ => StoN mem b off cells (fun mem' => fx (St.putz ⟨env, mem'⟩ o.dst (.v undef)) fun st => K st V)
 | .call f args => match st with
  | ⟨env, mem⟩ => CallN P f args V mem (fun s V' mem' => fx (St.putz ⟨env, mem'⟩ o.dst s) fun st => K st V')
 | .app s e size bytes x => match o.dst with
  | some d => (match s with
   | .row id => (match st.mem id with
    | some (.row v ty sz n) => (match Nat.beq ty e, Nat.beq sz size with
     | true, true => AppN V st.mem (some id) v n size bytes x (fun v' n' V' => fx (st.newRowz (some id) d (.row v' e size n')) fun st => K st V')
     | _, _ => Stuck o)
    | _ => Stuck o)
   | .v (.slice base 0 0) => AppN V st.mem none (.slice base 0 0) 0 size bytes x (fun v' n' V' => fx (st.newRowz none d (.row v' e size n')) fun st => K st V')
   | .v v => AppVN V st.mem v e size bytes x (fun g v' n' V' => fx (st.newRowz g d (.row v' e size n')) fun st => K st V') (fx (st.putz (some d) (.v v)) fun st => K st V)
   | _ => Stuck o)
  | none => Stuck o
 | .bad => Stuck o
theorem zeff_eq (P : Program) (o : Oper) (e : Eff) (st : St) (V : View) (K : St → View → Prop) : zeff P o e st V K = effRun P o e st V K := by
 cases st with
 | mk env mem =>
  cases e <;> simp only [zeff, effRun, fx_eq, fl_eq, putz_eq, newBoxz_eq, newRowz_eq] <;> rfl
def zops (P : Program) (ops : Array Oper) (K : St → View → Prop) : List Oper → St → View → Prop
 | [], st, V => K st V
 | o :: rest, st, V =>
  match o.guard with
  | none => zeff P o (effOf P o st) st V (zops P ops K rest)
  | some (j, want) => match dstOf ops j with
   | none => Stuck o
   | some d => match st with
    | ⟨env, mem⟩ => (match env d with
     | some (.kb b) => (match b, want with
      | true, true => zeff P o (effOf P o ⟨env, mem⟩) ⟨env, mem⟩ V (zops P ops K rest)
      | false, false => zeff P o (effOf P o ⟨env, mem⟩) ⟨env, mem⟩ V (zops P ops K rest)
      | _, _ => fx (St.putz ⟨env, mem⟩ o.dst (.v undef)) fun st => zops P ops K rest st V)
     | some (.v (.bool b)) => Br b
      (match want with | true => zeff P o (effOf P o ⟨upd env d (.kb true), mem⟩) ⟨upd env d (.kb true), mem⟩ V (zops P ops K rest) | false => fx (St.putz ⟨upd env d (.kb true), mem⟩ o.dst (.v undef)) fun st => zops P ops K rest st V)
      (match want with | false => zeff P o (effOf P o ⟨upd env d (.kb false), mem⟩) ⟨upd env d (.kb false), mem⟩ V (zops P ops K rest) | true => fx (St.putz ⟨upd env d (.kb false), mem⟩ o.dst (.v undef)) fun st => zops P ops K rest st V)
     | some (.v (.tuple _)) => fx (St.putz ⟨env, mem⟩ o.dst (.v undef)) fun st => zops P ops K rest st V
     | _ => Stuck o)
theorem zops_eq (P : Program) (ops : Array Oper) (K : St → View → Prop) : ∀ l : List Oper, zops P ops K l = xops P ops K l
 | [] => rfl
 | o :: rest => by
  funext st V
  cases st with
  | mk env mem =>
   unfold zops xops
   simp only [zops_eq P ops K rest, zeff_eq, fx_eq, putz_eq]
   rfl
def Upd.appz (u : Upd) (st : St) : St := match u with
 | .put d s => st.putz d s
 | .box d r => (match st with | ⟨env, m0⟩ => ⟨upd env d (.own d 0), upd m0 d r⟩)
 | .mem m d s => (match st with | ⟨env, _⟩ => St.putz ⟨env, m⟩ d s)
 | .row g d r => st.newRowz g d r
theorem appz_eq (u : Upd) (st : St) : u.appz st = u.app st := by
 cases st; cases u <;> simp only [Upd.appz, Upd.app, putz_eq, newRowz_eq]
def zseq (P : Program) (ops : Array Oper) (K : St → View → Prop) : Plan → List (Nat × Nat) → List (Nat × Nat) → St → View → Prop
 | [], _, _, st, V => K st V
 | (i, cs) :: L, rdL, rdR, st, V => match ops[i]? with
  | none => False
  | some o => match chkList P ops st cs with
   | true => act P ops o (relOf o rdL) (relOf o rdR) st V (fun u V1 => match isQuiet o with
     | true => fx (u.appz st) fun st' => zseq P ops K L (tag i (loadsOf o st) ++ rdL) (tag i (rowsOf st (looks ops o)) ++ rdR) st' V1
     | false => fx (u.appz st) fun st' => zseq P ops K L rdL rdR st' V1)
   | false => Stuck o
theorem zseq_eq (P : Program) (ops : Array Oper) (K : St → View → Prop) : ∀ (L : Plan), zseq P ops K L = xseq P ops K L
 | [] => rfl
 | (i, cs) :: L => by
  funext rdL rdR st V
  unfold zseq xseq
  simp only [zseq_eq P ops K L, fx_eq, appz_eq]
  try rfl
def zfops (P : Program) (ops : Array Oper) (K : St → View → Prop) : List Nat → St → View → Prop
 | [], st, V => K st V
 | i :: L, st, V => match ops[i]? with
  | none => False
  | some o => match o.guard with
   | some _ => Stuck o
   | none => zeff P o (effOf P o st) st V (zfops P ops K L)
theorem zfops_eq (P : Program) (ops : Array Oper) (K : St → View → Prop) : ∀ (L : List Nat), zfops P ops K L = fops P ops K L
 | [] => rfl
 | i :: L => by
  funext st V
  unfold zfops fops
  simp only [zfops_eq P ops K L, zeff_eq]
  rfl
def andThen (k : St → View → Prop) (K : Ex → St → View → Prop) : Ex → St → View → Prop
 | .normal, st, V => k st V
 | .ret, st, V => K .ret st V
 | .exit i, st, V => K (.exit i) st V
def blockK (id : Nat) (K : Ex → St → View → Prop) : Ex → St → View → Prop
 | .exit id', st, V => (match Nat.beq id' id with | true => K .normal st V | false => K (.exit id') st V)
 | .normal, st, V => K .normal st V
 | .ret, st, V => K .ret st V
def endK (P : Program) (fn : Func) (R : Value → View → List Res → Prop) : Ex → St → View → Prop
  | .exit _, _, _ => False
  | _, st, V => match readAll P st fn.results.toList with
        | some l => (match toVals st.mem l with
          | some vs => RetN (packVals vs) st.mem V R
          | none => False)
        | none => False
def zcode (P : Program) (pl : Plans) : Code → (Ex → St → View → Prop) → St → View → Prop
 | .skip, K, st, V => K .normal st V
 | .region _ ops false, K, st, V => zops P ops (K .normal) ops.toList st V
 | .region id ops true, K, st, V => match planAt id pl with
  | some L => (match asF L with
   | some F => zfops P ops (K .normal) F st V
   | none => (match asL L with
    | some (i, L') => lendR i (fun K => zseq P ops K L' [] []) (K .normal) st V
    | none => zseq P ops (K .normal) L [] [] st V))
  | none => False
 | .seq a b, K, st, V => zcode P pl a (andThen (zcode P pl b K) K) st V
 | .cond c a b, K, st, V => match opd st.env c with
  | some (.kb true) => zcode P pl a K st V
  | some (.kb false) => zcode P pl b K st V
  | some (.v (.bool c)) => Br c (zcode P pl a K st V) (zcode P pl b K st V)
  | _ => False
 | .block id b, K, st, V => zcode P pl b (blockK id K) st V
 | .loop b, K, st, V => LoopN (zcode P pl b) K st V
 | .exit id, K, st, V => K (.exit id) st V
 | .ret, K, st, V => K .ret st V
 | _, _, _, _ => False
theorem zcode_eq (P : Program) (pl : Plans) : ∀ (c : Code), zcode P pl c = ycode P pl c
 | .skip => rfl
 | .region id ops false => by funext K st V; unfold zcode ycode; rw [zops_eq]
 | .region id ops true => by
  funext K st V; unfold zcode ycode
  split
  ·rename_i L hL; simp only [hL, zseq_eq, zfops_eq]; cases asF L <;> first | rfl | (cases asL L <;> rfl)
  ·rename_i hL; simp only [hL]
 | .seq a b => by
  funext K st V; unfold zcode ycode; rw [zcode_eq P pl a, zcode_eq P pl b]
  congr 1; funext e st V; cases e <;> rfl
 | .cond c a b => by funext K st V; unfold zcode ycode; rw [zcode_eq P pl a, zcode_eq P pl b]; try rfl
 | .block id b => by
  funext K st V; unfold zcode ycode; rw [zcode_eq P pl b]
  congr 1; funext e st V; cases e <;> rfl
 | .loop b => by funext K st V; unfold zcode ycode; rw [zcode_eq P pl b]
 | .exit id => rfl
 | .ret => rfl
 | .rangeFunc .. => rfl
 | .scope _ => rfl
 | .label _ => rfl
 | .goto _ => rfl
 | .refuse _ => rfl
def zfun (P : Program) (pl : Plans) (fn : Func) (args : List SV) (mem : Nat → Option Res) (V : View) (R : Value → View → List Res → Prop) : Prop :=
 match fn.body with
 | some c => zcode P pl c (endK P fn R) ⟨initEnv args 0, mem⟩ V
 | none => False
theorem zfun_eq (P : Program) (pl : Plans) (fn : Func) (args : List SV) (mem : Nat → Option Res) (V : View) (R : Value → View → List Res → Prop) : zfun P pl fn args mem V R = yfun P pl fn args mem V R := by
 unfold zfun yfun
 split
 ·rw [zcode_eq]; rename_i h; simp only [h]
  congr 1; funext e st V; cases e <;> rfl
 ·rename_i h; simp only [h]
theorem does_of_zfun (pl : Plans) {P : Program} (hm : P.follows .mixedOrders = true) {f : FuncId} {fn : Func} {args : List SV} {vs : List Value} {ms : List (Nat × Res)} {V : View} {R : Value → View → List Res → Prop}
  (hf : P.funcs[f]? = some fn) (hok : yfnOk pl fn args.length = true) (ha : toVals (memOf ms) args = some vs) (hx : zfun P pl fn args (memOf ms) V R) : Does P f vs V (ms.map (·.2)) R :=
 does_of_yfun pl hm hf hok ha (by rw [← zfun_eq]; exact hx)
def backTo {σ : Type} (env : σ → List (Nat × SV)) (ms : σ → List (Nat × Res)) (inv : Nat → σ → View → Prop) (k : Nat) (K : Ex → St → View → Prop) : Ex → St → View → Prop
 | .normal, st', V' => ∃ m y, m < k ∧ st'.sees (memOf (ms y)) (env y) ∧ st'.keeps (ms y) ∧ inv m y V'
 | .ret, st', V' => K .ret st' V'
 | .exit i, st', V' => K (.exit i) st' V'
def Unrollz (round : (Ex → St → View → Prop) → St → View → Prop) (K : Ex → St → View → Prop) : Nat → St → View → Prop
 | 0 => fun _ _ => False
 | n + 1 => round (andThen (Unrollz round K n) K)
theorem Unrollz_eq (round : (Ex → St → View → Prop) → St → View → Prop) (K : Ex → St → View → Prop) : ∀ n, Unrollz round K n = Unroll round K n
 | 0 => rfl
 | n + 1 => by
  unfold Unrollz Unroll
  rw [Unrollz_eq round K n]
  congr 1; funext e st V; cases e <;> rfl
section
variable {P : Program}
theorem loopz {pl : Plans} {c : Code} {σ : Type} (env : σ → List (Nat × SV)) (ms : σ → List (Nat × Res)) (inv : Nat → σ → View → Prop) {K : Ex → St → View → Prop} {st : St} {V : View} (k : Nat) (x : σ)
  (he : st.sees (memOf (ms x)) (env x)) (hm : st.keeps (ms x)) (h0 : inv k x V)
  (hr : ∀ k x V, inv k x V → zcode P pl c (backTo env ms inv k K) (St.of (env x) (ms x)) V) : LoopN (zcode P pl c) K st V := by
 rw [zcode_eq] at hr ⊢
 refine loop env ms inv k x he hm h0 fun k x V hi => ?_
 have := hr k x V hi
 rw [show backTo env ms inv k K = (fun e st' V' => match e with | .normal => ∃ m y, m < k ∧ st'.sees (memOf (ms y)) (env y) ∧ st'.keeps (ms y) ∧ inv m y V' | e => K e st' V') from by funext e st V; cases e <;> rfl] at this
 exact this
theorem unrollz {pl : Plans} {c : Code} {K : Ex → St → View → Prop} {st : St} {V : View} (k : Nat) (h : Unrollz (zcode P pl c) K k st V) : LoopN (zcode P pl c) K st V := by
 rw [Unrollz_eq] at h
 rw [zcode_eq] at h ⊢
 exact LoopN.unroll k h
end
end Go.X
end

section
namespace Go.X
open Go.RowKit Go.ChangeShapes Go.WideShapes
def entryV (w : World) : View := fun b o => w.cell? ⟨b, o, none⟩
theorem sub_entry (w : World) : Sub (entryV w) w := fun _ _ _ h => h
theorem trodAll_stays {H : Type} {enc : TypeId × Value → H} {P : Program} (hl : laidOutB P = true) {W W' : World} (hk : ∀ k, k < W.heap.size → W'.heap[k]? = W.heap[k]?) {sp : Nat → Bool} :
  ∀ {ts : List TypeId} {vs : List Value} {ds : List (DataW H)} {ps : List MemPlace}, (ts.all fun t => P.readableRec t && decide (t < P.types.size)) = true →
   DataW.TrodAll enc P W 0 (fun _ => true) true ts vs ds ps → (∀ x ∈ ps, x.block < W.heap.size) → (∀ p ∈ ps, sp p.block = true) → DataW.TrodAll enc P W' 0 sp true ts vs ds ps
 | [], vs, ds, ps, _, h, _, _ => by
  obtain ⟨rfl, rfl, rfl⟩ := trodAll_nil h
  exact trodAll_mk0
 | t :: ts, vs, ds, ps, ht, h, hlt, hs => by
  obtain ⟨v, vs1, d, ds1, a, b, rfl, rfl, rfl, h1, h2⟩ := trodAll_cons h
  simp only [List.all_cons, Bool.and_eq_true, decide_eq_true_eq] at ht
  refine ⟨a, b, WideElems.Trod_stays hl ht.1.1 ht.1.2 h1 (fun p hp => ?_) (fun p hp => hs p (List.mem_append_left _ hp)), ?_, rfl⟩
  ·have hb := hlt p (List.mem_append_left _ hp)
   cases p with
   | cell b o => exact World.cell?_of_block (w := W) (hk b hb)
   | map b => exact hk b hb
  ·exact trodAll_stays hl hk (by simpa using ht.2) h2 (fun x hx => hlt x (List.mem_append_right _ hx)) (fun x hx => hs x (List.mem_append_right _ hx))
theorem open_nums {H : Type} {enc : TypeId × Value → H} {P : Program} {w : World} {t e : TypeId} {k : IntKind} {v : Value} {d : DataW H} {ps : List MemPlace} (ht : P.underlying t = some (.slice e)) (he : P.underlying e = some (.int k)) (hc : P.cellsOf e = 1)
  (hone : ∀ c : List Value, ∀ x, v.cells.toList = c → c = [x] → v = x) (h : DataW.Trod enc P w 0 (fun _ => true) true t v d ps) :
  ∃ (base : Option Addr) (cap : Nat) (l : List Int), v = .slice base l.length cap ∧ (l ≠ [] → ∃ p off, base = some ⟨p, off, none⟩ ∧ (entryV w).has p off (l.map (.int k ·))) ∧ (∀ n ∈ l, (Lit.int k n).wf = true) ∧ l.length ≤ maxLen := by
 obtain ⟨fuel, h⟩ := h
 rcases open_ints ht he hc h with ⟨h1, _⟩ | ⟨a, len, cap, zs, h1, _, hlc, hcm, hz, _, hcell, hwf⟩
 ·exact ⟨none, 0, [], hone _ _ rfl h1, (fun h => absurd rfl h), (fun n hn => by cases hn), Nat.zero_le _⟩
 ·have hlen : (zs.take len).length = len := by rw [List.length_take, hz]; simp; omega
  refine ⟨some a, cap, zs.take len, by rw [hlen]; exact hone _ _ rfl h1, fun hne => ?_, fun n hn => hwf n (List.mem_of_mem_take hn), by rw [hlen]; omega⟩
  have hzc : zs.length = cap := by simpa using hz
  have h0 : 0 < len := by
   cases len with
   | zero => simp at hne
   | succ n => omega
  obtain ⟨b, off, spot⟩ := a
  have hs : spot = none := by
   have := hcell 0 (by omega)
   cases spot with
   | none => rfl
   | some s =>
    simp only [Addr.add, if_true, World.cell?] at this
    split at this
    ·simp at this
    ·cases this
  subst hs
  refine ⟨b, off, rfl, fun i x hi => ?_⟩
  rw [List.getElem?_map] at hi
  cases hz2 : (zs.take len)[i]? with
  | none => rw [hz2] at hi; cases hi
  | some y =>
   rw [hz2] at hi
   simp only [Option.map_some, Option.some.injEq] at hi
   subst hi
   have hil : i < zs.length := by
    have := (List.getElem?_eq_some_iff.1 hz2).1
    rw [List.length_take] at this; omega
   have := hcell i hil
   rw [add_lit] at this
   show w.cell? ⟨b, off + i, none⟩ = _
   rw [this]
   have e : zs[i]? = some y := by
    rw [List.getElem?_take] at hz2
    split at hz2
    ·exact hz2
    ·cases hz2
   simp [List.getD, e]
end Go.X
end
