/- One part of a proof: an evaluator of the model, shown right, and contracts that it yields. No condition beyond those that each theorem names. -/
import Derived.Test.YtnhllgedoimhkaaGreatDoorLP
import Derived.Test.YtnhllgedoimhkaaGreatDoorZS
import Derived.Test.YtnhllgedoimhkaaGreatDoorZG
import Derived.Test.YtnhllgedoimhkaaGreatDoorZV
import Derived.Test.YtnhllgedoimhkaaGreatDoorZO
import Derived.Test.YtnhllgedoimhkaaGreatDoorZP
import Derived.Maps.OwnIn
import Derived.Test.YtnhllgedoimhkaaGreatDoorZI
import Derived.Test.YtnhllgedoimhkaaGreatDoorProg
import Derived.Shelf.Spec.SlicesGrow
import Derived.Ground.Names8Prog
set_option linter.unusedSimpArgs false
set_option linter.unusedVariables false
set_option linter.unusedSectionVars false
set_option linter.deprecated false
section
namespace Go.Z
open Go.X Go.RowKit Go.Proofs Go.Proofs.LB
set_option maxRecDepth 100000
noncomputable section
abbrev Prim := Heap → Nat → List Value → Option (List Out)
def mkT : Nat := 506532903278472842486941003794623362147162407366805851750166025309070915510345651923450954738574158146845342148294473961537396206413465322776237121055842751776301705788253011964
def tab0 : Tab := fun _ _ => none
def orP (p q : Prim) : Prim := fun h nx args => match p h nx args with
 | some l => some l
 | none => q h nx args
def runP (E : Env) (d f : Nat) : Prim := fun h nx args => match runV E mkT d f args h nx with
 | .ok l => some l
 | .no _ => none
section
variable {σ : Nat → Nat → Value} [SigOk σ]
theorem tab0_ok : TabOk σ tab0 := ⟨fun _ _ _ h => by cases h⟩
abbrev PrimOk (σ : Nat → Nat → Value) (g : FuncId) (f : Prim) : Prop := CallOk Tryz.prog σ (fun g' args h nx => if g' = g then (match f h nx args with | some l => .ok l | none => .no []) else .no [])
theorem PrimOk.of {g : FuncId} {f : Prim} (H : ∀ (w0 : World) (args : List Value) (h : Heap) (nx : Nat) (outs : List Out), f h nx args = some outs → ∀ (ρ : Ren) (vs : List Value) (w : World), Fresh ρ nx → RepL σ ρ args vs → WI σ w0 h ρ w →
  Calls Tryz.prog g vs.toArray w fun e w' => ∃ out ∈ outs, ∃ v ρ', e = .returned v ∧ ρ.le ρ' ∧ New ρ ρ' nx ∧ nx ≤ out.2.2 ∧ Fresh ρ' out.2.2 ∧ Rep σ ρ' out.1 v ∧ WI σ w0 out.2.1 ρ' w') : PrimOk σ g f := by
 intro w0 g' args h nx outs ho ρ vs w hfr ha hw
 dsimp only at ho
 split at ho
 case isFalse => cases ho
 rename_i hg
 subst hg
 split at ho
 case h_2 => cases ho
 rename_i l hl
 cases ho
 exact H w0 args h nx _ hl ρ vs w hfr ha hw
theorem PrimOk.to {g : FuncId} {f : Prim} (H : PrimOk σ g f) (w0 : World) (args : List Value) (h : Heap) (nx : Nat) (outs : List Out) (hf : f h nx args = some outs) (ρ : Ren) (vs : List Value) (w : World) (hfr : Fresh ρ nx) (ha : RepL σ ρ args vs) (hw : WI σ w0 h ρ w) :
  Calls Tryz.prog g vs.toArray w fun e w' => ∃ out ∈ outs, ∃ v ρ', e = .returned v ∧ ρ.le ρ' ∧ New ρ ρ' nx ∧ nx ≤ out.2.2 ∧ Fresh ρ' out.2.2 ∧ Rep σ ρ' out.1 v ∧ WI σ w0 out.2.1 ρ' w' :=
 H w0 g args h nx outs (by simp [hf]) ρ vs w hfr ha hw
theorem orP_ok {g : FuncId} {p q : Prim} (hp : PrimOk σ g p) (hq : PrimOk σ g q) : PrimOk σ g (orP p q) :=
 .of fun w0 args h nx outs ho ρ vs w hfr ha hw => by
  unfold orP at ho
  split at ho
  ·rename_i l hl
   cases ho
   exact hp.to w0 args h nx _ hl ρ vs w hfr ha hw
  ·exact hq.to w0 args h nx _ ho ρ vs w hfr ha hw
end
end
end Go.Z
end

section
namespace Go.Z
open Go.RowKit Go.ChangeMaps Go.Proofs
section
variable {F : Fence} {n : Nat} {P : Program} {ops : Array Oper} {Q : Exit → Act → World → Prop} {rest : List Oper} {a : Act} {w : World} {o : Oper}
theorem findNow_no {q : IntKind} {x : Int} : ∀ (l : List MapEntry) (i : Nat), (∀ e ∈ l, ∃ y : Int, e.key = .int q y ∧ y ≠ x) → Instr.findNow (.int q) (.int q x) l i = some none
 | [], _, _ => rfl
 | e :: l, i, h => by
  obtain ⟨y, hy, hne⟩ := h e (by simp)
  have : Instr.sameNow (.int q) (.int q x) e.key = some false := by
   rw [hy]
   simp [Instr.sameNow]
   exact fun h => hne h.symm
  rw [Instr.findNow, this]
  exact findNow_no l (i + 1) fun e he => h e (by simp [he])
theorem wpListIn_mapUpdate_new (hg : o.guard = none) (m x v : Operand) (t : TypeId) (hop : o.op = Op.mapUpdate t m x v) (kt et : TypeId) (q : IntKind) (ht : P.underlying t = some (.map kt et)) (hk : P.underlying kt = some (.int q))
  (b : Nat) (ed : Array MapEntry) (cd : Nat) (k : Int) (val : Value) (hm : a.eval m = .map (some b)) (hb : w.heap[b]? = some (.map ed cd)) (hx : a.eval x = .int q k) (hv : a.eval v = val)
  (hno : ∀ e ∈ ed.toList, ∃ y : Int, e.key = .int q y ∧ y ≠ k)
  (hK : wpListIn F n P ops Q rest (a.put o.dst undef) (put w b (.map (ed.push { key := .int q k, val := val, born := cd }) (cd + 1)))) :
  wpListIn F n P ops Q (o :: rest) a w := by
 refine wpListIn_plain hg fun K' hK' => ?_
 have hget : (getObj b).run P w = .ok (.map ed cd) w := by simp [getObj, Sem.run, hb]
 have hc : ∀ e, (Instr.checkKey e 10000 kt (.int q k)).run P w = .ok () w := fun e => by
  rw [show (10000 : Nat) = 9999 + 1 from rfl]; generalize (9999 : Nat) = fu; simp [Instr.checkKey, run_underlying hk]
 have hf : (Instr.findKey kt (.int q k) ed.toList).run P w = .ok none w := by
  simp [Instr.findKey, run_underlying hk, findNow_no ed.toList 0 hno]
 have hrun : (Instr.mapUpdate t (.map (some b)) (.int q k) val).run P w = .ok () (put w b (.map (ed.push { key := .int q k, val := val, born := cd }) (cd + 1))) := by
  have hs : (setObj b (.map (ed.push { key := .int q k, val := val, born := cd }) (cd + 1))).run P w = .ok () (put w b (.map (ed.push { key := .int q k, val := val, born := cd }) (cd + 1))) := by simp [setObj, Sem.run, hb, put]
  simp [Instr.mapUpdate, run_underlying ht, hget, hc, hf, hs]
 unfold Oper.wpIn
 refine ⟨by simp [Oper.about, hop], ?_⟩
 rw [Oper.semAt_plain F _ _ (by rw [hop]; intro c hc'; cases hc')]
 simp [execOp, hop, hm, hx, hv, hrun, Result.andThen]
 exact hK' _ _ hK
end
theorem size_put {w : World} {b : Nat} {O : Obj} : (put w b O).heap.size = w.heap.size := by
 unfold put
 exact Array.size_setIfInBounds
theorem size_alloc {w : World} {O : Obj} : (w.alloc O).heap.size = w.heap.size + 1 := by
 show (w.heap.push O).size = _
 exact Array.size_push _
theorem alloc_lt {w : World} {O : Obj} {k : Nat} (h : k < w.heap.size) : (w.alloc O).heap[k]? = w.heap[k]? := by
 show (w.heap.push O)[k]? = _
 rw [Array.getElem?_push, if_neg (by omega)]
def kv (e : MapEntry) : Value × Value := (e.key, e.val)
def GotE (es : Array MapEntry) (seen : Array Nat) (ed : List MapEntry) : Prop := ∃ l : List MapEntry, (∀ e ∈ l, e ∈ es.toList) ∧ l.map (·.born) = seen.toList ∧ ed.map kv = l.map kv ∧ seen.toList.Nodup
theorem gotE_all {es : Array MapEntry} {seen : Array Nat} {ed : List MapEntry} (h0 : NoneLeft es seen) (h : GotE es seen ed) (hnd : (es.toList.map (·.born)).Nodup) : (ed.map kv).Perm (es.toList.map kv) := by
 obtain ⟨l, h1, h2, h3, h4⟩ := h
 rw [h3]
 have hl : l.Nodup := nodup_of_born (h2 ▸ h4)
 refine List.Perm.map _ ((List.perm_ext_iff_of_nodup hl (nodup_of_born hnd)).2 fun e => ⟨h1 e, fun he => ?_⟩)
 have hz : (leftOf es seen).toList = [] := List.eq_nil_of_length_eq_zero (by simpa using h0.h)
 have hin : e.born ∈ seen.toList := by
  by_cases hc : e.born ∈ seen.toList
  ·exact hc
  ·have := leftOf_mem he hc
   rw [hz] at this
   cases this
 rw [← h2] at hin
 obtain ⟨x, hx, hxe⟩ := List.mem_map.1 hin
 exact born_inj hnd (h1 x hx) he hxe ▸ hx
theorem gotE_push {es : Array MapEntry} {seen : Array Nat} {ed : List MapEntry} (h : GotE es seen ed) {e e' : MapEntry} (he : e ∈ es.toList) (hs : e.born ∉ seen.toList) (hk : kv e' = kv e) : GotE es (seen.push e.born) (ed ++ [e']) := by
 obtain ⟨l, h1, h2, h3, h4⟩ := h
 refine ⟨l ++ [e], fun x hx => ?_, by simp [h2], by simp [h3, hk], ?_⟩
 ·rcases List.mem_append.1 hx with hx | hx
  ·exact h1 x hx
  ·rw [List.mem_singleton] at hx; subst hx; exact he
 ·rw [Array.toList_push]
  refine List.nodup_append.2 ⟨h4, by simp, fun a ha b hb hab => ?_⟩
  rw [List.mem_singleton] at hb
  subst hb; subst hab
  exact hs ha
theorem keyE_inj : ∀ {l : List MapEntry}, (l.map (·.key)).Nodup → ∀ {x y : MapEntry}, x ∈ l → y ∈ l → x.key = y.key → x = y
 | [], _, _, _, hx, _, _ => by cases hx
 | a :: l, h, x, y, hx, hy, e => by
  rw [List.map_cons, List.nodup_cons] at h
  have no : ∀ z ∈ l, z.key ≠ a.key := fun z hz e => h.1 (List.mem_map.2 ⟨z, hz, e⟩)
  rcases List.mem_cons.1 hx with hxa | hx
  ·rcases List.mem_cons.1 hy with hya | hy
   ·rw [hxa, hya]
   ·exact absurd (by rw [← e, hxa]) (no y hy)
  ·rcases List.mem_cons.1 hy with hya | hy
   ·exact absurd (by rw [e, hya]) (no x hx)
   ·exact keyE_inj h.2 hx hy e
theorem gotE_new {q : IntKind} {es : Array MapEntry} {seen : Array Nat} {ed : List MapEntry} (h : GotE es seen ed) (hkn : (es.toList.map (·.key)).Nodup) (hk : ∀ e ∈ es.toList, ∃ k : Int, e.key = .int q k) {e : MapEntry} (he : e ∈ es.toList) (hs : e.born ∉ seen.toList) {x : Int} (hx : e.key = .int q x) :
  ∀ e' ∈ ed, ∃ y : Int, e'.key = .int q y ∧ y ≠ x := fun e' he' => by
 obtain ⟨l, h1, h2, h3, h4⟩ := h
 have : kv e' ∈ l.map kv := by rw [← h3]; exact List.mem_map.2 ⟨e', he', rfl⟩
 obtain ⟨z, hz, hzk⟩ := List.mem_map.1 this
 have hkk : z.key = e'.key := congrArg Prod.fst hzk
 obtain ⟨y, hy⟩ := hk z (h1 z hz)
 refine ⟨y, by rw [← hkk, hy], fun hyx => ?_⟩
 subst hyx
 have := keyE_inj hkn (h1 z hz) he (by rw [hy, hx])
 subst this
 exact hs (by rw [← h2]; exact List.mem_map.2 ⟨z, hz, rfl⟩)
end Go.Z
end

section
namespace Go.Proofs
open Go.RowKit Go.Shelf Go.ChangeMaps Go.X Go.Z
attribute [local go_sem] Oper.semAt_some
set_option maxRecDepth 100000 in
set_option maxHeartbeats 1000000 in
theorem copy299_in (F : Fence) (n : Nat) (hF : F.fn 299) (hro : F.round = none) (bd bs : Nat) (es : Array MapEntry) (clock cd : Nat) (hborn : ∀ x ∈ es.toList, x.born < clock) (hnd : (es.toList.map (·.born)).Nodup)
  (hkn : (es.toList.map (·.key)).Nodup) (hk : ∀ e ∈ es.toList, ∃ k : Int, e.key = .int .u64 k) (hv : ∀ e ∈ es.toList, ∃ x y : Int, e.val = .agg #[.int .i64 x, .int .i64 y])
  (W : World) (hd : W.heap[bd]? = some (.map #[] cd)) (hb : W.heap[bs]? = some (.map es clock)) (hne : bd ≠ bs) :
  CallsIn F n Tryz.prog 299 #[.map (some bd), .map (some bs)] W fun e W' => e = .returned (.tuple #[]) ∧ ∃ ed cd', (ed.toList.map Z.kv).Perm (es.toList.map Z.kv) ∧ Z.Born ed.toList cd' ∧ Below W.heap.size (put W bd (.map ed cd')) W' := by
 refine callsIn_of_wp Tryz.func299 rfl hF ?_ hro
 simp only [Tryz.ntmps299, List.size_toArray, List.length_cons, List.length_nil, Nat.reduceAdd, Nat.reduceSub, Array.replicate_succ, Array.replicate_zero, List.push_toArray, List.append_toArray, List.nil_append, List.cons_append]
 gi_wp2_with (first
  | (gi_at_range; refine Z.wpListIn_range_at rfl _ 404 rfl _ _ Tryz.underlying404 bs es clock rfl hb ?_)
  | gi_in)
 go_frame
 have hg0 : Below W.heap.size W (W.alloc (.mapIter (some bs) clock #[] clock)) := (Below.refl _ W).alloc (Nat.le_refl _) _
 have hlb := (Array.getElem?_eq_some_iff.1 hb).1
 have hld := (Array.getElem?_eq_some_iff.1 hd).1
 have hr0 : (W.alloc (.mapIter (some bs) clock #[] clock)).heap[W.heap.size]? = some (.mapIter (some bs) clock #[] clock) := World.alloc_heap_new W _
 generalize W.alloc (.mapIter (some bs) clock #[] clock) = W0 at hg0 hr0
 gi_loopw [9] (fun _ wr => ∃ (seen : Array Nat) (c0 : Nat) (ed : Array MapEntry) (ce : Nat), clock ≤ c0 ∧ wr.heap[W.heap.size]? = some (.mapIter (some bs) clock seen c0) ∧ GotE es seen ed.toList ∧ Z.Born ed.toList ce ∧ Below W.heap.size (put W bd (.map ed ce)) wr)
  (fun _ wr => Z.iterLeft wr bs W.heap.size)
 case atStart =>
  refine ⟨#[], clock, #[], cd, Nat.le_refl _, hr0, ⟨[], by simp, rfl, rfl, List.nodup_nil⟩, Born.nil, ?_⟩
  have : put W bd (.map #[] cd) = W := put_self hd
  rw [this]
  exact hg0
 case round =>
  obtain ⟨seen, c0, ed, ce, hc0, hr, hgot, hbo, hB⟩ := hrel
  have hbm : wr.heap[bs]? = some (.map es clock) := by
   rw [hB.block bs hlb]
   show (W.heap.setIfInBounds bd _)[bs]? = _
   rw [Array.getElem?_setIfInBounds_ne hne]
   exact hb
  gi_wp2_with (first
   | (gi_at_next; refine Z.wpListIn_next_at rfl _ rfl W.heap.size bs clock c0 seen es clock rfl hr hbm hborn hc0 ?_ ?_)
   | gi_in)
  ·intro hz
   gi_wp2
   go_end0
   exact ⟨rfl, ed, ce, gotE_all hz hgot hnd, hbo, hB⟩
  ·intro e w2 he hw2
   obtain ⟨hem, hes⟩ := Z.mem_leftOf he
   obtain ⟨x, hx⟩ := hk e hem
   obtain ⟨v1, v2, hv12⟩ := hv e hem
   have hlt := (Array.getElem?_eq_some_iff.1 hr).1
   have hgr : wr.grownBy w2 (some W.heap.size) := Z.grownBy_setBlock hw2
   have hr2 : w2.heap[W.heap.size]? = some (.mapIter (some bs) clock (seen.push e.born) clock) := Z.setBlock_at hw2 hlt
   have hb2 : w2.heap[bs]? = some (.map es clock) := (hgr.block bs (Array.getElem?_eq_some_iff.1 hbm).1 (by intro h; cases h; omega)).trans hbm
   have hen := run_entry_at (P := Tryz.prog) w2 W.heap.size bs clock seen es clock e hr2 hb2 hem hnd
   have hno := gotE_new hgot hkn hk hem hes hx
   have hB2 : Below W.heap.size (put W bd (.map ed ce)) w2 := ⟨hgr.os.trans hB.os, hgr.tape.trans hB.tape, hgr.output.trans hB.output, Nat.le_trans hB.size hgr.size, fun k hk => (hgr.block k (by have := hB.size; rw [size_put] at this; omega) (by intro h; cases h; omega)).trans (hB.block k hk)⟩
   have hd2 : w2.heap[bd]? = some (.map ed ce) := by
    rw [hB2.block bd hld]
    exact put_get hld
   rw [hx, hv12] at hen ⊢
   gi_wp2_with (first
    | (gi_at_mapUpdate; refine wpListIn_mapUpdate_new rfl _ _ _ 404 rfl 29 409 .u64 Tryz.underlying404 Tryz.underlying29 bd ed ce x (.agg #[.int .i64 v1, .int .i64 v2]) rfl ?_ rfl rfl hno ?_; rotate_left; go_frame)
    | gi_in)
   ·have hs0 : W.heap.size ≤ w2.heap.size := by
     have := hB2.size
     rw [size_put] at this
     exact this
    have hB3 : Below W.heap.size (put W bd (.map (ed.push { key := .int .u64 x, val := .agg #[.int .i64 v1, .int .i64 v2], born := ce }) (ce + 1))) (put (w2.alloc (.cells #[.int .i64 v1, .int .i64 v2] 409)) bd (.map (ed.push { key := .int .u64 x, val := .agg #[.int .i64 v1, .int .i64 v2], born := ce }) (ce + 1))) := by
     refine ⟨hB2.os, hB2.tape, hB2.output, ?_, fun k hk => ?_⟩
     ·rw [size_put, size_put, size_alloc]
      omega
     ·by_cases e1 : k = bd
      ·subst e1
       rw [put_get hk, put_get (by rw [size_alloc]; omega)]
      ·rw [put_ne e1, put_ne e1, alloc_lt (by omega), hB2.block k hk, put_ne e1]
    have hne0 : bd ≠ W.heap.size := by omega
    have hlt2 : W.heap.size < w2.heap.size := (Array.getElem?_eq_some_iff.1 hr2).1
    have hr3 : (put (w2.alloc (.cells #[.int .i64 v1, .int .i64 v2] 409)) bd (.map (ed.push { key := .int .u64 x, val := .agg #[.int .i64 v1, .int .i64 v2], born := ce }) (ce + 1))).heap[W.heap.size]? = some (.mapIter (some bs) clock (seen.push e.born) clock) := by
     rw [put_ne (Ne.symm hne0), alloc_lt hlt2]
     exact hr2
    have hb3 : (put (w2.alloc (.cells #[.int .i64 v1, .int .i64 v2] 409)) bd (.map (ed.push { key := .int .u64 x, val := .agg #[.int .i64 v1, .int .i64 v2], born := ce }) (ce + 1))).heap[bs]? = some (.map es clock) := by
     rw [put_ne (Ne.symm hne), alloc_lt (by omega)]
     exact hb2
    go_roundw
    case rel =>
     refine ⟨seen.push e.born, clock, _, _, Nat.le_refl _, hr3, ?_, ?_, hB3⟩
     ·rw [Array.toList_push]
      exact gotE_push hgot hem hes (by unfold kv; rw [hx, hv12])
     ·rw [Array.toList_push]
      exact hbo.push _ _
    case measure => exact Z.iterLeft_lt hr hbm hr3 hb3 hem hes
   ·have hs0 := hB2.size
    rw [size_put] at hs0
    show (w2.alloc _).heap[bd]? = _
    rw [alloc_lt (by omega)]
    exact hd2
end Go.Proofs
end

section
namespace Go.Z
open Go.X Go.RowKit Go.Proofs Go.Proofs.LB
noncomputable section
def twoOk : Value → Bool
 | .agg ⟨[.int .i64 _, .int .i64 _]⟩ => true
 | _ => false
def pairsOk : List (Value × Value) → Bool
 | [] => true
 | x :: l => match twoOk x.2 with | true => pairsOk l | false => false
def copyP : Prim := fun h nx args => match args with
 | [.map (some d), .map (some s)] => (match h.get d, h.get s with
  | some (.map []), some (.map es) => (match Nat.beq d s, keysOf .u64 es, pairsOk es with
   | false, some _, true => some [(.tuple #[], h.ins d (some (.map es)), nx)]
   | _, _, _ => none)
  | _, _ => none)
 | _ => none
theorem pairsOk_mem : ∀ {es : List (Value × Value)}, pairsOk es = true → ∀ x ∈ es, ∃ a b : Int, x.2 = .agg #[.int .i64 a, .int .i64 b]
 | [], _, x, hx => by cases hx
 | y :: l, h, x, hx => by
  unfold pairsOk at h
  split at h
  ·rename_i hy
   rcases List.mem_cons.1 hx with rfl | hx
   ·unfold twoOk at hy
    split at hy
    ·rename_i a b e
     exact ⟨a, b, e⟩
    ·cases hy
   ·exact pairsOk_mem h x hx
  ·cases h
section
variable {σ : Nat → Nat → Value} [SigOk σ]
theorem MapRel.perm {ρ : Ren} {es : List (Value × Value)} {ms ms' : List MapEntry} (h : MapRel σ ρ es ms) (hp : (ms'.map kv).Perm (ms.map kv)) : MapRel σ ρ es ms' where
 len := by
  have := hp.length_eq
  simp only [List.length_map] at this
  rw [this]; exact h.len
 fwd x hx := by
  obtain ⟨e, he, hk, hr⟩ := h.fwd x hx
  obtain ⟨e', he', hkv⟩ := List.mem_map.1 (hp.symm.subset (List.mem_map.2 ⟨e, he, rfl⟩))
  exact ⟨e', he', (congrArg Prod.fst hkv).trans hk, by have h2 : e'.val = e.val := congrArg Prod.snd hkv; rw [h2]; exact hr⟩
 back e' he' := by
  obtain ⟨e, he, hkv⟩ := List.mem_map.1 (hp.subset (List.mem_map.2 ⟨e', he', rfl⟩))
  obtain ⟨v, hv⟩ := h.back e he
  exact ⟨v, by have h2 : e.key = e'.key := congrArg Prod.fst hkv; rw [← h2]; exact hv⟩
 plainK := h.plainK
 nodup := h.nodup
 nodupM := by
  have h2 := hp.map Prod.fst
  simp only [List.map_map] at h2
  have e : (Prod.fst ∘ kv : MapEntry → Value) = fun x => x.key := rfl
  rw [e] at h2
  exact h2.nodup_iff.2 h.nodupM
theorem copyP_ok : PrimOk σ 299 copyP := .of fun w0 args h nx outs ho ρ vs w hfr ha hw => by
 unfold copyP at ho
 split at ho
 case h_2 => cases ho
 rename_i d s
 split at ho
 case h_2 => cases ho
 rename_i es hgd hgs
 split at ho
 case h_2 => cases ho
 rename_i ks hds hks hvs
 cases ho
 cases ha with
 | cons a1 ha =>
 cases ha with
 | cons a2 ha =>
 cases ha
 obtain ⟨bd, c1, hn1, rfl⟩ := a1.map_inv
 obtain ⟨bs, c2, hn2, rfl⟩ := a2.map_inv
 obtain ⟨ms0, cd, hx1, hm1, hb1⟩ := hw.rel d bd c1 _ hn1 hgd
 obtain ⟨ms, clock, hx2, hm2, hb2⟩ := hw.rel s bs c2 _ hn2 hgs
 have h0 : ms0 = #[] := by
  have := hm1.len
  simp at this
  exact Array.eq_empty_of_size_eq_zero (by simpa using this.symm)
 subst h0
 have hne : bd ≠ bs := fun e => by
  subst e
  have e2 : d = s := hw.inj d s bd c1 c2 hn1 hn2 ⟨_, hgd, rfl⟩ ⟨_, hgs, rfl⟩
  subst e2
  simp at hds
 have hent : ∀ e ∈ ms.toList, ∃ v, (e.key, v) ∈ es ∧ Rep σ ρ v e.val := fun e he => by
  obtain ⟨v, hv⟩ := hm2.back e he
  obtain ⟨e2, he2, hk2, hr2⟩ := hm2.fwd _ hv
  have := keyE_inj hm2.nodupM he2 he hk2
  subst this
  exact ⟨v, hv, hr2⟩
 have hk : ∀ e ∈ ms.toList, ∃ k : Int, e.key = .int .u64 k := fun e he => by
  obtain ⟨v, hv, _⟩ := hent e he
  have : e.key ∈ es.map (·.1) := List.mem_map.2 ⟨_, hv, rfl⟩
  rw [keysOf_eq hks] at this
  obtain ⟨k, _, e1⟩ := List.mem_map.1 this
  exact ⟨k, e1.symm⟩
 have hv : ∀ e ∈ ms.toList, ∃ x y : Int, e.val = .agg #[.int .i64 x, .int .i64 y] := fun e he => by
  obtain ⟨v, hv, hr⟩ := hent e he
  obtain ⟨x, y, e1⟩ := pairsOk_mem hvs _ hv
  have e1 : v = _ := e1
  subst e1
  obtain ⟨c', e2, hc⟩ := hr.agg_inv
  have := hc.of_plain (by intro z hz; simp at hz; rcases hz with rfl | rfl <;> rfl)
  have e3 : c' = #[.int .i64 x, .int .i64 y] := Array.ext' this
  exact ⟨x, y, by rw [e2, e3]⟩
 refine (callsIn_wide.1 (copy299_in Fence.wide 3 trivial rfl bd bs ms clock cd hb2.lt hb2.nd hm2.nodupM hk hv w hx1 hx2 hne)).mono ?_
 rintro e W ⟨rfl, ed, cd', hp, hbo, hB⟩
 obtain ⟨_, hWI⟩ := hw.writeMap (P := Tryz.prog) hn1 hgd hx1 (hm2.perm hp) hbo
 exact ⟨(.tuple #[], _, nx), List.mem_singleton.2 rfl, _, ρ, rfl, Ren.le_refl _, New.refl _ _, Nat.le_refl _, hfr, .tup_mk .nil, hWI.below (by rw [size_put]; exact hB)⟩
end
end
end Go.Z
end

section
namespace Go.Z
open Go.X Go.RowKit Go.Proofs Go.Proofs.LB Go.Shelf
set_option maxRecDepth 100000
def growU_ren : Go.Shelf.Ren := ⟨fun | 4 => 241 | n => n, fun | 22 => 23 | 25 => 50 | 3 => 3 | 4 => 4 | 9 => 9 | 20 => 20 | 0 => 0 | n => n, fun | n => n⟩
theorem growU : Go.Proofs.Lays8.n4 Tryz.prog growU_ren := {
 mixed := by kernel_rfl
 f4 := ⟨Tryz.f241.name, by decide, Tryz.func241.trans (congrArg some (by kernel_rfl))⟩
 t0 := Tryz.underlying0
 a0 := Tryz.isAgg0
 z0 := Tryz.sizeOf0
 v0 := Tryz.zeroValue0
 t3 := Tryz.underlying3
 a3 := Tryz.isAgg3
 z3 := Tryz.sizeOf3
 v3 := Tryz.zeroValue3
 t4 := Tryz.underlying4
 a4 := Tryz.isAgg4
 z4 := Tryz.sizeOf4
 v4 := Tryz.zeroValue4
 t9 := Tryz.underlying9
 a9 := Tryz.isAgg9
 z9 := Tryz.sizeOf9
 v9 := Tryz.zeroValue9
 t20 := Tryz.underlying20
 a20 := Tryz.isAgg20
 z20 := Tryz.sizeOf20
 v20 := Tryz.zeroValue20
 t22 := Tryz.underlying23
 a22 := Tryz.isAgg23
 z22 := Tryz.sizeOf23
 v22 := Tryz.zeroValue23 }
def infoU (o : Option TypeInfo) : Bool := match o with
 | some i => (match i.zero with | some z => Nat.beq i.size 1 && (Nat.beq z.cells.size 1 && Nat.ble i.bytes 1000) | none => false)
 | none => false
theorem infoG : ∃ i z, Tryz.prog.info? (growU_ren.t 25) = some i ∧ i.zero = some z ∧ i.size = 1 ∧ z.cells.size = 1 ∧ i.bytes ≤ 1000 ∧ growU_ren.t 25 = 50 := by
 have h : infoU (Tryz.prog.info? (growU_ren.t 25)) = true := by kernel_rfl
 have e : growU_ren.t 25 = 50 := by kernel_rfl
 unfold infoU at h
 split at h
 ·rename_i i hi
  split at h
  ·rename_i z hz
   simp only [Bool.and_eq_true] at h
   exact ⟨i, z, hi, hz, Nat.eq_of_beq_eq_true h.1, Nat.eq_of_beq_eq_true h.2.1, Nat.le_of_ble_eq_true h.2.2, e⟩
  ·cases h
 ·cases h
noncomputable section
def growP : Prim := fun h nx args => match args with
 | [.slice none 0 0, .int .i64 (.ofNat (n + 1))] => (match Nat.ble n 1000 with
  | true => some [(.slice (some ⟨nx, 0, some 0⟩) 0 0, h.ins nx (some (.grown 50 1 [])), nx + 1)]
  | false => none)
 | _ => none
section
variable {σ : Nat → Nat → Value} [SigOk σ]
theorem growP_ok : PrimOk σ 241 growP := .of fun w0 args h nx outs ho ρ vs w hfr ha hw => by
 unfold growP at ho
 split at ho
 case h_2 => cases ho
 rename_i n
 split at ho
 case h_2 => cases ho
 rename_i hn
 have hn := Nat.le_of_ble_eq_true hn
 cases ho
 cases ha with
 | cons a1 ha =>
 cases ha with
 | cons a2 ha =>
 cases ha
 have := a1.of_plain rfl; subst this
 have := a2.of_plain rfl; subst this
 obtain ⟨i, z, hi, hz, hs, hzs, hb, ht⟩ := infoG
 have h1 := Any8.slices_Grow_grow growU i z hi hz (by omega) none 0 0 (n + 1) [] w (Nat.le_refl _) (by omega) (by
  rw [Nat.zero_add]
  exact Nat.le_trans (Nat.mul_le_mul (show n + 1 ≤ 10000 by omega) hb) (by decide)) (by omega) (by simp) (fun _ => rfl) (fun a ha => by cases ha)
 have hge := grownCap_ge w (0 + (n + 1)) 0 (growU_ren.t 25)
 have hle := grownCap_le_maxLen w (0 + (n + 1)) 0 (growU_ren.t 25) (by unfold maxLen; omega)
 rw [ht] at h1 hge hle
 generalize grownCap w (0 + (n + 1)) 0 50 = cap at *
 refine Calls.mono (show Calls Tryz.prog 241 _ _ _ from h1) fun e w' ⟨he, hw'⟩ => ?_
 subst hw'
 have hρ : ρ nx = none := by
  cases hx : ρ nx with
  | none => rfl
  | some p => exact absurd (hfr nx p hx) (Nat.lt_irrefl _)
 have hA := (hw.drew).alloc (h' := h.ins nx (some (.grown 50 1 []))) (n := nx) (c := cap) (O := .cells ((#[] : Array Value) ++ Builtin.zeroCells z.cells (0 + (n + 1) - 0) ++ Builtin.zeroCells z.cells (cap - (0 + (n + 1)))) 50) hρ (fun m o hm hg => by
  rcases Heap.ins_get hg with ⟨e, _⟩ | ⟨_, e⟩
  ·exact absurd e hm
  ·exact .inl e) (fun o hg => by
  rcases Heap.ins_get hg with ⟨_, rfl⟩ | ⟨e, _⟩
  ·refine ⟨rfl, [], (Builtin.zeroCells z.cells (0 + (n + 1) - 0) ++ Builtin.zeroCells z.cells (cap - (0 + (n + 1)))).toList, ?_, .nil, ?_, hle, Nat.one_pos⟩
   ·simp
   ·simp only [List.nil_append, Array.length_toList, Array.size_append, size_zeroCells, hzs]
    omega
  ·exact absurd rfl e)
 refine ⟨_, List.mem_singleton.2 rfl, _, _, he, Ren.add_le hρ, New.add, Nat.le_succ _, fun m p hm => ?_, Rep.gr (b := w.heap.size) (c := cap) Ren.add_same (.inl rfl), hA⟩
 unfold Ren.add at hm
 split at hm
 ·rename_i e; subst e; exact Nat.lt_succ_self _
 ·exact Nat.lt_succ_of_lt (hfr m p hm)
end
end
end Go.Z
end
