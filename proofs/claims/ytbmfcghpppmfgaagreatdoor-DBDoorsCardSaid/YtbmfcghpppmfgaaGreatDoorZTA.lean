/- One part of a proof: an evaluator of the model, shown right, and contracts that it yields. No condition beyond those that each theorem names. -/
import Derived.Test.YtbmfcghpppmfgaaGreatDoorLP
import Derived.Test.YtbmfcghpppmfgaaGreatDoorZS
import Derived.Test.YtbmfcghpppmfgaaGreatDoorZG
import Derived.Test.YtbmfcghpppmfgaaGreatDoorZV
import Derived.Test.YtbmfcghpppmfgaaGreatDoorZO
import Derived.Test.YtbmfcghpppmfgaaGreatDoorZOC
import Derived.Test.YtbmfcghpppmfgaaGreatDoorZP
import Derived.Maps.OwnIn
import Derived.Test.YtbmfcghpppmfgaaGreatDoorZI
import Derived.Test.YtbmfcghpppmfgaaGreatDoorProg
section
set_option linter.unusedSimpArgs false
set_option linter.unusedVariables false
set_option linter.unusedSectionVars false
set_option linter.deprecated false
namespace Go.Z
open Go.X Go.RowKit Go.Proofs Go.Proofs.LB
set_option linter.unusedSectionVars false
set_option linter.unusedVariables false
set_option maxRecDepth 100000
noncomputable section
abbrev Prim := Heap → Nat → List Value → Option (List Out)
/-- functions that have been looked at -/
def mkT : Nat := 15458157434008134408314980592461086577345257169473679456346472946044085358530279800681709620854958552603184958886331902061408858315647561440375842154885140197967670617833468
def tab0 : Tab := fun _ _ => none
def orP (p q : Prim) : Prim := fun h nx args => match p h nx args with
 | some l => some l
 | none => q h nx args
def cloneP : Prim := fun h nx args => match args with
 | [.string s] => (match Nat.ble (bytesOf s).length 100000 with | true => some [(.string s, h, nx)] | false => none)
 | _ => none
def runP (E : Env) (d f : Nat) : Prim := fun h nx args => match runV E mkT d f args h nx with
 | .ok l => some l
 | .no _ => none
section
variable {σ : Nat → Nat → Value} [SigOk σ]
theorem tab0_ok : TabOk σ tab0 := ⟨fun _ _ _ h => by cases h⟩
abbrev PrimOk (σ : Nat → Nat → Value) (g : FuncId) (f : Prim) : Prop := CallOk Tryz.prog σ (fun g' args h nx => if g' = g then (match f h nx args with | some l => .ok l | none => .no []) else .no [])
theorem PrimOk.of {g : FuncId} {f : Prim} (H : ∀ (w0 : World) (args : List Value) (h : Heap) (nx : Nat) (outs : List Out), f h nx args = some outs → ∀ (ρ : Ren) (vs : List Value) (w : World), Fresh ρ nx → RepL σ ρ args vs → WI σ w0 h ρ w →
  Calls Tryz.prog g vs.toArray w fun e w' => ∃ out ∈ outs, ∃ v ρ', e = .returned v ∧ ρ.le ρ' ∧ New ρ ρ' nx ∧ nx ≤ out.2.2 ∧ Fresh ρ' out.2.2 ∧ Rep σ ρ' out.1 v ∧ WI σ w0 out.2.1 ρ' w') : PrimOk σ g f := by
 intro w0 g' args h nx outs ho ρ vs w hfr ha hw
 dsimp only at ho
 split at ho
 case isFalse => cases ho
 rename_i hg
 subst hg
 split at ho
 case h_2 => cases ho
 rename_i l hl
 cases ho
 exact H w0 args h nx _ hl ρ vs w hfr ha hw
theorem PrimOk.to {g : FuncId} {f : Prim} (H : PrimOk σ g f) (w0 : World) (args : List Value) (h : Heap) (nx : Nat) (outs : List Out) (hf : f h nx args = some outs) (ρ : Ren) (vs : List Value) (w : World) (hfr : Fresh ρ nx) (ha : RepL σ ρ args vs) (hw : WI σ w0 h ρ w) :
  Calls Tryz.prog g vs.toArray w fun e w' => ∃ out ∈ outs, ∃ v ρ', e = .returned v ∧ ρ.le ρ' ∧ New ρ ρ' nx ∧ nx ≤ out.2.2 ∧ Fresh ρ' out.2.2 ∧ Rep σ ρ' out.1 v ∧ WI σ w0 out.2.1 ρ' w' :=
 H w0 g args h nx outs (by simp [hf]) ρ vs w hfr ha hw
theorem orP_ok {g : FuncId} {p q : Prim} (hp : PrimOk σ g p) (hq : PrimOk σ g q) : PrimOk σ g (orP p q) :=
 .of fun w0 args h nx outs ho ρ vs w hfr ha hw => by
  unfold orP at ho
  split at ho
  ·rename_i l hl
   cases ho
   exact hp.to w0 args h nx _ hl ρ vs w hfr ha hw
  ·exact hq.to w0 args h nx _ ho ρ vs w hfr ha hw
theorem cloneP_ok : PrimOk σ 84 cloneP :=
 .of fun w0 args h nx outs ho ρ vs w hfr ha hw => by
  unfold cloneP at ho
  split at ho
  case h_2 => cases ho
  rename_i s
  split at ho
  case h_2 => cases ho
  rename_i hs
  cases ho
  have hs := Nat.le_of_ble_eq_true hs
  cases ha with
  | cons a1 ha =>
  cases ha
  have := a1.of_plain rfl
  subst this
  refine (clone84 s w (by unfold bytesOf at hs; rw [Lib.size_eq]; omega)).mono ?_
  rintro e W ⟨rfl, hB⟩
  exact ⟨(.string s, h, nx), List.mem_singleton.2 rfl, _, ρ, rfl, Ren.le_refl _, New.refl _ _, Nat.le_refl _, hfr, .plain rfl, hw.below hB⟩
end
end
end Go.Z
end

section
set_option linter.unusedSimpArgs false
set_option linter.unusedVariables false
set_option linter.unusedSectionVars false
set_option linter.deprecated false
namespace Go.Z
open Go.RowKit Go.ChangeMaps Go.Proofs
section
variable {F : Fence} {n : Nat} {P : Program} {ops : Array Oper} {Q : Exit → Act → World → Prop} {rest : List Oper} {a : Act} {w : World} {o : Oper}
theorem findNow_no {q : IntKind} {x : Int} : ∀ (l : List MapEntry) (i : Nat), (∀ e ∈ l, ∃ y : Int, e.key = .int q y ∧ y ≠ x) → Instr.findNow (.int q) (.int q x) l i = some none
 | [], _, _ => rfl
 | e :: l, i, h => by
  obtain ⟨y, hy, hne⟩ := h e (by simp)
  have : Instr.sameNow (.int q) (.int q x) e.key = some false := by
   rw [hy]
   simp [Instr.sameNow]
   exact fun h => hne h.symm
  rw [Instr.findNow, this]
  exact findNow_no l (i + 1) fun e he => h e (by simp [he])
theorem wpListIn_mapUpdate_new (hg : o.guard = none) (m x v : Operand) (t : TypeId) (hop : o.op = Op.mapUpdate t m x v) (kt et : TypeId) (q : IntKind) (ht : P.underlying t = some (.map kt et)) (hk : P.underlying kt = some (.int q))
  (b : Nat) (ed : Array MapEntry) (cd : Nat) (k : Int) (val : Value) (hm : a.eval m = .map (some b)) (hb : w.heap[b]? = some (.map ed cd)) (hx : a.eval x = .int q k) (hv : a.eval v = val)
  (hno : ∀ e ∈ ed.toList, ∃ y : Int, e.key = .int q y ∧ y ≠ k)
  (hK : wpListIn F n P ops Q rest (a.put o.dst undef) (put w b (.map (ed.push { key := .int q k, val := val, born := cd }) (cd + 1)))) :
  wpListIn F n P ops Q (o :: rest) a w := by
 refine wpListIn_plain hg fun K' hK' => ?_
 have hget : (getObj b).run P w = .ok (.map ed cd) w := by simp [getObj, Sem.run, hb]
 have hc : ∀ e, (Instr.checkKey e 10000 kt (.int q k)).run P w = .ok () w := fun e => by
  rw [show (10000 : Nat) = 9999 + 1 from rfl]; generalize (9999 : Nat) = fu; simp [Instr.checkKey, run_underlying hk]
 have hf : (Instr.findKey kt (.int q k) ed.toList).run P w = .ok none w := by
  simp [Instr.findKey, run_underlying hk, findNow_no ed.toList 0 hno]
 have hrun : (Instr.mapUpdate t (.map (some b)) (.int q k) val).run P w = .ok () (put w b (.map (ed.push { key := .int q k, val := val, born := cd }) (cd + 1))) := by
  have hs : (setObj b (.map (ed.push { key := .int q k, val := val, born := cd }) (cd + 1))).run P w = .ok () (put w b (.map (ed.push { key := .int q k, val := val, born := cd }) (cd + 1))) := by simp [setObj, Sem.run, hb, put]
  simp [Instr.mapUpdate, run_underlying ht, hget, hc, hf, hs]
 unfold Oper.wpIn
 refine ⟨by simp [Oper.about, hop], ?_⟩
 rw [Oper.semAt_plain F _ _ (by rw [hop]; intro c hc'; cases hc')]
 simp [execOp, hop, hm, hx, hv, hrun, Result.andThen]
 exact hK' _ _ hK
end
theorem size_put {w : World} {b : Nat} {O : Obj} : (put w b O).heap.size = w.heap.size := by
 unfold put
 exact Array.size_setIfInBounds
theorem size_alloc {w : World} {O : Obj} : (w.alloc O).heap.size = w.heap.size + 1 := by
 show (w.heap.push O).size = _
 exact Array.size_push _
theorem alloc_lt {w : World} {O : Obj} {k : Nat} (h : k < w.heap.size) : (w.alloc O).heap[k]? = w.heap[k]? := by
 show (w.heap.push O)[k]? = _
 rw [Array.getElem?_push, if_neg (by omega)]
def kv (e : MapEntry) : Value × Value := (e.key, e.val)
/-- of the entries those that have come lie there -/
def GotE (es : Array MapEntry) (seen : Array Nat) (ed : List MapEntry) : Prop := ∃ l : List MapEntry, (∀ e ∈ l, e ∈ es.toList) ∧ l.map (·.born) = seen.toList ∧ ed.map kv = l.map kv ∧ seen.toList.Nodup
theorem gotE_all {es : Array MapEntry} {seen : Array Nat} {ed : List MapEntry} (h0 : NoneLeft es seen) (h : GotE es seen ed) (hnd : (es.toList.map (·.born)).Nodup) : (ed.map kv).Perm (es.toList.map kv) := by
 obtain ⟨l, h1, h2, h3, h4⟩ := h
 rw [h3]
 have hl : l.Nodup := nodup_of_born (h2 ▸ h4)
 refine List.Perm.map _ ((List.perm_ext_iff_of_nodup hl (nodup_of_born hnd)).2 fun e => ⟨h1 e, fun he => ?_⟩)
 have hz : (leftOf es seen).toList = [] := List.eq_nil_of_length_eq_zero (by simpa using h0.h)
 have hin : e.born ∈ seen.toList := by
  by_cases hc : e.born ∈ seen.toList
  ·exact hc
  ·have := leftOf_mem he hc
   rw [hz] at this
   cases this
 rw [← h2] at hin
 obtain ⟨x, hx, hxe⟩ := List.mem_map.1 hin
 exact born_inj hnd (h1 x hx) he hxe ▸ hx
theorem gotE_push {es : Array MapEntry} {seen : Array Nat} {ed : List MapEntry} (h : GotE es seen ed) {e e' : MapEntry} (he : e ∈ es.toList) (hs : e.born ∉ seen.toList) (hk : kv e' = kv e) : GotE es (seen.push e.born) (ed ++ [e']) := by
 obtain ⟨l, h1, h2, h3, h4⟩ := h
 refine ⟨l ++ [e], fun x hx => ?_, by simp [h2], by simp [h3, hk], ?_⟩
 ·rcases List.mem_append.1 hx with hx | hx
  ·exact h1 x hx
  ·rw [List.mem_singleton] at hx; subst hx; exact he
 ·rw [Array.toList_push]
  refine List.nodup_append.2 ⟨h4, by simp, fun a ha b hb hab => ?_⟩
  rw [List.mem_singleton] at hb
  subst hb; subst hab
  exact hs ha
theorem keyE_inj : ∀ {l : List MapEntry}, (l.map (·.key)).Nodup → ∀ {x y : MapEntry}, x ∈ l → y ∈ l → x.key = y.key → x = y
 | [], _, _, _, hx, _, _ => by cases hx
 | a :: l, h, x, y, hx, hy, e => by
  rw [List.map_cons, List.nodup_cons] at h
  have no : ∀ z ∈ l, z.key ≠ a.key := fun z hz e => h.1 (List.mem_map.2 ⟨z, hz, e⟩)
  rcases List.mem_cons.1 hx with hxa | hx
  ·rcases List.mem_cons.1 hy with hya | hy
   ·rw [hxa, hya]
   ·exact absurd (by rw [← e, hxa]) (no y hy)
  ·rcases List.mem_cons.1 hy with hya | hy
   ·exact absurd (by rw [e, hya]) (no x hx)
   ·exact keyE_inj h.2 hx hy e
/-- an entry that has not come is not there -/
theorem gotE_new {q : IntKind} {es : Array MapEntry} {seen : Array Nat} {ed : List MapEntry} (h : GotE es seen ed) (hkn : (es.toList.map (·.key)).Nodup) (hk : ∀ e ∈ es.toList, ∃ k : Int, e.key = .int q k) {e : MapEntry} (he : e ∈ es.toList) (hs : e.born ∉ seen.toList) {x : Int} (hx : e.key = .int q x) :
  ∀ e' ∈ ed, ∃ y : Int, e'.key = .int q y ∧ y ≠ x := fun e' he' => by
 obtain ⟨l, h1, h2, h3, h4⟩ := h
 have : kv e' ∈ l.map kv := by rw [← h3]; exact List.mem_map.2 ⟨e', he', rfl⟩
 obtain ⟨z, hz, hzk⟩ := List.mem_map.1 this
 have hkk : z.key = e'.key := congrArg Prod.fst hzk
 obtain ⟨y, hy⟩ := hk z (h1 z hz)
 refine ⟨y, by rw [← hkk, hy], fun hyx => ?_⟩
 subst hyx
 have := keyE_inj hkn (h1 z hz) he (by rw [hy, hx])
 subst this
 exact hs (by rw [← h2]; exact List.mem_map.2 ⟨z, hz, rfl⟩)
end Go.Z
end

section
set_option linter.unusedSimpArgs false
set_option linter.unusedVariables false
set_option linter.unusedSectionVars false
set_option linter.deprecated false
namespace Go.Proofs
open Go.RowKit Go.Shelf Go.ChangeMaps Go.X Go.Z
attribute [local go_sem] Oper.semAt_some
set_option maxRecDepth 100000 in
set_option maxHeartbeats 1000000 in
theorem copy301_in (F : Fence) (n : Nat) (hF : F.fn 301) (hro : F.round = none) (bd bs : Nat) (es : Array MapEntry) (clock cd : Nat) (hborn : ∀ x ∈ es.toList, x.born < clock) (hnd : (es.toList.map (·.born)).Nodup)
  (hkn : (es.toList.map (·.key)).Nodup) (hk : ∀ e ∈ es.toList, ∃ k : Int, e.key = .int .u64 k) (hv : ∀ e ∈ es.toList, ∃ x y : Int, e.val = .agg #[.int .i64 x, .int .i64 y])
  (W : World) (hd : W.heap[bd]? = some (.map #[] cd)) (hb : W.heap[bs]? = some (.map es clock)) (hne : bd ≠ bs) :
  CallsIn F n Tryz.prog 301 #[.map (some bd), .map (some bs)] W fun e W' => e = .returned (.tuple #[]) ∧ ∃ ed cd', (ed.toList.map Z.kv).Perm (es.toList.map Z.kv) ∧ Z.Born ed.toList cd' ∧ Below W.heap.size (put W bd (.map ed cd')) W' := by
 refine callsIn_of_wp Tryz.func301 rfl hF ?_ hro
 simp only [Tryz.ntmps301, List.size_toArray, List.length_cons, List.length_nil, Nat.reduceAdd, Nat.reduceSub, Array.replicate_succ, Array.replicate_zero, List.push_toArray, List.append_toArray, List.nil_append, List.cons_append]
 gi_wp2_with (first
  | (gi_at_range; refine Z.wpListIn_range_at rfl _ 264 rfl _ _ Tryz.underlying264 bs es clock rfl hb ?_)
  | gi_in)
 go_frame
 have hg0 : Below W.heap.size W (W.alloc (.mapIter (some bs) clock #[] clock)) := (Below.refl _ W).alloc (Nat.le_refl _) _
 have hlb := (Array.getElem?_eq_some_iff.1 hb).1
 have hld := (Array.getElem?_eq_some_iff.1 hd).1
 have hr0 : (W.alloc (.mapIter (some bs) clock #[] clock)).heap[W.heap.size]? = some (.mapIter (some bs) clock #[] clock) := World.alloc_heap_new W _
 generalize W.alloc (.mapIter (some bs) clock #[] clock) = W0 at hg0 hr0
 gi_loopw [9] (fun _ wr => ∃ (seen : Array Nat) (c0 : Nat) (ed : Array MapEntry) (ce : Nat), clock ≤ c0 ∧ wr.heap[W.heap.size]? = some (.mapIter (some bs) clock seen c0) ∧ GotE es seen ed.toList ∧ Z.Born ed.toList ce ∧ Below W.heap.size (put W bd (.map ed ce)) wr)
  (fun _ wr => Z.iterLeft wr bs W.heap.size)
 case atStart =>
  refine ⟨#[], clock, #[], cd, Nat.le_refl _, hr0, ⟨[], by simp, rfl, rfl, List.nodup_nil⟩, Born.nil, ?_⟩
  have : put W bd (.map #[] cd) = W := put_self hd
  rw [this]
  exact hg0
 case round =>
  obtain ⟨seen, c0, ed, ce, hc0, hr, hgot, hbo, hB⟩ := hrel
  have hbm : wr.heap[bs]? = some (.map es clock) := by
   rw [hB.block bs hlb]
   show (W.heap.setIfInBounds bd _)[bs]? = _
   rw [Array.getElem?_setIfInBounds_ne hne]
   exact hb
  gi_wp2_with (first
   | (gi_at_next; refine Z.wpListIn_next_at rfl _ rfl W.heap.size bs clock c0 seen es clock rfl hr hbm hborn hc0 ?_ ?_)
   | gi_in)
  ·intro hz
   gi_wp2
   go_end0
   exact ⟨rfl, ed, ce, gotE_all hz hgot hnd, hbo, hB⟩
  ·intro e w2 he hw2
   obtain ⟨hem, hes⟩ := Z.mem_leftOf he
   obtain ⟨x, hx⟩ := hk e hem
   obtain ⟨v1, v2, hv12⟩ := hv e hem
   have hlt := (Array.getElem?_eq_some_iff.1 hr).1
   have hgr : wr.grownBy w2 (some W.heap.size) := Z.grownBy_setBlock hw2
   have hr2 : w2.heap[W.heap.size]? = some (.mapIter (some bs) clock (seen.push e.born) clock) := Z.setBlock_at hw2 hlt
   have hb2 : w2.heap[bs]? = some (.map es clock) := (hgr.block bs (Array.getElem?_eq_some_iff.1 hbm).1 (by intro h; cases h; omega)).trans hbm
   have hen := run_entry_at (P := Tryz.prog) w2 W.heap.size bs clock seen es clock e hr2 hb2 hem hnd
   have hno := gotE_new hgot hkn hk hem hes hx
   have hB2 : Below W.heap.size (put W bd (.map ed ce)) w2 := ⟨hgr.os.trans hB.os, hgr.tape.trans hB.tape, hgr.output.trans hB.output, Nat.le_trans hB.size hgr.size, fun k hk => (hgr.block k (by have := hB.size; rw [size_put] at this; omega) (by intro h; cases h; omega)).trans (hB.block k hk)⟩
   have hd2 : w2.heap[bd]? = some (.map ed ce) := by
    rw [hB2.block bd hld]
    exact put_get hld
   rw [hx, hv12] at hen ⊢
   gi_wp2_with (first
    | (gi_at_mapUpdate; refine wpListIn_mapUpdate_new rfl _ _ _ 264 rfl 31 274 .u64 Tryz.underlying264 Tryz.underlying31 bd ed ce x (.agg #[.int .i64 v1, .int .i64 v2]) rfl ?_ rfl rfl hno ?_; rotate_left; go_frame)
    | gi_in)
   ·have hs0 : W.heap.size ≤ w2.heap.size := by
     have := hB2.size
     rw [size_put] at this
     exact this
    have hB3 : Below W.heap.size (put W bd (.map (ed.push { key := .int .u64 x, val := .agg #[.int .i64 v1, .int .i64 v2], born := ce }) (ce + 1))) (put (w2.alloc (.cells #[.int .i64 v1, .int .i64 v2] 274)) bd (.map (ed.push { key := .int .u64 x, val := .agg #[.int .i64 v1, .int .i64 v2], born := ce }) (ce + 1))) := by
     refine ⟨hB2.os, hB2.tape, hB2.output, ?_, fun k hk => ?_⟩
     ·rw [size_put, size_put, size_alloc]
      omega
     ·by_cases e1 : k = bd
      ·subst e1
       rw [put_get hk, put_get (by rw [size_alloc]; omega)]
      ·rw [put_ne e1, put_ne e1, alloc_lt (by omega), hB2.block k hk, put_ne e1]
    have hne0 : bd ≠ W.heap.size := by omega
    have hlt2 : W.heap.size < w2.heap.size := (Array.getElem?_eq_some_iff.1 hr2).1
    have hr3 : (put (w2.alloc (.cells #[.int .i64 v1, .int .i64 v2] 274)) bd (.map (ed.push { key := .int .u64 x, val := .agg #[.int .i64 v1, .int .i64 v2], born := ce }) (ce + 1))).heap[W.heap.size]? = some (.mapIter (some bs) clock (seen.push e.born) clock) := by
     rw [put_ne (Ne.symm hne0), alloc_lt hlt2]
     exact hr2
    have hb3 : (put (w2.alloc (.cells #[.int .i64 v1, .int .i64 v2] 274)) bd (.map (ed.push { key := .int .u64 x, val := .agg #[.int .i64 v1, .int .i64 v2], born := ce }) (ce + 1))).heap[bs]? = some (.map es clock) := by
     rw [put_ne (Ne.symm hne), alloc_lt (by omega)]
     exact hb2
    go_roundw
    case rel =>
     refine ⟨seen.push e.born, clock, _, _, Nat.le_refl _, hr3, ?_, ?_, hB3⟩
     ·rw [Array.toList_push]
      exact gotE_push hgot hem hes (by unfold kv; rw [hx, hv12])
     ·rw [Array.toList_push]
      exact hbo.push _ _
    case measure => exact Z.iterLeft_lt hr hbm hr3 hb3 hem hes
   ·have hs0 := hB2.size
    rw [size_put] at hs0
    show (w2.alloc _).heap[bd]? = _
    rw [alloc_lt (by omega)]
    exact hd2
end Go.Proofs
end

section
set_option linter.unusedSimpArgs false
set_option linter.unusedVariables false
set_option linter.unusedSectionVars false
set_option linter.deprecated false
namespace Go.Z
open Go.X Go.RowKit Go.Proofs Go.Proofs.LB
set_option linter.unusedSectionVars false
set_option linter.unusedVariables false
noncomputable section
def twoOk : Value → Bool
 | .agg ⟨[.int .i64 _, .int .i64 _]⟩ => true
 | _ => false
def pairsOk : List (Value × Value) → Bool
 | [] => true
 | x :: l => match twoOk x.2 with | true => pairsOk l | false => false
def copyP : Prim := fun h nx args => match args with
 | [.map (some d), .map (some s)] => (match h.get d, h.get s with
  | some (.map []), some (.map es) => (match Nat.beq d s, keysOf .u64 es, pairsOk es with
   | false, some _, true => some [(.tuple #[], h.ins d (some (.map es)), nx)]
   | _, _, _ => none)
  | _, _ => none)
 | _ => none
theorem pairsOk_mem : ∀ {es : List (Value × Value)}, pairsOk es = true → ∀ x ∈ es, ∃ a b : Int, x.2 = .agg #[.int .i64 a, .int .i64 b]
 | [], _, x, hx => by cases hx
 | y :: l, h, x, hx => by
  unfold pairsOk at h
  split at h
  ·rename_i hy
   rcases List.mem_cons.1 hx with rfl | hx
   ·unfold twoOk at hy
    split at hy
    ·rename_i a b e
     exact ⟨a, b, e⟩
    ·cases hy
   ·exact pairsOk_mem h x hx
  ·cases h
section
variable {σ : Nat → Nat → Value} [SigOk σ]
theorem MapRel.perm {ρ : Ren} {es : List (Value × Value)} {ms ms' : List MapEntry} (h : MapRel σ ρ es ms) (hp : (ms'.map kv).Perm (ms.map kv)) : MapRel σ ρ es ms' where
 len := by
  have := hp.length_eq
  simp only [List.length_map] at this
  rw [this]; exact h.len
 fwd x hx := by
  obtain ⟨e, he, hk, hr⟩ := h.fwd x hx
  obtain ⟨e', he', hkv⟩ := List.mem_map.1 (hp.symm.subset (List.mem_map.2 ⟨e, he, rfl⟩))
  exact ⟨e', he', (congrArg Prod.fst hkv).trans hk, by have h2 : e'.val = e.val := congrArg Prod.snd hkv; rw [h2]; exact hr⟩
 back e' he' := by
  obtain ⟨e, he, hkv⟩ := List.mem_map.1 (hp.subset (List.mem_map.2 ⟨e', he', rfl⟩))
  obtain ⟨v, hv⟩ := h.back e he
  exact ⟨v, by have h2 : e.key = e'.key := congrArg Prod.fst hkv; rw [← h2]; exact hv⟩
 plainK := h.plainK
 nodup := h.nodup
 nodupM := by
  have h2 := hp.map Prod.fst
  simp only [List.map_map] at h2
  have e : (Prod.fst ∘ kv : MapEntry → Value) = fun x => x.key := rfl
  rw [e] at h2
  exact h2.nodup_iff.2 h.nodupM
theorem copyP_ok : PrimOk σ 301 copyP := .of fun w0 args h nx outs ho ρ vs w hfr ha hw => by
 unfold copyP at ho
 split at ho
 case h_2 => cases ho
 rename_i d s
 split at ho
 case h_2 => cases ho
 rename_i es hgd hgs
 split at ho
 case h_2 => cases ho
 rename_i ks hds hks hvs
 cases ho
 cases ha with
 | cons a1 ha =>
 cases ha with
 | cons a2 ha =>
 cases ha
 obtain ⟨bd, c1, hn1, rfl⟩ := a1.map_inv
 obtain ⟨bs, c2, hn2, rfl⟩ := a2.map_inv
 obtain ⟨ms0, cd, hx1, hm1, hb1⟩ := hw.rel d bd c1 _ hn1 hgd
 obtain ⟨ms, clock, hx2, hm2, hb2⟩ := hw.rel s bs c2 _ hn2 hgs
 have h0 : ms0 = #[] := by
  have := hm1.len
  simp at this
  exact Array.eq_empty_of_size_eq_zero (by simpa using this.symm)
 subst h0
 have hne : bd ≠ bs := fun e => by
  subst e
  have e2 : d = s := hw.inj d s bd c1 c2 hn1 hn2 ⟨_, hgd, rfl⟩ ⟨_, hgs, rfl⟩
  subst e2
  simp at hds
 have hent : ∀ e ∈ ms.toList, ∃ v, (e.key, v) ∈ es ∧ Rep σ ρ v e.val := fun e he => by
  obtain ⟨v, hv⟩ := hm2.back e he
  obtain ⟨e2, he2, hk2, hr2⟩ := hm2.fwd _ hv
  have := keyE_inj hm2.nodupM he2 he hk2
  subst this
  exact ⟨v, hv, hr2⟩
 have hk : ∀ e ∈ ms.toList, ∃ k : Int, e.key = .int .u64 k := fun e he => by
  obtain ⟨v, hv, _⟩ := hent e he
  have : e.key ∈ es.map (·.1) := List.mem_map.2 ⟨_, hv, rfl⟩
  rw [keysOf_eq hks] at this
  obtain ⟨k, _, e1⟩ := List.mem_map.1 this
  exact ⟨k, e1.symm⟩
 have hv : ∀ e ∈ ms.toList, ∃ x y : Int, e.val = .agg #[.int .i64 x, .int .i64 y] := fun e he => by
  obtain ⟨v, hv, hr⟩ := hent e he
  obtain ⟨x, y, e1⟩ := pairsOk_mem hvs _ hv
  have e1 : v = _ := e1
  subst e1
  obtain ⟨c', e2, hc⟩ := hr.agg_inv
  have := hc.of_plain (by intro z hz; simp at hz; rcases hz with rfl | rfl <;> rfl)
  have e3 : c' = #[.int .i64 x, .int .i64 y] := Array.ext' this
  exact ⟨x, y, by rw [e2, e3]⟩
 refine (callsIn_wide.1 (copy301_in Fence.wide 3 trivial rfl bd bs ms clock cd hb2.lt hb2.nd hm2.nodupM hk hv w hx1 hx2 hne)).mono ?_
 rintro e W ⟨rfl, ed, cd', hp, hbo, hB⟩
 obtain ⟨_, hWI⟩ := hw.writeMap (P := Tryz.prog) hn1 hgd hx1 (hm2.perm hp) hbo
 exact ⟨(.tuple #[], _, nx), List.mem_singleton.2 rfl, _, ρ, rfl, Ren.le_refl _, New.refl _ _, Nat.le_refl _, hfr, .tup_mk .nil, hWI.below (by rw [size_put]; exact hB)⟩
end
end
end Go.Z
end

section
set_option linter.unusedSimpArgs false
set_option linter.unusedVariables false
set_option linter.unusedSectionVars false
set_option linter.deprecated false
namespace Go.Z
open Go.X Go.RowKit Go.Proofs Go.Proofs.LB
set_option linter.unusedSectionVars false
set_option linter.unusedVariables false
set_option maxRecDepth 100000
noncomputable section
def leafN (f : Nat → Nat) : Value → Value
 | .slice (some ⟨n, off, none⟩) len cap => .slice (some ⟨f n, off, none⟩) len cap
 | .slice (some ⟨n, off, some k⟩) len z => .slice (some ⟨f n, off, some k⟩) len z
 | v => v
def okLeaf (m : Nat) : Value → Bool
 | .slice (some ⟨n, _, _⟩) _ _ => Nat.blt n m
 | v => plain v
def mapL (f : Value → Value) : List Value → List Value
 | [] => []
 | x :: l => f x :: mapL f l
def allL (f : Value → Bool) : List Value → Bool
 | [] => true
 | x :: l => f x && allL f l
def aggN (f : Nat → Nat) : Value → Value
 | .agg ⟨l⟩ => .agg ⟨mapL (leafN f) l⟩
 | v => leafN f v
def okAgg (m : Nat) : Value → Bool
 | .agg ⟨l⟩ => allL (okLeaf m) l
 | v => okLeaf m v
def tupN (f : Nat → Nat) : Value → Value
 | .tuple ⟨l⟩ => .tuple ⟨mapL (aggN f) l⟩
 | v => aggN f v
def okTup (m : Nat) : Value → Bool
 | .tuple ⟨l⟩ => allL (okAgg m) l
 | v => okAgg m v
def objN (f : Nat → Nat) : HO → HO
 | .cells t l => .cells t (mapL (leafN f) l)
 | .grown t z l => .grown t z (mapL (leafN f) l)
 | o => o
def okObj (m : Nat) : HO → Bool
 | .cells _ l => allL (okLeaf m) l
 | .grown _ _ l => allL (okLeaf m) l
 | _ => false
def okObjs (m : Nat) : List HO → Bool
 | [] => true
 | o :: l => okObj m o && okObjs m l
section
variable {σ : Nat → Nat → Value} {ρ1 ρ2 : Ren} {m : Nat} {f g : Nat → Nat}
theorem leafN_plain {v : Value} (h : plain v = true) : leafN f v = v := by
 unfold leafN
 split <;> first | rfl | cases h
theorem leafN_rep (H : ∀ n, n < m → ∀ p, ρ1 (g n) = some p → ρ2 (f n) = some p) {x y : Value} (ho : okLeaf m x = true) (hr : Rep σ ρ1 (leafN g x) y) : Rep σ ρ2 (leafN f x) y := by
 unfold okLeaf at ho
 split at ho
 ·rename_i n off s len cap
  have hn := Nat.le_of_ble_eq_true ho
  cases s with
  | none =>
   obtain ⟨b, c, h1, rfl⟩ := Rep.sl_inv hr
   exact .sl (H n hn _ h1)
  | some k =>
   obtain ⟨b, c, off', h1, h2, rfl⟩ := Rep.gr_inv hr
   exact .gr (H n hn _ h1) h2
 ·rw [leafN_plain ho] at hr ⊢
  rw [hr.of_plain ho]
  exact .plain ho
theorem mapL_rep {a b : Value → Value} {ok : Value → Bool} (H : ∀ x y, ok x = true → Rep σ ρ1 (a x) y → Rep σ ρ2 (b x) y) : ∀ {l m : List Value}, allL ok l = true → RepL σ ρ1 (mapL a l) m → RepL σ ρ2 (mapL b l) m
 | [], _, _, .nil => .nil
 | x :: l, _, h, .cons r rs => by
  simp only [allL, Bool.and_eq_true] at h
  exact .cons (H x _ h.1 r) (mapL_rep H h.2 rs)
theorem aggN_rep (H : ∀ n, n < m → ∀ p, ρ1 (g n) = some p → ρ2 (f n) = some p) {x y : Value} (ho : okAgg m x = true) (hr : Rep σ ρ1 (aggN g x) y) : Rep σ ρ2 (aggN f x) y := by
 unfold okAgg at ho
 split at ho
 ·rename_i l
  obtain ⟨c', rfl, hc⟩ := Rep.agg_inv hr
  exact .agg_mk (mapL_rep (fun x y => leafN_rep H) ho hc)
 ·rename_i v hv
  have e : ∀ k : Nat → Nat, aggN k x = leafN k x := fun k => by
   unfold aggN
   split
   ·exact absurd rfl (hv _)
   ·rfl
  rw [e] at hr ⊢
  exact leafN_rep H ho hr
theorem tupN_rep (H : ∀ n, n < m → ∀ p, ρ1 (g n) = some p → ρ2 (f n) = some p) {x y : Value} (ho : okTup m x = true) (hr : Rep σ ρ1 (tupN g x) y) : Rep σ ρ2 (tupN f x) y := by
 unfold okTup at ho
 split at ho
 ·rename_i l
  obtain ⟨c', rfl, hc⟩ := Rep.tup_inv hr
  exact .tup_mk (mapL_rep (fun x y => aggN_rep H) ho hc)
 ·rename_i v hv
  have e : ∀ k : Nat → Nat, tupN k x = aggN k x := fun k => by
   unfold tupN
   split
   ·exact absurd rfl (hv _)
   ·rfl
  rw [e] at hr ⊢
  exact aggN_rep H ho hr
theorem objN_rel (H : ∀ n, n < m → ∀ p, ρ1 (g n) = some p → ρ2 (f n) = some p) {o : HO} {x : Option Obj} {c : Nat} (ho : okObj m o = true) (hr : ObjRel σ ρ1 x c (objN g o)) : ObjRel σ ρ2 x c (objN f o) := by
 cases o with
 | cells t l =>
  obtain ⟨l', hx, hl⟩ := hr
  exact ⟨l', hx, mapL_rep (fun x y => leafN_rep H) ho hl⟩
 | grown t z l =>
  obtain ⟨l', rest, hx, hl, k⟩ := hr
  exact ⟨l', rest, hx, mapL_rep (fun x y => leafN_rep H) ho hl, k⟩
 | _ => cases ho
theorem objN_live {o : HO} (ho : okObj m o = true) : (objN f o).live = true := by
 cases o <;> first | rfl | cases ho
theorem okObjs_mem : ∀ {l : List HO} {i : Nat} {o : HO}, okObjs m l = true → l[i]? = some o → okObj m o = true
 | [], i, o, _, h => by simp at h
 | x :: l, 0, o, h, ho => by
  simp only [okObjs, Bool.and_eq_true] at h
  simp at ho; subst ho; exact h.1
 | x :: l, i + 1, o, h, ho => by
  simp only [okObjs, Bool.and_eq_true] at h
  exact okObjs_mem h.2 (by simpa using ho)
end
def putAll (nx : Nat) (f : Nat → Nat) : Nat → List HO → Heap → Heap
 | _, [], h => h
 | i, o :: l, h => putAll nx f (i + 1) l (h.ins (nx + i) (some (objN f o)))
theorem putAll_get {nx : Nat} {f : Nat → Nat} : ∀ {l : List HO} {i : Nat} {h : Heap} {n : Nat} {o : HO}, (putAll nx f i l h).get n = some o →
  (∃ j o', l[j]? = some o' ∧ n = nx + (i + j) ∧ o = objN f o') ∨ ((∀ j, j < l.length → n ≠ nx + (i + j)) ∧ h.get n = some o)
 | [], i, h, n, o, hg => .inr ⟨fun j hj => by simp at hj, hg⟩
 | x :: l, i, h, n, o, hg => by
  rcases putAll_get (l := l) hg with ⟨j, o', hj, hn, ho⟩ | ⟨hno, hg⟩
  ·exact .inl ⟨j + 1, o', by simpa using hj, by omega, ho⟩
  ·rcases Heap.ins_get hg with ⟨hn, ho⟩ | ⟨hn, hg⟩
   ·exact .inl ⟨0, x, rfl, by omega, ho⟩
   ·refine .inr ⟨fun j hj => ?_, hg⟩
    cases j with
    | zero => simpa using hn
    | succ j =>
     have := hno j (by simp at hj; omega)
     omega
def eqHO : HO → HO → Bool
 | .cells t l, .cells u m => Nat.beq t u && eqL l m
 | .grown t z l, .grown u y m => Nat.beq t u && Nat.beq z y && eqL l m
 | _, _ => false
theorem eqHO_sound {a b : HO} (h : eqHO a b = true) : a = b := by
 unfold eqHO at h
 split at h
 ·simp only [Bool.and_eq_true] at h
  rw [Nat.eq_of_beq_eq_true h.1, eqL_sound _ _ h.2]
 ·simp only [Bool.and_eq_true] at h
  rw [Nat.eq_of_beq_eq_true h.1.1, Nat.eq_of_beq_eq_true h.1.2, eqL_sound _ _ h.2]
 ·cases h
def at0 (gl : List Nat) (i : Nat) : Nat := match gl[i]? with | some n => n | none => 0
def chkObjs (f : Nat → Nat) : List HO → List Nat → Heap → Bool
 | [], [], _ => true
 | o :: l, n :: gl, h => (match h.get n with | some x => eqHO (objN f o) x && chkObjs f l gl h | none => false)
 | _, _, _ => false
theorem chkObjs_get {f : Nat → Nat} : ∀ {l : List HO} {gl : List Nat} {h : Heap}, chkObjs f l gl h = true → gl.length = l.length ∧ ∀ (i : Nat) (o : HO), l[i]? = some o → h.get (at0 gl i) = some (objN f o)
 | [], [], h, _ => ⟨rfl, fun i o ho => by simp at ho⟩
 | [], _ :: _, h, hc => by simp [chkObjs] at hc
 | _ :: _, [], h, hc => by simp [chkObjs] at hc
 | o :: l, n :: gl, h, hc => by
  unfold chkObjs at hc
  split at hc
  case h_2 => cases hc
  rename_i x hx
  simp only [Bool.and_eq_true] at hc
  obtain ⟨h1, h2⟩ := chkObjs_get hc.2
  refine ⟨by simp [h1], fun i o' ho' => ?_⟩
  cases i with
  | zero =>
   simp at ho'; subst ho'
   show h.get n = _
   rw [hx, eqHO_sound hc.1]
  | succ i =>
   have := h2 i o' (by simpa using ho')
   simpa [at0] using this
def noTwo : List Nat → Bool
 | [] => true
 | n :: l => !memI n l && noTwo l
theorem memI_mem {i : Nat} : ∀ {l : List Nat}, memI i l = true ↔ i ∈ l
 | [] => by simp [memI]
 | j :: l => by
  unfold memI
  split
  ·rename_i h
   have := Nat.eq_of_beq_eq_true h
   simp [this]
  ·rename_i h
   have : i ≠ j := fun e => by subst e; simp at h
   rw [memI_mem]
   simp [this]
theorem noTwo_nodup : ∀ {l : List Nat}, noTwo l = true → l.Nodup
 | [], _ => by simp
 | n :: l, h => by
  simp only [noTwo, Bool.and_eq_true, Bool.not_eq_true'] at h
  refine List.nodup_cons.2 ⟨fun hm => ?_, noTwo_nodup h.2⟩
  rw [memI_mem.2 hm] at h
  cases h.1
theorem at0_inj {gl : List Nat} (h : gl.Nodup) {i j : Nat} (hi : i < gl.length) (hj : j < gl.length) (e : at0 gl i = at0 gl j) : i = j := by
 unfold at0 at e
 rw [List.getElem?_eq_getElem hi, List.getElem?_eq_getElem hj] at e
 exact (List.getElem_inj h).1 (Option.some.inj (congrArg some e))
/-- an answer, laid down: the value, the objects under the names 0, 1, .., and what names these had in the run -/
structure Laid where
 args : List Value
 v : Value
 objs : List HO
 names : List Nat
def chkOuts (v : Value) (objs : List HO) (gl : List Nat) : List Out → Bool
 | [] => true
 | o :: l => eqV (tupN (at0 gl) v) o.1 && chkObjs (at0 gl) objs gl o.2.1 && chkOuts v objs gl l
theorem chkOuts_mem {v : Value} {objs : List HO} {gl : List Nat} : ∀ {l : List Out}, chkOuts v objs gl l = true → ∀ o ∈ l, o.1 = tupN (at0 gl) v ∧ chkObjs (at0 gl) objs gl o.2.1 = true
 | [], _, o, ho => by cases ho
 | x :: l, h, o, ho => by
  simp only [chkOuts, Bool.and_eq_true] at h
  rcases List.mem_cons.1 ho with rfl | ho
  ·exact ⟨(eqV_sound _ _ h.1.1).symm, h.1.2⟩
  ·exact chkOuts_mem h.2 o ho
def laidOk (x : Laid) (r : R (List Out)) : Bool := match r with
 | .ok l => chkOuts x.v x.objs x.names l && okTup x.objs.length x.v && okObjs x.objs.length x.objs && noTwo x.names && Nat.beq x.names.length x.objs.length && allL plain x.args
 | .no _ => false
def layP (x : Laid) (h : Heap) (nx : Nat) : Out := (tupN (fun i => nx + i) x.v, putAll nx (fun i => nx + i) 0 x.objs h, nx + x.objs.length)
theorem allL_mem {f : Value → Bool} : ∀ {l : List Value}, allL f l = true → ∀ x ∈ l, f x = true
 | [], _, x, h => by cases h
 | y :: l, h, x, hx => by
  simp only [allL, Bool.and_eq_true] at h
  rcases List.mem_cons.1 hx with rfl | hx
  ·exact h.1
  ·exact allL_mem h.2 x hx
theorem KeptZ.trans {a b c : World} (h : KeptZ a b) (k : KeptZ b c) : KeptZ a c :=
 ⟨k.os.trans h.os, k.tape.trans h.tape, k.output.trans h.output, Nat.le_trans h.size k.size, fun i hi => (k.block i (Nat.lt_of_lt_of_le hi h.size)).trans (h.block i hi)⟩
section
variable {σ : Nat → Nat → Value} [SigOk σ]
theorem lay_sound {E : Env} (hE : EnvOk E σ) {d : Nat} {fn : FuncId} {x : Laid} (hx : laidOk x (run E d fn x.args .nil 0) = true) {w0 w : World} {h : Heap} {ρ : Ren} {nx : Nat} {vs : List Value} (hfr : Fresh ρ nx) (ha : RepL σ ρ x.args vs) (hw : WI σ w0 h ρ w) :
  Calls E.P fn vs.toArray w fun e w' => ∃ v ρ', e = .returned v ∧ ρ.le ρ' ∧ New ρ ρ' nx ∧ nx ≤ (layP x h nx).2.2 ∧ Fresh ρ' (layP x h nx).2.2 ∧ Rep σ ρ' (layP x h nx).1 v ∧ WI σ w0 (layP x h nx).2.1 ρ' w' := by
 unfold laidOk at hx
 split at hx
 case h_2 => cases hx
 rename_i outs ho
 simp only [Bool.and_eq_true] at hx
 obtain ⟨⟨⟨⟨⟨hc, hv⟩, hobj⟩, hnd⟩, hlen⟩, hp⟩ := hx
 have hlen := Nat.eq_of_beq_eq_true hlen
 have hnd := noTwo_nodup hnd
 have hvs : vs = x.args := ha.of_plain (allL_mem hp)
 subst hvs
 refine (run_sound hE d w fn x.args .nil 0 outs ho (fun _ => none) x.args w (fun _ _ h => by cases h) (RepL.plain (allL_mem hp)) (wi_start σ w)).mono ?_
 rintro e w' ⟨out, hout, v', ρ1, rfl, _, _, _, _, hrv, hwi⟩
 obtain ⟨ho1, ho2⟩ := chkOuts_mem hc out hout
 obtain ⟨_, hget⟩ := chkObjs_get ho2
 have hρ : ∃ ρ' : Ren, (∀ n, n < nx → ρ' n = ρ n) ∧ (∀ i, i < x.objs.length → ρ' (nx + i) = ρ1 (at0 x.names i)) ∧ (∀ n, nx + x.objs.length ≤ n → ρ' n = none) := by
  refine ⟨fun n => if n < nx then ρ n else if n < nx + x.objs.length then ρ1 (at0 x.names (n - nx)) else none, fun n hn => if_pos hn, fun i hi => ?_, fun n hn => ?_⟩
  ·show (if nx + i < nx then _ else _) = _
   rw [if_neg (by omega), if_pos (by omega), Nat.add_sub_cancel_left]
  ·show (if n < nx then _ else _) = _
   rw [if_neg (by omega), if_neg (by omega)]
 obtain ⟨ρ', r1, r2, r3⟩ := hρ
 have hle : ρ.le ρ' := fun n p hn => by rw [r1 n (hfr n p hn)]; exact hn
 have H : ∀ n, n < x.objs.length → ∀ p, ρ1 (at0 x.names n) = some p → ρ' (nx + n) = some p := fun n hn p hp => by rw [r2 n hn]; exact hp
 have hcase : ∀ n p, ρ' n = some p → (n < nx ∧ ρ n = some p) ∨ ∃ i, i < x.objs.length ∧ n = nx + i ∧ ρ1 (at0 x.names i) = some p := fun n p hn => by
  by_cases h1 : n < nx
  ·exact .inl ⟨h1, by rw [← r1 n h1]; exact hn⟩
  ·by_cases h2 : n < nx + x.objs.length
   ·obtain ⟨i, rfl⟩ : ∃ i, n = nx + i := ⟨n - nx, by omega⟩
    exact .inr ⟨i, by omega, rfl, by rw [← r2 i (by omega)]; exact hn⟩
   ·rw [r3 n (by omega)] at hn
    cases hn
 have hold : ∀ n o, n < nx → (putAll nx (fun i => nx + i) 0 x.objs h).get n = some o → h.get n = some o := fun n o hn hg => by
  rcases putAll_get hg with ⟨j, o', _, e, _⟩ | ⟨_, hg⟩
  ·omega
  ·exact hg
 have hnew : ∀ i o, i < x.objs.length → (putAll nx (fun i => nx + i) 0 x.objs h).get (nx + i) = some o → ∃ o', x.objs[i]? = some o' ∧ o = objN (fun i => nx + i) o' := fun i o hi hg => by
  rcases putAll_get hg with ⟨j, o', hj, e, he⟩ | ⟨hno, _⟩
  ·obtain rfl : i = j := by omega
   exact ⟨o', hj, he⟩
  ·have := hno i hi
   omega
 have hlive : ∀ i, i < x.objs.length → Live out.2.1 (at0 x.names i) := fun i hi => by
  have he := List.getElem?_eq_getElem hi
  exact ⟨_, hget i _ he, objN_live (okObjs_mem hobj he)⟩
 refine ⟨v', ρ', rfl, hle, fun n p hn => ?_, Nat.le_add_right _ _, fun n p hn => ?_, ?_, ?_⟩
 ·rcases hcase n p hn with ⟨_, h1⟩ | ⟨i, _, rfl, _⟩
  ·exact .inl h1
  ·exact .inr (Nat.le_add_right _ _)
 ·show n < nx + x.objs.length
  rcases hcase n p hn with ⟨h1, _⟩ | ⟨i, hi, rfl, _⟩ <;> omega
 ·rw [ho1] at hrv
  exact tupN_rep H hv hrv
 ·refine ⟨fun n b c o hn hg => ?_, fun n b c hn => ?_, fun n k b c c' hn hk l1 l2 => ?_, fun n b c hn l => ?_, fun n b c l hn hg => ?_, hw.kept.trans hwi.kept⟩
  ·rcases hcase n _ hn with ⟨h1, h2⟩ | ⟨i, hi, rfl, h2⟩
   ·have := hw.rel n b c o h2 (hold n o h1 hg)
    rw [← hwi.kept.block b (hw.lt n b c h2)] at this
    exact this.mono hle
   ·obtain ⟨o', ho', rfl⟩ := hnew i o hi hg
    exact objN_rel H (okObjs_mem hobj ho') (hwi.rel _ b c _ h2 (hget i o' ho'))
  ·rcases hcase n _ hn with ⟨h1, h2⟩ | ⟨i, hi, rfl, h2⟩
   ·exact Nat.lt_of_lt_of_le (hw.lt n b c h2) hwi.kept.size
   ·exact hwi.lt _ b c h2
  ·have lold : ∀ {n : Nat}, n < nx → Live (putAll nx (fun i => nx + i) 0 x.objs h) n → Live h n := fun h1 ⟨o, ho, hl⟩ => ⟨o, hold _ o h1 ho, hl⟩
   rcases hcase n _ hn with ⟨h1, h2⟩ | ⟨i, hi, rfl, h2⟩
   ·rcases hcase k _ hk with ⟨h3, h4⟩ | ⟨j, hj, rfl, h4⟩
    ·exact hw.inj n k b c c' h2 h4 (lold h1 l1) (lold h3 l2)
    ·have q1 := hw.lt n b c h2
     have q2 := hwi.own _ b c' h4 (hlive j hj)
     omega
   ·rcases hcase k _ hk with ⟨h3, h4⟩ | ⟨j, hj, rfl, h4⟩
    ·have q1 := hw.lt k b c' h4
     have q2 := hwi.own _ b c h2 (hlive i hi)
     omega
    ·have := hwi.inj _ _ b c c' h2 h4 (hlive i hi) (hlive j hj)
     rw [at0_inj hnd (by omega) (by omega) this]
  ·rcases hcase n _ hn with ⟨h1, h2⟩ | ⟨i, hi, rfl, h2⟩
   ·obtain ⟨o, ho, hl⟩ := l
    exact hw.own n b c h2 ⟨o, hold _ o h1 ho, hl⟩
   ·exact Nat.le_trans hw.kept.size (hwi.own _ b c h2 (hlive i hi))
  ·rcases hcase n _ hn with ⟨h1, h2⟩ | ⟨i, hi, rfl, h2⟩
   ·exact hw.old n b c l h2 (hold n _ h1 hg)
   ·obtain ⟨o', ho', e⟩ := hnew i _ hi hg
    have := objN_live (f := fun i => nx + i) (okObjs_mem hobj ho')
    rw [← e] at this
    cases this
/-- a table of calls that have been done -/
def findLaid (args : List Value) : List Laid → Option Laid
 | [] => none
 | x :: l => match eqL x.args args with
  | true => some x
  | false => findLaid args l
def laidP (tab : List Laid) : Prim := fun h nx args => match findLaid args tab with
 | some x => some [layP x h nx]
 | none => none
theorem findLaid_spec {args : List Value} : ∀ {l : List Laid} {x : Laid}, findLaid args l = some x → x ∈ l ∧ x.args = args
 | [], x, h => by cases h
 | y :: l, x, h => by
  unfold findLaid at h
  split at h
  ·rename_i he
   cases h
   exact ⟨by simp, eqL_sound _ _ he⟩
  ·obtain ⟨h1, h2⟩ := findLaid_spec h
   exact ⟨by simp [h1], h2⟩
theorem laidP_ok {E : Env} (hE : EnvOk E σ) (he : E.P = Tryz.prog) {d : Nat} {fn : FuncId} {tab : List Laid} (ht : ∀ x ∈ tab, laidOk x (run E d fn x.args .nil 0) = true) : PrimOk σ fn (laidP tab) :=
 .of fun w0 args h nx outs ho ρ vs w hfr ha hw => by
  unfold laidP at ho
  split at ho
  case h_2 => cases ho
  rename_i x hx
  cases ho
  obtain ⟨h1, h2⟩ := findLaid_spec hx
  subst h2
  have := lay_sound hE (ht x h1) hfr ha hw
  rw [he] at this
  refine this.mono ?_
  rintro e W ⟨v, ρ', q⟩
  exact ⟨_, List.mem_singleton.2 rfl, v, ρ', q⟩
end
end
end Go.Z
end
