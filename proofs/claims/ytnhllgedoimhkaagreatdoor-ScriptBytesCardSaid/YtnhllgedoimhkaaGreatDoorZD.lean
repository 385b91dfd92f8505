/- One part of a proof: an evaluator of the model, shown right, and contracts that it yields. No condition beyond those that each theorem names. -/
import Derived.Test.YtnhllgedoimhkaaGreatDoorZC
import Derived.Deep.AppendSrc
import Derived.Deep.Upon
import Derived.Conc.SmallLaws
import Derived.Maps.RangeRun
import Derived.Laws.IdiomRangeMap
import Derived.Test.YtnhllgedoimhkaaGreatDoorZA
import Derived.Test.YtnhllgedoimhkaaGreatDoorXA
import Derived.Conc.LoneSelect
import Derived.Lib.ConvBytes
set_option linter.unusedSimpArgs false
set_option linter.unusedVariables false
set_option linter.unusedSectionVars false
set_option linter.deprecated false
section
namespace Go.Z
open Go.X
open Go.RowKit
def Fresh (ρ : Ren) (nx : Nat) : Prop := ∀ n x, ρ n = some x → n < nx
def New (ρ ρ' : Ren) (nx : Nat) : Prop := ∀ n x, ρ' n = some x → ρ n = some x ∨ nx ≤ n
theorem New.refl (ρ : Ren) (nx : Nat) : New ρ ρ nx := fun _ _ h => .inl h
theorem Fresh.none {ρ : Ren} {nx : Nat} (h : Fresh ρ nx) : ρ nx = none := by
 cases hn : ρ nx with
 | none => rfl
 | some x => exact absurd (h nx x hn) (Nat.lt_irrefl _)
theorem Fresh.add {ρ : Ren} {nx b c : Nat} (h : Fresh ρ nx) : Fresh (ρ.add nx b c) (nx + 1) := fun n x hn => by
 unfold Ren.add at hn
 split at hn
 ·omega
 ·exact Nat.lt_succ_of_lt (h n x hn)
theorem New.add {ρ : Ren} {nx b c : Nat} : New ρ (ρ.add nx b c) nx := fun n x hn => by
 unfold Ren.add at hn
 split at hn
 ·exact .inr (by omega)
 ·exact .inl hn
section
variable {P : Program} {σ : Nat → Nat → Value} {w0 : World} {h : Heap} {ρ : Ren} {w : World}
def StepOk (P : Program) (σ : Nat → Nat → Value) (w0 : World) (ρ : Ren) (nx : Nat) (o : Oper) (a : Act) (w : World) (outs : List Out) : Prop :=
 ∀ (next : Act → World → Prop) (Q : Exit → Act → World → Prop),
  (∀ out ∈ outs, ∀ ρ' v' w', ρ.le ρ' → New ρ ρ' nx → nx ≤ out.2.2 → Fresh ρ' out.2.2 → Rep σ ρ' out.1 v' → WI σ w0 out.2.1 ρ' w' → next (a.put o.dst v') w') → o.wp P a w next Q
theorem StepOk.value {nx : Nat} {o : Oper} {a : Act} {out : Out} {v' : Value} {w' : World} {ρ' : Ren} (hr : (execOp a.eval o).run P w = .ok (.value v') w') (hle : ρ.le ρ') (hnew : New ρ ρ' nx) (hnx : nx ≤ out.2.2) (hf : Fresh ρ' out.2.2)
  (hv : Rep σ ρ' out.1 v') (hw : WI σ w0 out.2.1 ρ' w') : StepOk P σ w0 ρ nx o a w [out] := fun next Q h => by
 unfold Oper.wp
 rw [hr]
 exact h out (by simp) ρ' v' w' hle hnew hnx hf hv hw
theorem StepOk.skip {nx : Nat} {o : Oper} {a : Act} {out : Out} {w' : World} {ρ' : Ren} (hr : (execOp a.eval o).run P w = .ok .skip w') (hle : ρ.le ρ') (hnew : New ρ ρ' nx) (hnx : nx ≤ out.2.2) (hf : Fresh ρ' out.2.2)
  (hv : Rep σ ρ' out.1 undef) (hw : WI σ w0 out.2.1 ρ' w') : StepOk P σ w0 ρ nx o a w [out] := fun next Q h => by
 unfold Oper.wp
 rw [hr]
 exact h out (by simp) ρ' undef w' hle hnew hnx hf hv hw
theorem rep_undef : Rep σ ρ undef undef := .tup_mk .nil
theorem rep_one {x y : Value} (h : Rep σ ρ x y) (hx : x.oneCell' = true) : y.oneCell' = true := by
 cases h with
 | plain hp => exact hx
 | agg h => simp [Value.oneCell'] at hx
 | tup h => simp [Value.oneCell'] at hx
 | @sym i j hp => cases hs : σ i j <;> rw [hs] at hp <;> first | rfl | cases hp
 | _ => rfl
theorem repL_one : ∀ {l m : List Value}, RepL σ ρ l m → (∀ x ∈ l, x.oneCell' = true) → ∀ y ∈ m, y.oneCell' = true
 | _, _, .nil, _, y, hy => by cases hy
 | _, _, .cons a t, h, y, hy => by
  rcases List.mem_cons.1 hy with rfl | hy
  ·exact rep_one a (h _ (by simp))
  ·exact repL_one t (fun x hx => h x (by simp [hx])) y hy
theorem setAt_append : ∀ {l r : List Value} {n : Nat} {x : List Value}, n + x.length ≤ l.length → setAt (l ++ r) n x = setAt l n x ++ r
 | [], r, n, [], _ => by cases r <;> cases n <;> simp [setAt]
 | [], r, n, y :: x, h => by simp at h
 | z :: l, r, n, [], _ => by cases n <;> simp [setAt]
 | z :: l, r, 0, y :: x, h => by
  simp only [List.cons_append, setAt, List.cons.injEq, true_and]
  exact setAt_append (by simpa using h)
 | z :: l, r, n + 1, y :: x, h => by
  simp only [List.cons_append, setAt, List.cons.injEq, true_and]
  exact setAt_append (by simp at h ⊢; omega)
theorem len_setAt : ∀ (l : List Value) (n : Nat) (x : List Value), (setAt l n x).length = l.length := length_setAt
theorem writeCells_sound (k : WI σ w0 h ρ w) {n b c off : Nat} {new new' : List Value} {h' : Heap} (hn : ρ n = some (b, c)) (hr : RepL σ ρ new new') (hw : writeCells h n off new = some h') :
  ∃ w', (storeCells ⟨b, off, none⟩ new').run P w = .ok () w' ∧ WI σ w0 h' ρ w' := by
 unfold writeCells at hw
 split at hw
 ·rename_i h1
  have h1' := repL_one hr (allOne_spec h1)
  split at hw
  ·rename_i t l ho
   split at hw
   ·rename_i hle
    cases hw
    have hle := Nat.le_of_ble_eq_true hle
    obtain ⟨l', hx, hl⟩ := k.rel n b c _ hn ho
    have hll := hl.length
    have hnn := hr.length
    have hst := run_storeCells_at P b off t new' 0 l'.toArray w hx (by simp; omega) h1'
    simp only [Nat.add_zero] at hst
    rw [← setAt_eq l' off new' (by omega)] at hst
    refine ⟨_, hst, ?_⟩
    rw [setRow_put hx]
    refine k.write hn ⟨_, ho, rfl⟩ (fun _ _ _ e => by cases e; rfl) (fun m o hm hg => ?_) (fun o hg => ?_)
    ·rcases Heap.ins_get hg with ⟨e, _⟩ | ⟨_, e⟩
     ·exact absurd e hm
     ·exact e
    ·rcases Heap.ins_get hg with ⟨_, rfl⟩ | ⟨e, _⟩
     ·exact ⟨rfl, _, rfl, hl.setAt off hr⟩
     ·exact absurd rfl e
   ·cases hw
  ·rename_i t z l ho
   split at hw
   ·rename_i hle
    cases hw
    have hle := Nat.le_of_ble_eq_true hle
    obtain ⟨l', rest, hx, hl, hlen, hc, hz⟩ := k.rel n b c _ hn ho
    have hll := hl.length
    have hnn := hr.length
    have hst := run_storeCells_at P b off t new' 0 (l' ++ rest).toArray w hx (by simp; omega) h1'
    simp only [Nat.add_zero] at hst
    rw [← setAt_eq (l' ++ rest) off new' (by simp; omega), setAt_append (by omega)] at hst
    refine ⟨_, hst, ?_⟩
    rw [setRow_put hx]
    refine k.write hn ⟨_, ho, rfl⟩ (fun _ _ _ e => by cases e; rfl) (fun m o hm hg => ?_) (fun o hg => ?_)
    ·rcases Heap.ins_get hg with ⟨e, _⟩ | ⟨_, e⟩
     ·exact absurd e hm
     ·exact e
    ·rcases Heap.ins_get hg with ⟨_, rfl⟩ | ⟨e, _⟩
     ·exact ⟨rfl, _, rest, rfl, hl.setAt off hr, by rw [List.length_append, len_setAt, ← List.length_append]; exact hlen, hc, hz⟩
     ·exact absurd rfl e
   ·cases hw
  ·cases hw
 ·cases hw
theorem lays_sound {o : Oper} {ev : Operand → Value} {args : List Value} {v : Value} {ob : HO} {n : Nat} (hn : ρ n = none) (ha : RepL σ ρ args ((opnds o.op).map ev)) (hv : lays P o.op args n = some (v, ob)) :
  ∃ O v', (execOp ev o).run P w = .ok (.value v') (w.alloc O) ∧ (∀ c t fr, O = .cells c t fr → fr = (0, 0)) ∧ ob.live = true ∧ ObjRel σ (ρ.add n w.heap.size 0) (some O) 0 ob ∧ Rep σ (ρ.add n w.heap.size 0) v v' := by
 have hle : ρ.le (ρ.add n w.heap.size 0) := Ren.add_le hn
 have hsame : (ρ.add n w.heap.size 0) n = some (w.heap.size, 0) := Ren.add_same
 have hfz : ∀ {cs : Array Value} {t : TypeId}, ∀ c t' fr, Obj.cells cs t (0, 0) = .cells c t' fr → fr = (0, 0) := fun _ _ _ e => by cases e; rfl
 obtain ⟨dst, op, type, pos, after, guard⟩ := o
 simp only at ha hv
 unfold lays at hv
 split at hv
 ·-- alloc
  split at hv
  ·rename_i z hz
   cases hv
   obtain ⟨i, hi, hzi, hp⟩ := zeroZ_spec hz
   refine ⟨_, _, ?_, hfz, rfl, ⟨z.cells.toList, rfl, zero_rep hp⟩, .ptr hsame⟩
   simp [execOp, Instr.alloc, zeroValue, typeInfo, program, Sem.run, hi, hzi, newVar, newRow, newObj]
  ·cases hv
 ·-- box
  obtain ⟨b, e, hr⟩ := ha.one
  simp only [opnds, List.map_cons, List.map_nil, List.cons.injEq, and_true] at e
  subst e; cases hv
  refine ⟨_, _, ?_, hfz, rfl, ⟨_, rfl, (hr.mono hle).cells⟩, .ptr hsame⟩
  simp [execOp, Instr.box, newVar, newRow, newObj, Sem.run]
 ·-- a slice literal
  rename_i t len ps
  split at hv
  ·rename_i e' ht
   split at hv
   ·rename_i z e cells hz hl
    cases hv
    simp only [opnds] at ha
    obtain ⟨cells', h1, h2⟩ := litB_rep (is := ps.toList.map (·.1)) ht hz ha hl
    refine ⟨_, _, ?_, hfz, rfl, ⟨_, rfl, h2.mono hle⟩, .sl hsame⟩
    have e1 : (ps.map fun (i, x) => (i, ev x)) = (List.zip (ps.toList.map (·.1)) ((ps.toList.map (·.2)).map ev)).toArray := by
     apply Array.ext'
     simp only [Array.toList_map, List.zip_map', List.map_map]
     rfl
    have := run_litSem (P := P) h1 w
    rw [List.map_map] at this
    simp only [execOp]
    rw [buildSlice_eq, e1]
    simp [this, newRow, newObj, Sem.run]
   ·cases hv
  ·cases hv
 ·-- a map
  cases hv
  refine ⟨.map #[] 0, _, rfl, fun _ _ _ e => (by cases e), rfl, ⟨#[], 0, rfl, ⟨rfl, by simp, by simp, by simp, by simp, by simp⟩, Born.nil⟩, .map hsame⟩
 ·-- a channel
  obtain ⟨b, e, hr⟩ := ha.one
  simp only [opnds, List.map_cons, List.map_nil, List.cons.injEq, and_true] at e
  subst e
  rename_i t x kd m
  have he := hr.int
  split at hv
  ·rename_i dir e ht
   split at hv
   ·rename_i i hi
    split at hv
    ·rename_i hm hb
     cases hv
     have hm := Nat.le_of_ble_eq_true hm
     have hb := Nat.le_of_ble_eq_true hb
     have hbound : (i.bytes : Int) * (m : Int) ≤ 281474976710544 := by
      have : i.bytes * m ≤ 100000 * 100000 := Nat.mul_le_mul hb hm
      have h3 : ((i.bytes * m : Nat) : Int) ≤ 281474976710544 := by omega
      rwa [Int.natCast_mul] at h3
     have hrun := Go.Conc.run_makeChan (P := P) (w := w) ht hi kd m (by omega) hbound
     refine ⟨.chan m #[] false 0 0 false, _, ?_, fun _ _ _ e => (by cases e), rfl, ⟨[], 0, 0, rfl, .nil⟩, .chan hsame⟩
     simp only [execOp, he, Int.ofNat_eq_natCast]
     rw [Sem.run_bind, hrun]
     rfl
    ·cases hv
   ·cases hv
  ·cases hv
 ·-- make
  obtain ⟨x, y, e, h1, h2⟩ := ha.two
  simp only [opnds, List.map_cons, List.map_nil, List.cons.injEq, and_true] at e
  obtain ⟨rfl, rfl⟩ := e
  have e1 := h1.int
  have e2 := h2.int
  rename_i t _ _ kl l kc c
  split at hv
  ·rename_i e he
   split at hv
   ·rename_i i z hi hz
    obtain ⟨i', hi', hzi, hp⟩ := zeroZ_spec hz
    rw [hi] at hi'
    cases hi'
    split at hv
    ·rename_i hsz hlc hc hb
     cases hv
     have hsz := Nat.eq_of_beq_eq_true hsz
     have hlc := Nat.le_of_ble_eq_true hlc
     have hc := Nat.le_of_ble_eq_true hc
     have hb := Nat.le_of_ble_eq_true hb
     have hbound : (i.bytes : Int) * (c : Int) ≤ 281474976710656 := by
      have : i.bytes * c ≤ 100000 * 100000 := Nat.mul_le_mul hb hc
      have h3 : ((i.bytes * c : Nat) : Int) ≤ 281474976710656 := by omega
      rwa [Int.natCast_mul] at h3
     have hr := run_make (P := P) w t e i z he hi hzi kl kc (l : Int) (c : Int) (by omega) (by omega) hbound (by omega)
     refine ⟨_, _, ?_, hfz, rfl, ⟨repB z.cells.toList c, rfl, .plain (repB_plain (fun x hx => List.all_eq_true.1 hp x hx) c)⟩, .sl hsame⟩
     simp only [execOp, e1, e2]
     rw [Sem.run_bind]
     simp only [Int.ofNat_eq_natCast]
     rw [hr]
     simp only [Int.toNat_natCast, Result.andThen_ok, Sem.run_pure]
     have hmc : madeCells z.cells (c * i.size) = (repB z.cells.toList c).toArray := by
      rw [← hsz]
      by_cases h0 : 0 < c * z.cells.size
      ·exact rep_eq z c h0
      ·have h00 : c * z.cells.size = 0 := by omega
       have h1 : (madeCells z.cells (c * z.cells.size)).size = 0 := by rw [size_madeCells, h00]
       have h2 : (repB z.cells.toList c).length = 0 := by rw [repB_length]; simpa using h00
       rw [Array.eq_empty_of_size_eq_zero h1, List.eq_nil_of_length_eq_zero h2]
     rw [hmc]
    ·cases hv
   ·cases hv
  ·cases hv
 ·cases hv
end
section
variable {P : Program} {σ : Nat → Nat → Value} {w0 : World} {h : Heap} {ρ : Ren} {w : World}
theorem lenZ_spec {x x' : Value} {m : Nat} (hr : Rep σ ρ x x') (h : lenZ x = some m) : Builtin.lenOf x' = pure m ∧ (∀ a len cap, x = .slice a len cap → m ≤ len) ∧ ∀ s, x = .string s → m = (bytesOf s).length := by
 unfold lenZ at h
 split at h
 ·rename_i a n c
  cases h
  refine ⟨?_, fun _ _ _ e => by cases e; exact Nat.le_refl _, fun _ e => by cases e⟩
  cases hr with
  | plain h => rfl
  | sl h => rfl
  | gr h o => rfl
 ·rename_i s
  cases h
  have := hr.string; subst this
  exact ⟨by simp [Builtin.lenOf, size_bytes], fun _ _ _ e => (by cases e), fun _ e => by cases e; rfl⟩
 ·cases h
  obtain ⟨b, c, off, _, _, rfl⟩ := hr.fs_inv
  exact ⟨rfl, fun _ _ _ e => (by cases e), fun _ e => by cases e⟩
 ·cases h
theorem src_of (k : WI σ w0 h ρ w) {x x' : Value} {z m : Nat} {l : List Value} {tx : TypeId} {d : TypeDesc} (hk : P.underlying tx = some d) (hx : Rep σ ρ x x') (hm : lenZ x = some m) (hl : rowCells h z m x = some l) (hlen : l.length = m * z) (h1 : allOne l = true)
  (hd : match x with | .string _ => z = 1 ∧ d = .string | _ => ∃ e, d = .slice e) : ∃ l', RepL σ ρ l l' ∧ Src P z tx x' m l' w := by
 obtain ⟨hln, hs1, hs2⟩ := lenZ_spec hx hm
 obtain ⟨l', hr, hf1, hf2⟩ := rowCells_sound k hx hl hs1 (fun s e => by subst e; exact ⟨hd.1, Nat.le_of_eq (hs2 s rfl)⟩)
 refine ⟨l', hr, ?_, fun w' => by rw [hln]; rfl, hf1, hf2, by rw [← hr.length]; exact hlen, repL_one hr (allOne_spec h1)⟩
 cases x with
 | string s => exact .inr (by rw [hk, hd.2])
 | _ => obtain ⟨e, he⟩ := hd; exact .inl ⟨e, by rw [hk, he]⟩
theorem run_append_row (t tx ty e : TypeId) (i : TypeInfo) (ht : P.underlying t = some (.slice e)) (hi : P.info? e = some i) (b off sLen sCap : Nat) (x : Value) (n : Nat) (news : List Value) (hs : Src P i.size tx x n news w) (hroom : sLen + n ≤ sCap)
  {w' : World} (hst : (storeCells ⟨b, off + sLen * i.size, none⟩ news).run P w = .ok () w') : (Builtin.append_ #[t, tx] ty #[.slice (some ⟨b, off, none⟩) sLen sCap, x]).run P w = .ok (.slice (some ⟨b, off, none⟩) (sLen + n) sCap) w' := by
 rcases hs.kind with ⟨e', hk⟩ | hk <;> simp [Builtin.append_, run_underlying ht, run_underlying hk, sizeOf, typeInfo, hi, hs.len, hroom, hs.cells, add_lit, hst]
theorem grown_fit {n c by' : Nat} (h1 : n ≤ 100000) (h2 : by' ≤ 100000) (hc : c < n) : Builtin.nextslicecap n c * by' ≤ 281474976710656 :=
 growslice_fits hc (Nat.le_trans (Nat.mul_le_mul h1 h2) (by decide))
theorem rowCells_len {z m len cap : Nat} {a : Option Addr} {l : List Value} (hl : rowCells h z m (.slice a len cap) = some l) : l.length = m * z := by
 unfold rowCells at hl
 split at hl
 ·split at hl
  ·cases hl; simp
  ·cases hl
 ·split at hl
  ·cases hl; simp
  ·split at hl
   ·split at hl
    ·split at hl
     ·rename_i hlen; cases hl; exact Nat.eq_of_beq_eq_true hlen
     ·cases hl
    ·cases hl
   ·cases hl
 ·rename_i e; cases e
 ·rename_i e; cases e
 ·cases hl
theorem appendTo_sound (k : WI σ w0 h ρ w) {nx : Nat} (hf : Fresh ρ nx) {t tx ty e : TypeId} {i : TypeInfo} {z : Value} {m : Nat} {s s' x' : Value} {news news' : List Value} {out : Out} (ht : P.underlying t = some (.slice e)) (hi : P.info? e = some i) (hz : i.zero = some z)
  (hzs : z.cells.size = i.size) (hsz : 0 < i.size) (hby : i.bytes ≤ 100000) (hs : Rep σ ρ s s') (hsrc : Src P i.size tx x' m news' w) (hn : RepL σ ρ news news') (hm : 0 < m) (hle : lenS s + m ≤ 100000) (ho : appendTo h nx e i.size m s news = some out) :
  ∃ v' w' ρ', (Builtin.append_ #[t, tx] ty #[s', x']).run P w = .ok v' w' ∧ ρ.le ρ' ∧ New ρ ρ' nx ∧ nx ≤ out.2.2 ∧ Fresh ρ' out.2.2 ∧ Rep σ ρ' out.1 v' ∧ WI σ w0 out.2.1 ρ' w' := by
 have hnew : ∀ c', ρ.le (ρ.add nx w.heap.size c') := fun c' => Ren.add_le hf.none
 have hnl := hn.length
 have hlen := hsrc.newsLen
 have grow : ∀ (base : Option Addr) (len cap : Nat) (old old' : List Value), s' = .slice base len cap → lenS s = len → cap < len + m → (Builtin.firstCells i.size len (.slice base len cap)).run P w.drew = .ok old'.toArray w.drew → RepL σ ρ old old' → old.length = len * i.size →
   ∀ hh : Heap, (∀ n o, hh.get n = some o → h.get n = some o ∨ o = .dead) → ∃ v' w' ρ', (Builtin.append_ #[t, tx] ty #[s', x']).run P w = .ok v' w' ∧ ρ.le ρ' ∧ New ρ ρ' nx ∧ Fresh ρ' (nx + 1) ∧ Rep σ ρ' (.slice (some ⟨nx, 0, some 0⟩) (len + m) 0) v' ∧
    WI σ w0 (hh.ins nx (some (.grown e i.size (old ++ news)))) ρ' w' := by
  intro base len cap old old' hs' hls hcap hold hro hlo hh hhs
  subst hs'
  rw [hls] at hle
  have hr := run_append_grow_src (P := P) w t tx ty e i z ht hi hz base len cap old' hold x' m news' hsrc hcap (by omega) (grown_fit hle hby hcap)
  refine ⟨_, _, ρ.add nx w.heap.size (grownCap w (len + m) cap e), hr, hnew _, New.add, hf.add, ?_, ?_⟩
  ·have := Rep.gr (σ := σ) (ρ := ρ.add nx w.heap.size (grownCap w (len + m) cap e)) (off := 0) (off' := 0) (k := 0) (len := len + m) (z := 0) Ren.add_same (.inl rfl)
   simpa using this
  ·have hk2 : WI σ w0 hh ρ w.drew := (k.weaken hhs).drew
   refine hk2.alloc (n := nx) (c := grownCap w (len + m) cap e) hf.none (fun n o hne hg => ?_) (fun o hg => ?_)
   ·rcases Heap.ins_get hg with ⟨e, _⟩ | ⟨_, e⟩
    ·exact absurd e hne
    ·exact .inl e
   ·rcases Heap.ins_get hg with ⟨_, rfl⟩ | ⟨e, _⟩
    ·refine ⟨rfl, old' ++ news', (Builtin.zeroCells z.cells (grownCap w (len + m) cap e - (len + m))).toList, ?_, (hro.append hn).mono (hnew _), ?_, ?_, hsz⟩
     ·congr 2
      apply Array.ext'
      simp
     ·have h1 := grownCap_ge w (len + m) cap e
      have h2 := size_zeroCells z.cells (grownCap w (len + m) cap e - (len + m))
      rw [List.length_append, List.length_append, ← hro.length, hlo, hlen, Array.length_toList, h2, hzs, ← Nat.add_mul, ← Nat.add_mul]
      congr 1
      omega
     ·exact grownCap_le_maxLen _ _ _ _ (by simp only [maxLen]; omega)
    ·exact absurd rfl e
 unfold appendTo at ho
 split at ho
 ·-- onto nothing
  cases ho
  have := hs.of_plain rfl; subst this
  obtain ⟨v', w', ρ', h1, h2, h3, h4, h5, h6⟩ := grow none 0 0 [] [] rfl rfl (by omega) (run_firstCells_none w.drew _ _ _ _) .nil (by simp) h (fun n o hg => .inl hg)
  refine ⟨v', w', ρ', h1, h2, h3, Nat.le_succ _, h4, ?_, h6⟩
  simpa using h5
 ·-- a slice whose capacity is known
  rename_i n off len cap
  obtain ⟨b, c, hnb, rfl⟩ := hs.sl_inv
  split at ho
  ·rename_i hroom
   have hroom := Nat.le_of_ble_eq_true hroom
   split at ho
   ·rename_i h' hw
    cases ho
    obtain ⟨w', hst, hwi⟩ := writeCells_sound (P := P) k hnb hn hw
    exact ⟨_, w', ρ, run_append_row (w := w) t tx ty e i ht hi b off len cap x' m news' hsrc hroom hst, Ren.le_refl _, New.refl _ _, Nat.le_refl _, hf, .sl hnb, hwi⟩
   ·cases ho
  ·rename_i hroom hlc
   have hroom : ¬ len + m ≤ cap := fun e => by rw [Nat.ble_eq_true_of_le e] at hroom; cases hroom
   split at ho
   ·rename_i old hold
    cases ho
    obtain ⟨old', hro, _, hfc⟩ := rowCells_sound (P := P) k hs hold (fun _ _ _ e => by cases e; exact Nat.le_refl _) (fun _ e => by cases e)
    have hlo : old.length = len * i.size := rowCells_len hold
    obtain ⟨v', w', ρ', h1, h2, h3, h4, h5, h6⟩ := grow _ len cap old old' rfl rfl (by omega) hfc hro hlo h (fun n o hg => .inl hg)
    exact ⟨v', w', ρ', h1, h2, h3, Nat.le_succ _, h4, h5, h6⟩
   ·cases ho
  ·cases ho
 ·-- a slice whose capacity is not known
  rename_i n off g len zz
  obtain ⟨b, c, off', hnb, hoff, rfl⟩ := hs.gr_inv
  split at ho
  ·rename_i hog
   have hog := Nat.eq_of_beq_eq_true hog
   have hke := knownE_le (z := i.size) k hnb
   split at ho
   ·rename_i hroom
    have hroom := Nat.le_of_ble_eq_true hroom
    have : off' = off := by
     rcases hoff with h | ⟨h, _⟩
     ·exact h
     ·omega
    subst this
    split at ho
    ·rename_i h' hw
     cases ho
     obtain ⟨w', hst, hwi⟩ := writeCells_sound (P := P) k hnb hn hw
     exact ⟨_, w', ρ, run_append_row (w := w) t tx ty e i ht hi b off' len (c - g) x' m news' hsrc (by omega) hst, Ren.le_refl _, New.refl _ _, Nat.le_refl _, hf, .gr hnb (.inl rfl), hwi⟩
    ·cases ho
   ·split at ho
    ·rename_i t' z' l ho' _ _
     split at ho
     ·rename_i ht' hz' hlen'
      cases ho
      have ht' := Nat.eq_of_beq_eq_true ht'
      have hz' := Nat.eq_of_beq_eq_true hz'
      have hlen' := Nat.eq_of_beq_eq_true hlen'
      subst ht'
      subst hz'
      have hoff0 : off = 0 := by rw [hog]; simp
      subst hoff0
      have hkill : ∀ n0 o, (h.ins n (some .dead)).get n0 = some o → h.get n0 = some o ∨ o = .dead := fun n0 o hg => by
       rcases Heap.ins_get hg with ⟨_, e⟩ | ⟨_, e⟩
       ·exact .inr e
       ·exact .inl e
      obtain ⟨l', rest, hx, hl, hlc, hcm, _⟩ := k.rel n b c _ hnb ho'
      have hll := hl.length
      have hllen : len * i.size ≤ l.length := by rw [List.length_take] at hlen'; omega
      by_cases hroom : len + m ≤ c - 0
      ·-- there is room: the row goes on under the new name
       have : off' = 0 := by
        rcases hoff with h | ⟨h, _⟩
        ·exact h
        ·omega
       subst this
       have hcells : len * i.size + news'.length ≤ (l' ++ rest).length := by
        rw [hlc, hlen, ← Nat.add_mul]
        exact Nat.mul_le_mul_right _ (by omega)
       have hst := run_storeCells_at P b (0 + len * i.size) t' news' 0 (l' ++ rest).toArray w hx (by simp at hcells ⊢; omega) hsrc.one
       simp only [Nat.add_zero] at hst
       refine ⟨_, _, ρ.add nx b c, run_append_row (w := w) t tx ty t' i ht hi b 0 len (c - 0) x' m news' hsrc hroom hst, Ren.add_le hf.none, New.add, Nat.le_succ _, hf.add, ?_, ?_⟩
       ·exact .gr Ren.add_same (.inl rfl)
       ·rw [setRow_put hx]
        refine k.rename hnb ⟨_, ho', rfl⟩ hf.none (fun _ _ _ e => by cases e; rfl) (fun m' o hm' hg => ?_) (fun o hg => ?_)
        ·rcases Heap.ins_get hg with ⟨e, _⟩ | ⟨_, e⟩
         ·exact absurd e hm'
         ·rcases Heap.ins_get e with ⟨_, e2⟩ | ⟨e1, e2⟩
          ·exact .inr e2
          ·exact .inl ⟨e1, e2⟩
        ·rcases Heap.ins_get hg with ⟨_, rfl⟩ | ⟨e, _⟩
         ·refine ⟨rfl, l'.take (len * i.size) ++ news', (l' ++ rest).drop (len * i.size + news'.length), ?_, ((hl.take _).mono (Ren.add_le hf.none)).append (hn.mono (Ren.add_le hf.none)), ?_, hcm, hsz⟩
          ·congr 3
           simp only [Nat.zero_add]
           rw [List.take_append_of_le_length (by omega)]
          ·rw [← hlc]
           simp only [List.length_append, List.length_take, List.length_drop] at hcells ⊢
           omega
         ·exact absurd rfl e
      ·-- there is none
       have hold : (Builtin.firstCells i.size len (.slice (some ⟨b, off', none⟩) len (c - 0))).run P w.drew = .ok (l'.take (len * i.size)).toArray w.drew := by
        by_cases hl0 : len = 0
        ·subst hl0
         simp
         exact run_firstCells_some w.drew _ _ _ _ _ [] (by simp) (by simp)
        ·have : off' = 0 := by
          rcases hoff with h | ⟨_, h⟩
          ·exact h
          ·omega
         subst this
         refine run_firstCells_some w.drew _ _ _ _ _ _ (by rw [List.length_take]; omega) fun j v hj => ?_
         have hj2 : l'[j]? = some v := by
          rw [List.getElem?_take] at hj
          split at hj
          ·exact hj
          ·cases hj
         have hlt := (List.getElem?_eq_some_iff.1 hj2).1
         have hxd : w.drew.heap[b]? = some (.cells (l' ++ rest).toArray t' (0, 0)) := hx
         simp [World.cell?, add_lit, hxd, List.getElem?_append_left hlt, hj2]
       obtain ⟨v', w', ρ', h1, h2, h3, h4, h5, h6⟩ := grow _ len (c - 0) (l.take (len * i.size)) (l'.take (len * i.size)) rfl rfl (by omega) hold (hl.take _) hlen' _ hkill
       exact ⟨v', w', ρ', h1, h2, h3, Nat.le_succ _, h4, h5, h6⟩
     ·cases ho
    ·cases ho
  ·cases ho
 ·cases ho
theorem fits_spec (k : WI σ w0 h ρ w) {z : Nat} {s s' : Value} (hs : Rep σ ρ s s') (hf : fits h z s = true) : ∃ base cap, s' = .slice base (lenS s) cap ∧ lenS s ≤ cap := by
 unfold fits at hf
 split at hf
 ·have := hs.of_plain rfl; subst this; exact ⟨_, _, rfl, Nat.le_refl _⟩
 ·obtain ⟨b, c, _, rfl⟩ := hs.sl_inv; exact ⟨_, _, rfl, Nat.le_of_ble_eq_true hf⟩
 ·rename_i n off g len zz
  obtain ⟨b, c, off', hn, _, rfl⟩ := hs.gr_inv
  have := knownE_le (z := z) k hn
  have := Nat.le_of_ble_eq_true hf
  exact ⟨_, _, rfl, by simp only [lenS]; omega⟩
 ·cases hf
theorem appendZ_sound (k : WI σ w0 h ρ w) {nx : Nat} (hf : Fresh ρ nx) {t tx ty : TypeId} {s s' x x' : Value} {out : Out} (hs : Rep σ ρ s s') (hx : Rep σ ρ x x') (ho : appendZ P h nx t tx s x = some out) :
  ∃ v' w' ρ', (Builtin.append_ #[t, tx] ty #[s', x']).run P w = .ok v' w' ∧ ρ.le ρ' ∧ New ρ ρ' nx ∧ nx ≤ out.2.2 ∧ Fresh ρ' out.2.2 ∧ Rep σ ρ' out.1 v' ∧ WI σ w0 out.2.1 ρ' w' := by
 unfold appendZ at ho
 split at ho
 ·rename_i e ht
  split at ho
  ·rename_i i hi
   split at ho
   ·rename_i zv d hz hd
    obtain ⟨i', hi', hzi, hp⟩ := zeroZ_spec hz
    rw [hi] at hi'
    cases hi'
    split at ho
    ·rename_i m hzs hsz hm hkd
     have hzs := Nat.eq_of_beq_eq_true hzs
     have hsz : 0 < i.size := Nat.le_of_ble_eq_true hsz
     split at ho
     ·rename_i news hfit hnews
      split at ho
      ·rename_i h1 h2 h3 h4
       have h2 := Nat.eq_of_beq_eq_true h2
       have h3 := Nat.le_of_ble_eq_true h3
       have h4 := Nat.le_of_ble_eq_true h4
       obtain ⟨news', hn, hsrc⟩ := src_of (P := P) k hd hx hm hnews h2 h1 (by
        unfold appKind at hkd
        split at hkd
        ·exact ⟨Nat.eq_of_beq_eq_true hkd, rfl⟩
        ·exact ⟨_, rfl⟩
        ·exact ⟨_, rfl⟩
        ·cases hkd)
       split at ho
       ·cases ho
        obtain ⟨base, cap, rfl, hle⟩ := fits_spec k hs hfit
        have hn0 : news' = [] := List.eq_nil_of_length_eq_zero (by have := hsrc.newsLen; simpa using this)
        subst hn0
        exact ⟨_, w, ρ, run_append_nothing (P := P) w t tx ty e i ht hi base _ cap hle x' hsrc, Ren.le_refl _, New.refl _ _, Nat.le_refl _, hf, hs, k⟩
       ·exact appendTo_sound k hf ht hi hzi hzs hsz h4 hs hsrc hn (Nat.succ_pos _) h3 ho
      ·cases ho
     ·cases ho
    ·cases ho
   ·cases ho
  ·cases ho
 ·cases ho
theorem copyZ_sound (k : WI σ w0 h ρ w) {nx : Nat} {t tx ty : TypeId} {d d' x x' : Value} {out : Out} (hd : Rep σ ρ d d') (hx : Rep σ ρ x x') (ho : copyZ P h nx t d x = some out) :
  ∃ v' w', (Builtin.copy_ #[t, tx] ty #[d', x']).run P w = .ok v' w' ∧ out.2.2 = nx ∧ Rep σ ρ out.1 v' ∧ WI σ w0 out.2.1 ρ w' := by
 unfold copyZ at ho
 split at ho
 ·rename_i e ht
  split at ho
  ·rename_i z sb m sc base dlen dcap hz
   obtain ⟨base', cap', rfl, hb, _⟩ := rep_slice hd
   obtain ⟨sb', sc', hx', _, _⟩ := rep_slice hx
   split at ho
   ·rename_i h0
    cases ho
    refine ⟨goInt 0, w, ?_, rfl, .plain rfl, k⟩
    have hf0 : (Builtin.firstCells z 0 x').run P w = .ok #[] w := by
     subst hx'
     cases sb' with
     | none => exact run_firstCells_none w _ _ _ _
     | some a => exact run_firstCells_some w _ _ _ _ _ [] (by simp) (by simp)
    subst hx'
    cases base' <;> simp [Builtin.copy_, run_underlying ht, run_sizeOf hz, Builtin.lenOf, h0, hf0, storeCells]
   ·rename_i n' hn'
    split at ho
    ·rename_i news n off s hnews _
     split at ho
     ·rename_i h' hlen hw
      cases ho
      obtain ⟨b, c, off', hnb, hoff, rfl⟩ := hb n off s rfl
      have hmin : min m dlen = n' + 1 := hn'
      have hpos : 0 < dlen := by omega
      have := hoff hpos
      subst this
      obtain ⟨news', hn, hf, _⟩ := rowCells_sound (P := P) k hx hnews (fun a len cap e => (by cases e; omega)) (fun s e => by cases e)
      obtain ⟨w', hst, hwi⟩ := writeCells_sound (P := P) k hnb hn hw
      refine ⟨_, w', ?_, rfl, .plain rfl, hwi⟩
      subst hx'
      simp [Builtin.copy_, run_underlying ht, run_sizeOf hz, Builtin.lenOf, hn', hf, hst]
     ·cases ho
    ·cases ho
  ·cases ho
 ·cases ho
theorem clearZ_sound (k : WI σ w0 h ρ w) {nx : Nat} {t ty : TypeId} {s s' : Value} {out : Out} (hs : Rep σ ρ s s') (ho : clearZ P h nx t s = some out) :
  ∃ v' w', (Builtin.clear_ #[t] ty #[s']).run P w = .ok v' w' ∧ out.2.2 = nx ∧ Rep σ ρ out.1 v' ∧ WI σ w0 out.2.1 ρ w' := by
 unfold clearZ at ho
 split at ho
 ·rename_i e ht
  split at ho
  ·rename_i zv hz
   obtain ⟨i, hi, hzi, hp⟩ := zeroZ_spec hz
   split at ho
   ·rename_i cap
    cases ho
    have := hs.of_plain rfl; subst this
    exact ⟨.tuple #[], w, by simp [Builtin.clear_, run_underlying ht], rfl, .tup_mk .nil, k⟩
   ·rename_i n off g len cap
    obtain ⟨base', cap', rfl, hb, _⟩ := rep_slice hs
    obtain ⟨b, c, off', hnb, hoff, rfl⟩ := hb n off g rfl
    split at ho
    ·cases ho
     exact ⟨.tuple #[], w, by simp [Builtin.clear_, run_underlying ht], rfl, .tup_mk .nil, k⟩
    ·rename_i hl0
     split at ho
     ·rename_i h' h0 hw
      cases ho
      have h0 : 0 < zv.cells.size := Nat.le_of_ble_eq_true h0
      have hlp : 0 < len := by cases len with | zero => exact absurd rfl hl0 | succ _ => omega
      have := hoff hlp
      subst this
      have hrp : RepL σ ρ (repB zv.cells.toList len) (repB zv.cells.toList len) := .plain (repB_plain (fun x hx => List.all_eq_true.1 hp x hx) len)
      obtain ⟨w', hst, hwi⟩ := writeCells_sound (P := P) k hnb hrp hw
      refine ⟨.tuple #[], w', ?_, rfl, .tup_mk .nil, hwi⟩
      have hzc : Builtin.zeroCells zv.cells len = (repB zv.cells.toList len).toArray := rep_eq zv len (Nat.mul_pos hlp h0)
      have hzero : (zeroValue e).run P w = .ok zv w := by simp [zeroValue, typeInfo, hi, hzi]
      obtain ⟨q, rfl⟩ : ∃ q, len = q + 1 := ⟨len - 1, by omega⟩
      simp [Builtin.clear_, run_underlying ht, hzero, hzc, hst]
     ·cases ho
   ·cases ho
  ·cases ho
 ·cases ho
end
section
variable {P : Program} {σ : Nat → Nat → Value} [SigOk σ] {w0 : World} {h : Heap} {ρ : Ren} {w : World}
theorem sameBits_self {kt : TypeId} {k : Value} (ho : keyOk P kt k = true) : Instr.sameBits 10000 k k = true := by
 unfold keyOk at ho
 split at ho
 ·simp [Instr.sameBits]
 ·simp [Instr.sameBits]; exact beq_bytes.2 rfl
 ·cases ho
theorem setZ_spec {k v : Value} (hk : ∀ k' b, keyEq k k' = some b → (b = true ↔ k = k')) : ∀ {es : List (Value × Value)} {u : Value}, findZ k es = some (some u) → (es.map (·.1)).Nodup →
  (setZ k v es).map (·.1) = es.map (·.1) ∧ (k, v) ∈ setZ k v es ∧ (∀ x ∈ setZ k v es, x = (k, v) ∨ (x ∈ es ∧ x.1 ≠ k)) ∧ ∀ x ∈ es, x.1 ≠ k → x ∈ setZ k v es
 | [], u, h, _ => by cases h
 | (k', v') :: l, u, h, hnd => by
  simp only [List.map_cons, List.nodup_cons] at hnd
  unfold findZ at h
  split at h
  ·rename_i r h1 h2
   have hkk := (hk _ _ h1).1 rfl
   subst hkk
   have hs : setZ k v ((k, v') :: l) = (k, v) :: l := by simp [setZ, h1]
   rw [hs]
   refine ⟨rfl, by simp, fun x hx => ?_, fun x hx hne => ?_⟩
   ·rcases List.mem_cons.1 hx with h | h
    ·exact .inl h
    ·exact .inr ⟨by simp [h], fun e => hnd.1 (List.mem_map.2 ⟨x, h, e⟩)⟩
   ·rcases List.mem_cons.1 hx with h | h
    ·subst h; exact absurd rfl hne
    ·simp [h]
  ·rename_i r h1 h2
   cases h
   have hne : k ≠ k' := fun e => by have := (hk _ _ h1).2 e; cases this
   obtain ⟨i1, i2, i3, i4⟩ := setZ_spec (v := v) hk h2 hnd.2
   have hs : setZ k v ((k', v') :: l) = (k', v') :: setZ k v l := by simp [setZ, h1]
   rw [hs]
   refine ⟨by simp [i1], by simp [i2], fun x hx => ?_, fun x hx hx2 => ?_⟩
   ·rcases List.mem_cons.1 hx with h | h
    ·subst h; exact .inr ⟨by simp, fun e => hne e.symm⟩
    ·rcases i3 x h with h | ⟨h, h'⟩
     ·exact .inl h
     ·exact .inr ⟨by simp [h], h'⟩
   ·rcases List.mem_cons.1 hx with h | h
    ·simp [h]
    ·simp [i4 x h hx2]
  ·cases h
theorem delZ_spec {k : Value} (hk : ∀ k' b, keyEq k k' = some b → (b = true ↔ k = k')) : ∀ {es : List (Value × Value)} {u : Value}, findZ k es = some (some u) → (es.map (·.1)).Nodup →
  (delZ k es).length + 1 = es.length ∧ ((delZ k es).map (·.1)).Nodup ∧ (∀ x ∈ delZ k es, x ∈ es ∧ x.1 ≠ k) ∧ ∀ x ∈ es, x.1 ≠ k → x ∈ delZ k es
 | [], u, h, _ => by cases h
 | (k', v') :: l, u, h, hnd => by
  simp only [List.map_cons, List.nodup_cons] at hnd
  unfold findZ at h
  split at h
  ·rename_i r h1 h2
   have hkk := (hk _ _ h1).1 rfl
   subst hkk
   have hs : delZ k ((k, v') :: l) = l := by simp [delZ, h1]
   rw [hs]
   refine ⟨rfl, hnd.2, fun x hx => ⟨by simp [hx], fun e => hnd.1 (List.mem_map.2 ⟨x, hx, e⟩)⟩, fun x hx hne => ?_⟩
   rcases List.mem_cons.1 hx with h | h
   ·subst h; exact absurd rfl hne
   ·exact h
  ·rename_i r h1 h2
   cases h
   have hne : k ≠ k' := fun e => by have := (hk _ _ h1).2 e; cases this
   obtain ⟨i1, i2, i3, i4⟩ := delZ_spec hk h2 hnd.2
   have hs : delZ k ((k', v') :: l) = (k', v') :: delZ k l := by simp [delZ, h1]
   rw [hs]
   refine ⟨by simp [i1], ?_, fun x hx => ?_, fun x hx hx2 => ?_⟩
   ·simp only [List.map_cons, List.nodup_cons]
    exact ⟨fun hm => by obtain ⟨y, hy, e⟩ := List.mem_map.1 hm; exact hnd.1 (List.mem_map.2 ⟨y, (i3 y hy).1, e⟩), i2⟩
   ·rcases List.mem_cons.1 hx with h | h
    ·subst h; exact ⟨by simp, fun e => hne e.symm⟩
    ·exact ⟨by simp [(i3 x h).1], (i3 x h).2⟩
   ·rcases List.mem_cons.1 hx with h | h
    ·simp [h]
    ·simp [i4 x h hx2]
  ·cases h
theorem keyEq_of {kt : TypeId} {k : Value} (ho : keyOk P kt k = true) : ∀ k' b, keyEq k k' = some b → (b = true ↔ k = k') := fun k' b hb => by
 have hd : ∃ d, P.underlying kt = some d := by
  unfold keyOk at ho
  split at ho
  ·exact ⟨_, by assumption⟩
  ·exact ⟨_, by assumption⟩
  ·cases ho
 obtain ⟨d, hd⟩ := hd
 exact (keyEq_now hd ho hb).2
theorem MapRel.set {es : List (Value × Value)} {ms : List MapEntry} (hm : MapRel σ ρ es ms) {k v v' u : Value} {j : Nat} {e : MapEntry} (hk : ∀ k' b, keyEq k k' = some b → (b = true ↔ k = k')) (hf : findZ k es = some (some u)) (hj : ms[j]? = some e) (he : e.key = k) (hv : Rep σ ρ v v') (hpk : Z.plain k = true) :
  MapRel σ ρ (setZ k v es) (ms.modify j fun e => { e with key := k, val := v' }) := by
 obtain ⟨s1, s2, s3, s4⟩ := setZ_spec (v := v) hk hf hm.nodup
 have hlt := (List.getElem?_eq_some_iff.1 hj).1
 have hkeys : (ms.modify j fun e => { e with key := k, val := v' }).map (·.key) = ms.map (·.key) := by
  apply List.ext_getElem?
  intro i
  simp only [List.getElem?_map, List.getElem?_modify]
  by_cases hij : j = i
  ·subst hij; simp [hj, he]
  ·simp [hij]
 have hmem : ∀ x, x ∈ (ms.modify j fun e => { e with key := k, val := v' }) ↔ (x = { e with key := k, val := v' } ∨ (x ∈ ms ∧ x.key ≠ k)) := by
  intro x
  constructor
  ·intro hx
   obtain ⟨i, hi⟩ := List.mem_iff_getElem?.1 hx
   rw [List.getElem?_modify] at hi
   by_cases hij : j = i
   ·subst hij; simp [hj] at hi; exact .inl hi.symm
   ·simp [hij] at hi
    refine .inr ⟨List.mem_of_getElem? hi, fun e2 => hij ?_⟩
    have h1 : (ms.map (·.key))[i]? = some k := by simp [hi, e2]
    have h2 : (ms.map (·.key))[j]? = some k := by simp [hj, he]
    exact (List.getElem?_inj (List.getElem?_eq_some_iff.1 h2).1 hm.nodupM).1 (by rw [h1, h2])
  ·rintro (rfl | ⟨hx, hne⟩)
   ·exact List.mem_iff_getElem?.2 ⟨j, by rw [List.getElem?_modify]; simp [hj]⟩
   ·obtain ⟨i, hi⟩ := List.mem_iff_getElem?.1 hx
    refine List.mem_iff_getElem?.2 ⟨i, ?_⟩
    rw [List.getElem?_modify]
    by_cases hij : j = i
    ·subst hij; rw [hj] at hi; cases hi; exact absurd he hne
    ·simp [hij, hi]
 refine ⟨?_, fun x hx => ?_, fun x hx => ?_, fun x hx => ?_, by rw [s1]; exact hm.nodup, by rw [hkeys]; exact hm.nodupM⟩
 ·have := congrArg List.length s1
  simp only [List.length_map] at this
  rw [List.length_modify, this, hm.len]
 ·rcases s3 x hx with rfl | ⟨h1, h2⟩
  ·exact ⟨_, (hmem _).2 (.inl rfl), rfl, hv⟩
  ·obtain ⟨e', he', hk', hr'⟩ := hm.fwd x h1
   exact ⟨e', (hmem _).2 (.inr ⟨he', by rw [hk']; exact h2⟩), hk', hr'⟩
 ·rcases (hmem x).1 hx with rfl | ⟨h1, h2⟩
  ·exact ⟨v, s2⟩
  ·obtain ⟨u', hu'⟩ := hm.back x h1
   exact ⟨u', s4 _ hu' h2⟩
 ·rcases s3 x hx with rfl | ⟨h1, _⟩
  ·exact hpk
  ·exact hm.plainK x h1
theorem MapRel.push {es : List (Value × Value)} {ms : List MapEntry} (hm : MapRel σ ρ es ms) {k v v' : Value} {n : Nat} (hno : ∀ e ∈ ms, e.key ≠ k) (hno' : ∀ x ∈ es, x.1 ≠ k) (hv : Rep σ ρ v v') (hpk : Z.plain k = true) :
  MapRel σ ρ ((k, v) :: es) (ms ++ [{ key := k, val := v', born := n }]) := by
 refine ⟨by simp [hm.len], fun x hx => ?_, fun e he => ?_, fun x hx => ?_, ?_, ?_⟩
 ·rcases List.mem_cons.1 hx with rfl | h
  ·exact ⟨{ key := k, val := v', born := n }, by simp, rfl, hv⟩
  ·obtain ⟨e, he, h1, h2⟩ := hm.fwd x h; exact ⟨e, by simp [he], h1, h2⟩
 ·rcases List.mem_append.1 he with h | h
  ·obtain ⟨u, hu⟩ := hm.back e h; exact ⟨u, by simp [hu]⟩
  ·simp only [List.mem_singleton] at h; subst h; exact ⟨v, by simp⟩
 ·rcases List.mem_cons.1 hx with rfl | h
  ·exact hpk
  ·exact hm.plainK x h
 ·simp only [List.map_cons, List.nodup_cons]
  exact ⟨fun h => by obtain ⟨x, hx, e⟩ := List.mem_map.1 h; exact hno' x hx e, hm.nodup⟩
 ·rw [List.map_append, List.nodup_append]
  refine ⟨hm.nodupM, by simp, fun a ha b hb e => ?_⟩
  simp only [List.map_cons, List.map_nil, List.mem_singleton] at hb
  subst hb
  subst e
  obtain ⟨x, hx, e⟩ := List.mem_map.1 ha
  exact hno x hx e
theorem MapRel.del {es : List (Value × Value)} {ms : List MapEntry} (hm : MapRel σ ρ es ms) {k u : Value} {j : Nat} {e : MapEntry} (hk : ∀ k' b, keyEq k k' = some b → (b = true ↔ k = k')) (hf : findZ k es = some (some u)) (hj : ms[j]? = some e) (he : e.key = k) :
  MapRel σ ρ (delZ k es) (ms.eraseIdx j) := by
 obtain ⟨s1, s2, s3, s4⟩ := delZ_spec hk hf hm.nodup
 have hlt := (List.getElem?_eq_some_iff.1 hj).1
 have hsub : (ms.eraseIdx j).Sublist ms := List.eraseIdx_sublist ms j
 have hmem : ∀ x ∈ ms, x.key ≠ k → x ∈ ms.eraseIdx j := by
  intro x hx hne
  obtain ⟨i, hi⟩ := List.mem_iff_getElem?.1 hx
  have hij : i ≠ j := fun e2 => by subst e2; rw [hj] at hi; cases hi; exact hne he
  rw [List.mem_iff_getElem?]
  by_cases hlt2 : i < j
  ·exact ⟨i, by rw [List.getElem?_eraseIdx_of_lt hlt2]; exact hi⟩
  ·refine ⟨i - 1, ?_⟩
   rw [List.getElem?_eraseIdx_of_ge (by omega)]
   rw [show i - 1 + 1 = i by omega]; exact hi
 have hnot : ∀ x ∈ ms.eraseIdx j, x.key ≠ k := by
  intro x hx e2
  obtain ⟨i, hi⟩ := List.mem_iff_getElem?.1 hx
  have h2 : (ms.map (·.key))[j]? = some k := by simp [hj, he]
  by_cases hlt2 : i < j
  ·rw [List.getElem?_eraseIdx_of_lt hlt2] at hi
   have h1 : (ms.map (·.key))[i]? = some k := by simp [hi, e2]
   have := (List.getElem?_inj (List.getElem?_eq_some_iff.1 h2).1 hm.nodupM).1 (by rw [h1, h2])
   omega
  ·rw [List.getElem?_eraseIdx_of_ge (by omega)] at hi
   have h1 : (ms.map (·.key))[i + 1]? = some k := by simp [hi, e2]
   have := (List.getElem?_inj (List.getElem?_eq_some_iff.1 h2).1 hm.nodupM).1 (by rw [h1, h2])
   omega
 refine ⟨?_, fun x hx => ?_, fun x hx => ?_, fun x hx => hm.plainK x (s3 x hx).1, s2, ?_⟩
 ·rw [List.length_eraseIdx_of_lt hlt, ← hm.len]; omega
 ·obtain ⟨h1, h2⟩ := s3 x hx
  obtain ⟨e', he', hk', hr'⟩ := hm.fwd x h1
  exact ⟨e', hmem e' he' (by rw [hk']; exact h2), hk', hr'⟩
 ·obtain ⟨u', hu'⟩ := hm.back x (hsub.mem hx)
  exact ⟨u', s4 _ hu' (hnot x hx)⟩
 ·exact hm.nodupM.sublist (hsub.map _)
theorem WI.writeMap (k : WI σ w0 h ρ w) {n b c clock clock' : Nat} {es es' : List (Value × Value)} {ms ms' : Array MapEntry} (hn : ρ n = some (b, c)) (ho : h.get n = some (.map es)) (hx : w.heap[b]? = some (.map ms clock)) (hm : MapRel σ ρ es' ms'.toList) (hb : Born ms'.toList clock') :
  (setObj b (.map ms' clock')).run P w = .ok () (put w b (.map ms' clock')) ∧ WI σ w0 (h.ins n (some (.map es'))) ρ (put w b (.map ms' clock')) := by
 refine ⟨by simp [setObj, Sem.run, hx, put], ?_⟩
 refine k.write hn ⟨_, ho, rfl⟩ (fun _ _ _ e => by cases e) (fun m o hm hg => ?_) (fun o hg => ?_)
 ·rcases Heap.ins_get hg with ⟨e, _⟩ | ⟨_, e⟩
  ·exact absurd e hm
  ·exact e
 ·rcases Heap.ins_get hg with ⟨_, rfl⟩ | ⟨e, _⟩
  ·exact ⟨rfl, ms', clock', rfl, hm, hb⟩
  ·exact absurd rfl e
theorem WI.writeS (k : WI σ w0 h ρ w) {n b c clock clock' : Nat} {o0 : HO} {es' : List (Value × Value)} {ms ms' : Array MapEntry} (hn : ρ n = some (b, c)) (ho : h.get n = some o0) (h0 : (∃ es, o0 = .map es) ∨ ∃ es, o0 = .mapS es) (hx : w.heap[b]? = some (.map ms clock)) (hm : EntL σ ρ es' ms'.toList) :
  (setObj b (.map ms' clock')).run P w = .ok () (put w b (.map ms' clock')) ∧ WI σ w0 (h.ins n (some (.mapS es'))) ρ (put w b (.map ms' clock')) := by
 refine ⟨by simp [setObj, Sem.run, hx, put], ?_⟩
 refine k.write hn ⟨_, ho, by rcases h0 with ⟨es, rfl⟩ | ⟨es, rfl⟩ <;> rfl⟩ (fun _ _ _ e => by cases e) (fun m o hm hg => ?_) (fun o hg => ?_)
 ·rcases Heap.ins_get hg with ⟨e, _⟩ | ⟨_, e⟩
  ·exact absurd e hm
  ·exact e
 ·rcases Heap.ins_get hg with ⟨_, rfl⟩ | ⟨e, _⟩
  ·exact ⟨rfl, ms', clock', rfl, hm⟩
  ·exact absurd rfl e
theorem EntL.push {es : List (Value × Value)} {ms : List MapEntry} {k v : Value} {e : MapEntry} : EntL σ ρ es ms → Rep σ ρ k e.key → Rep σ ρ v e.val → EntL σ ρ (es ++ [(k, v)]) (ms ++ [e])
 | .nil, hk, hv => .cons hk hv .nil
 | .cons a b r, hk, hv => .cons a b (EntL.push r hk hv)
theorem EntL.set {k v y v' : Value} (hk : Rep σ ρ k y) (hv : Rep σ ρ v v') : ∀ {es : List (Value × Value)} {ms : List MapEntry} (j : Nat), EntL σ ρ es ms → EntL σ ρ (setS v k j es) (ms.modify j fun e => { e with key := y, val := v' })
 | [], _, j, .nil => by cases j <;> exact .nil
 | x :: es, _, 0, .cons a b r => .cons hk hv r
 | x :: es, _, j + 1, .cons a b r => .cons a b (EntL.set hk hv j r)
theorem sameBits_cells {n : Nat} : ∀ {l : List Value}, (∀ v ∈ l, Instr.sameBits n v v = true) → ((l.zip l).all fun (x, y) => Instr.sameBits n x y) = true
 | [], _ => rfl
 | x :: l, h => by
  simp only [List.zip_cons_cons, List.all_cons, Bool.and_eq_true]
  exact ⟨h x (by simp), sameBits_cells fun v hv => h v (by simp [hv])⟩
theorem skey_bits {kt : TypeId} {k y : Value} (ho : skeyOk P kt k = true) (hk : Rep σ ρ k y) : Instr.sameBits 10000 y y = true := by
 unfold skeyOk at ho
 split at ho
 ·rename_i fs c hu
  rw [Bool.and_eq_true] at ho
  obtain ⟨xs, rfl, hx⟩ := hk.agg_inv
  have hcell : ∀ {i : Nat} {fs : List Field} {m l : List Value}, structAt P c.size i fs m = true → RepL σ ρ m l → ∀ v ∈ l, Instr.sameBits 9999 v v = true := fun {i fs m} => by
   induction m generalizing i fs with
   | nil => intro l _ hr v hv; cases hr; cases hv
   | cons x m ih =>
    intro l hs hr v hv
    cases fs with
    | nil => simp [structAt] at hs
    | cons f fs =>
     obtain ⟨d, _, hd, _, _, _, hrest⟩ := structAt_cons hs
     cases hr with
     | cons hxy hr =>
     rcases List.mem_cons.1 hv with rfl | hv
     ·rcases hd with ⟨q, _, q', m', rfl⟩ | ⟨_, ⟨s, rfl⟩ | ⟨⟨cc⟩, a, rfl⟩⟩
      ·rw [hxy.of_plain rfl]; simp [Instr.sameBits]
      ·rw [hxy.of_plain rfl]
       exact beq_bytes.2 rfl
      ·obtain ⟨bs, e, _⟩ := hxy.str_inv
       rw [e]
       exact beq_bytes.2 rfl
     ·exact ih hrest hr v hv
  show (xs.size == xs.size && (xs.toList.zip xs.toList).all fun (x, y) => Instr.sameBits 9999 x y) = true
  rw [sameBits_cells (hcell ho.1 hx)]
  simp
 ·rw [hk.of_plain rfl]
  exact beq_bytes.2 rfl
 ·rename_i c a hu
  obtain ⟨c⟩ := c
  obtain ⟨bs, e, _⟩ := hk.str_inv
  rw [e]
  exact beq_bytes.2 rfl
 ·cases ho
theorem ukeyOk_key {kt et : TypeId} {k : Value} (h : ukeyOk P kt et k = true) : keyOk P kt k = true := by
 unfold ukeyOk at h
 split at h
 ·cases h
 ·exact h
theorem updateZ_sound (k : WI σ w0 h ρ w) {nx : Nat} {t : TypeId} {m i v m' i' v' : Value} {out : Out} (rm : Rep σ ρ m m') (ri : Rep σ ρ i i') (rv : Rep σ ρ v v') (ho : updateZ P h nx t m i v = some out) :
  ∃ w', (Instr.mapUpdate t m' i' v').run P w = .ok () w' ∧ out.2.2 = nx ∧ out.1 = undef ∧ WI σ w0 out.2.1 ρ w' := by
 unfold updateZ at ho
 split at ho
 ·rename_i kt et n ht
  obtain ⟨b, c, hn, rfl⟩ := rm.map_inv
  split at ho
  ·rename_i es hg hko
   have hko := ukeyOk_key hko
   obtain ⟨ms, clock, hx, hm, hborn⟩ := k.rel n b c _ hn hg
   have := ri.of_plain (keyOk_plain hko); subst this
   have hget : (getObj b).run P w = .ok (.map ms clock) w := by simp [getObj, Sem.run, hx]
   have hc := fun e => run_checkKey (P := P) (w := w) (e := e) hko
   split at ho
   ·rename_i u hf
    cases ho
    obtain ⟨j, e, hrun, hj, hek, _, _⟩ := run_find (P := P) (w := w) hm hko hf
    have hstay : (Instr.keyThatStays (((ms[j]?).map (·.key)).getD i') i').run P w = .ok i' w := by
     have hj' : ms[j]? = some e := by simpa using hj
     simp only [hj', Option.map_some, Option.getD_some, hek]
     simp [Instr.keyThatStays, sameBits_self hko]
    have hm2 : MapRel σ ρ (setZ i' v es) (ms.modify j fun e => { e with key := i', val := v' }).toList := by
     rw [Array.toList_modify]
     exact hm.set (keyEq_of hko) hf hj hek rv (keyOk_plain hko)
    obtain ⟨h1, h2⟩ := k.writeMap (P := P) hn hg hx hm2 (clock' := clock) (by rw [Array.toList_modify]; exact hborn.modify j i' v')
    exact ⟨_, by simp [Instr.mapUpdate, run_underlying ht, hget, hc, hrun, hstay, h1], rfl, rfl, h2⟩
   ·rename_i hf
    cases ho
    obtain ⟨hrun, hno, hno'⟩ := run_find (P := P) (w := w) hm hko hf
    have hm2 : MapRel σ ρ ((i', v) :: es) (ms.push { key := i', val := v', born := clock }).toList := by
     rw [Array.toList_push]
     exact hm.push hno hno' rv (keyOk_plain hko)
    obtain ⟨h1, h2⟩ := k.writeMap (P := P) hn hg hx hm2 (clock' := clock + 1) (by rw [Array.toList_push]; exact hborn.push i' v')
    exact ⟨_, by simp [Instr.mapUpdate, run_underlying ht, hget, hc, hrun, h1], rfl, rfl, h2⟩
   ·cases ho
  ·rename_i hg _
   split at ho
   case h_2 => cases ho
   rename_i hko
   cases ho
   obtain ⟨ms, clock, hx, hm, _⟩ := k.rel n b c _ hn hg
   have h0 : ms = #[] := by
    have := hm.len
    simp at this
    exact Array.eq_empty_of_size_eq_zero (by simpa using this.symm)
   subst h0
   have hget : (getObj b).run P w = .ok (.map #[] clock) w := by simp [getObj, Sem.run, hx]
   have hc : ∀ e, (Instr.checkKey e 10000 kt i').run P w = .ok () w := skey_check hko ri
   have hrun : (Instr.findKey kt i' []).run P w = .ok none w := skey_nil hko ri
   obtain ⟨h1, h2⟩ := k.writeS (P := P) (clock' := clock + 1) (es' := [(_, _)]) (ms' := #[].push { key := i', val := v', born := clock }) hn hg (.inl ⟨_, rfl⟩) hx (.cons ri rv .nil)
   exact ⟨_, by simpa [Instr.mapUpdate, run_underlying ht, hget, hc, hrun] using h1, rfl, rfl, h2⟩
  ·rename_i es hg _
   split at ho
   ·rename_i j u hko hf
    cases ho
    obtain ⟨ms, clock, hx, hm⟩ := k.rel n b c _ hn hg
    have hbits := skey_bits hko ri
    obtain ⟨e, hj, hrun, _, hek⟩ := run_findS (P := P) (w := w) hko ri hm hf
    have hget : (getObj b).run P w = .ok (.map ms clock) w := by simp [getObj, Sem.run, hx]
    have hc : ∀ e, (Instr.checkKey e 10000 kt i').run P w = .ok () w := skey_check hko ri
    have hstay : (Instr.keyThatStays (((ms[j]?).map (·.key)).getD i') i').run P w = .ok i' w := by
     have hj' : ms[j]? = some e := by simpa using hj
     simp only [hj', Option.map_some, Option.getD_some, hek]
     simp [Instr.keyThatStays, hbits]
    have hm2 : EntL σ ρ (setS v i j es) (ms.modify j fun e => { e with key := i', val := v' }).toList := by
     rw [Array.toList_modify]
     exact EntL.set ri rv j hm
    obtain ⟨h1, h2⟩ := k.writeS (P := P) (clock' := clock) hn hg (.inr ⟨_, rfl⟩) hx hm2
    exact ⟨_, by simp [Instr.mapUpdate, run_underlying ht, hget, hc, hrun, hstay, h1], rfl, rfl, h2⟩
   ·rename_i hko hf
    cases ho
    obtain ⟨ms, clock, hx, hm⟩ := k.rel n b c _ hn hg
    have hrun := run_findS (P := P) (w := w) hko ri hm hf
    simp only at hrun
    have hget : (getObj b).run P w = .ok (.map ms clock) w := by simp [getObj, Sem.run, hx]
    have hc : ∀ e, (Instr.checkKey e 10000 kt i').run P w = .ok () w := skey_check hko ri
    have hm2 : EntL σ ρ (es ++ [(i, v)]) (ms.push { key := i', val := v', born := clock }).toList := by
     rw [Array.toList_push]
     exact hm.push ri rv
    obtain ⟨h1, h2⟩ := k.writeS (P := P) (clock' := clock + 1) hn hg (.inr ⟨_, rfl⟩) hx hm2
    exact ⟨_, by simp [Instr.mapUpdate, run_underlying ht, hget, hc, hrun, h1], rfl, rfl, h2⟩
   ·cases ho
  ·cases ho
 ·cases ho
theorem deleteZ_sound (k : WI σ w0 h ρ w) {nx : Nat} {t tx ty : TypeId} {m i m' i' : Value} {out : Out} (rm : Rep σ ρ m m') (ri : Rep σ ρ i i') (ho : deleteZ P h nx t m i = some out) :
  ∃ v' w', (Builtin.delete_ #[t, tx] ty #[m', i']).run P w = .ok v' w' ∧ out.2.2 = nx ∧ Rep σ ρ out.1 v' ∧ WI σ w0 out.2.1 ρ w' := by
 unfold deleteZ at ho
 split at ho
 ·rename_i kt et ht
  split at ho
  ·have := rm.of_plain rfl; subst this
   split at ho
   ·rename_i hko
    cases ho
    have := ri.of_plain (keyOk_plain hko); subst this
    have hc := fun e => run_checkKey (P := P) (w := w) (e := e) hko
    exact ⟨.tuple #[], w, by simp [Builtin.delete_, run_underlying ht, hc], rfl, .tup_mk .nil, k⟩
   ·cases ho
  ·rename_i n
   obtain ⟨b, c, hn, rfl⟩ := rm.map_inv
   split at ho
   ·rename_i es hg hko
    obtain ⟨ms, clock, hx, hm, hborn⟩ := k.rel n b c _ hn hg
    have := ri.of_plain (keyOk_plain hko); subst this
    have hget : (getObj b).run P w = .ok (.map ms clock) w := by simp [getObj, Sem.run, hx]
    have hc := fun e => run_checkKey (P := P) (w := w) (e := e) hko
    split at ho
    ·rename_i u hf
     cases ho
     obtain ⟨j, e, hrun, hj, hek, _, _⟩ := run_find (P := P) (w := w) hm hko hf
     have hlt : j < ms.size := by have := (List.getElem?_eq_some_iff.1 hj).1; simpa using this
     have hers : (ms.eraseIdxIfInBounds j).toList = ms.toList.eraseIdx j := by
      simp [Array.eraseIdxIfInBounds, hlt]
     have hm2 : MapRel σ ρ (delZ i' es) (ms.eraseIdxIfInBounds j).toList := by
      rw [hers]
      exact hm.del (keyEq_of hko) hf hj hek
     obtain ⟨h1, h2⟩ := k.writeMap (P := P) hn hg hx hm2 (clock' := clock) (by rw [hers]; exact hborn.sub (List.eraseIdx_sublist _ _))
     exact ⟨.tuple #[], _, by simp [Builtin.delete_, run_underlying ht, hget, hc, hrun, h1], rfl, .tup_mk .nil, h2⟩
    ·rename_i hf
     cases ho
     obtain ⟨hrun, hno, hno'⟩ := run_find (P := P) (w := w) hm hko hf
     obtain ⟨h1, _⟩ := k.writeMap (P := P) hn hg hx hm (clock' := clock) hborn
     refine ⟨.tuple #[], put w b (.map ms clock), by simp [Builtin.delete_, run_underlying ht, hget, hc, hrun, h1], rfl, .tup_mk .nil, ?_⟩
     exact k.write hn ⟨_, hg, rfl⟩ (fun _ _ _ e => by cases e) (fun _ _ _ h => h) (fun o ho => by
      rw [hg] at ho
      cases ho
      exact ⟨rfl, ms, clock, rfl, hm, hborn⟩)
    ·cases ho
   ·cases ho
  ·cases ho
 ·cases ho
end
end Go.Z
end

section
namespace Go.Z
open Go.X
open Go.RowKit Go.ChangeMaps
section
variable {P : Program} {σ : Nat → Nat → Value} {w0 : World} {h h' : Heap} {ρ : Ren} {w : World}
theorem StepOk.mem {nx : Nat} {o : Oper} {a : Act} {out : Out} {outs : List Out} (h : StepOk P σ w0 ρ nx o a w [out]) (hm : out ∈ outs) : StepOk P σ w0 ρ nx o a w outs := fun next Q hk =>
 h next Q fun out' ho' => by rw [List.mem_singleton] at ho'; subst ho'; exact hk _ hm
theorem WI.swap (k : WI σ w0 h ρ w) (hs : ∀ n b c o, ρ n = some (b, c) → h'.get n = some o → h.get n = some o ∨ o = .dead ∨ (o.live = true ∧ Live h n ∧ ObjRel σ ρ w.heap[b]? c o)) : WI σ w0 h' ρ w := by
 have hlive : ∀ n b c, ρ n = some (b, c) → Live h' n → Live h n := fun n b c hn ⟨o, ho, hl⟩ => by
  rcases hs n b c o hn ho with h1 | h1 | h1
  ·exact ⟨o, h1, hl⟩
  ·subst h1; cases hl
  ·exact h1.2.1
 refine ⟨fun n b c o hn ho => ?_, k.lt, fun n m b c c' hn hm l1 l2 => k.inj n m b c c' hn hm (hlive n _ _ hn l1) (hlive m _ _ hm l2), fun n b c hn l => k.own n b c hn (hlive n _ _ hn l), fun n b c l hn ho hd => ?_, k.kept⟩
 ·rcases hs n b c o hn ho with h1 | h1 | h1
  ·exact k.rel n b c o hn h1
  ·subst h1; trivial
  ·exact h1.2.2
 ·rcases hs n b c _ hn ho with h1 | h1 | h1
  ·exact k.old n b c l hn h1 hd
  ·subst h1; cases hd
  ·exact absurd h1.1 (elder_not hd)
theorem births_of {es : List (Value × Value)} {ms : List MapEntry} (hf : ∀ x ∈ es, ∃ e ∈ ms, e.key = x.1 ∧ Rep σ ρ x.2 e.val) : ∃ bs, Births σ ρ es ms bs := by
 induction es with
 | nil => exact ⟨[], rfl, fun i x hx => by simp at hx⟩
 | cons y es ih =>
  obtain ⟨bs, hl, ha⟩ := ih fun x hx => hf x (by simp [hx])
  obtain ⟨e, he, h1, h2⟩ := hf y (by simp)
  refine ⟨e.born :: bs, by simp [hl], fun i x hx => ?_⟩
  cases i with
  | zero =>
   simp at hx; subst hx
   exact ⟨e, he, h1, h2, rfl⟩
  | succ i =>
   simp at hx
   obtain ⟨e', he', h3, h4, h5⟩ := ha i x hx
   exact ⟨e', he', h3, h4, by simpa using h5⟩
theorem memI_iff (i : Nat) : ∀ (l : List Nat), memI i l = true ↔ i ∈ l
 | [] => by simp [memI]
 | j :: l => by
  unfold memI
  cases hb : Nat.beq i j with
  | true => have := Nat.eq_of_beq_eq_true hb; subst this; simp
  | false =>
   have hne : i ≠ j := fun e => by subst e; simp at hb
   simp only [memI_iff i l, List.mem_cons, hne, false_or]
theorem leftI_mem (vis : List Nat) : ∀ (es : List (Value × Value)) (s i : Nat) (k v : Value), (i, k, v) ∈ leftI vis es s ↔ s ≤ i ∧ es[i - s]? = some (k, v) ∧ i ∉ vis
 | [], s, i, k, v => by simp [leftI]
 | (k0, v0) :: es, s, i, k, v => by
  unfold leftI
  have ih := leftI_mem vis es (s + 1) i k v
  have hstep : s + 1 ≤ i → ((k0, v0) :: es)[i - s]? = es[i - (s + 1)]? := fun hle => by
   rw [show i - s = (i - (s + 1)) + 1 by omega]; simp
  cases hm : memI s vis with
  | true =>
   have hin := (memI_iff s vis).1 hm
   simp only
   rw [ih]
   constructor
   ·rintro ⟨h1, h2, h3⟩
    exact ⟨by omega, by rw [hstep h1]; exact h2, h3⟩
   ·rintro ⟨h1, h2, h3⟩
    have : s + 1 ≤ i := by
     rcases Nat.eq_or_lt_of_le h1 with e | e
     ·subst e; exact absurd hin h3
     ·exact e
    exact ⟨this, by rw [← hstep this]; exact h2, h3⟩
  | false =>
   have hin : s ∉ vis := fun e => by rw [(memI_iff s vis).2 e] at hm; cases hm
   simp only [List.mem_cons, Prod.mk.injEq]
   rw [ih]
   constructor
   ·rintro (⟨rfl, rfl, rfl⟩ | ⟨h1, h2, h3⟩)
    ·exact ⟨Nat.le_refl _, by simp, hin⟩
    ·exact ⟨by omega, by rw [hstep h1]; exact h2, h3⟩
   ·rintro ⟨h1, h2, h3⟩
    rcases Nat.eq_or_lt_of_le h1 with e | e
    ·subst e
     simp at h2
     exact .inl ⟨rfl, h2.1.symm, h2.2.symm⟩
    ·exact .inr ⟨e, by rw [← hstep e]; exact h2, h3⟩
theorem lastI_spec : ∀ {l : List Nat} {i : Nat}, lastI l = some i → ∃ l', l = l' ++ [i]
 | [], i, h => by cases h
 | [j], i, h => by cases h; exact ⟨[], rfl⟩
 | j :: j' :: l, i, h => by
  obtain ⟨l', e⟩ := lastI_spec (l := j' :: l) (i := i) h
  exact ⟨j :: l', by rw [e]; rfl⟩
theorem left_iff {es : Array MapEntry} {seen : Array Nat} {e : MapEntry} : e ∈ (leftOf es seen).toList ↔ e ∈ es.toList ∧ e.born ∉ seen.toList := by
 unfold leftOf
 simp
theorem key_inj : ∀ {l : List MapEntry}, (l.map (·.key)).Nodup → ∀ {x y : MapEntry}, x ∈ l → y ∈ l → x.key = y.key → x = y
 | [], _, _, _, hx, _, _ => by cases hx
 | a :: l, h, x, y, hx, hy, e => by
  rw [List.map_cons, List.nodup_cons] at h
  rcases List.mem_cons.1 hx with hx1 | hx1
  ·rcases List.mem_cons.1 hy with hy1 | hy1
   ·rw [hx1, hy1]
   ·subst hx1; exact absurd (List.mem_map.2 ⟨y, hy1, e.symm⟩) h.1
  ·rcases List.mem_cons.1 hy with hy1 | hy1
   ·subst hy1; exact absurd (List.mem_map.2 ⟨x, hx1, e⟩) h.1
   ·exact key_inj h.2 hx1 hy1 e
theorem born_inj' : ∀ {l : List MapEntry}, (l.map (·.born)).Nodup → ∀ {x y : MapEntry}, x ∈ l → y ∈ l → x.born = y.born → x = y
 | [], _, _, _, hx, _, _ => by cases hx
 | a :: l, h, x, y, hx, hy, e => by
  rw [List.map_cons, List.nodup_cons] at h
  rcases List.mem_cons.1 hx with hx1 | hx1
  ·rcases List.mem_cons.1 hy with hy1 | hy1
   ·rw [hx1, hy1]
   ·subst hx1; exact absurd (List.mem_map.2 ⟨y, hy1, e.symm⟩) h.1
  ·rcases List.mem_cons.1 hy with hy1 | hy1
   ·subst hy1; exact absurd (List.mem_map.2 ⟨x, hx1, e⟩) h.1
   ·exact born_inj' h.2 hx1 hy1 e
theorem nodup_at {α : Type} : ∀ {l : List α}, l.Nodup → ∀ {i j : Nat} {x : α}, l[i]? = some x → l[j]? = some x → i = j
 | [], _, i, j, x, hi, _ => by simp at hi
 | a :: l, h, 0, 0, x, _, _ => rfl
 | a :: l, h, 0, j + 1, x, hi, hj => by
  simp at hi hj
  subst hi
  exact absurd (List.mem_of_getElem? hj) (List.nodup_cons.1 h).1
 | a :: l, h, i + 1, 0, x, hi, hj => by
  simp at hi hj
  subst hj
  exact absurd (List.mem_of_getElem? hi) (List.nodup_cons.1 h).1
 | a :: l, h, i + 1, j + 1, x, hi, hj => by
  have := nodup_at (List.nodup_cons.1 h).2 (i := i) (j := j) (x := x) (by simpa using hi) (by simpa using hj)
  omega
theorem nodup_index {es : List (Value × Value)} (h : (es.map (·.1)).Nodup) {i j : Nat} {x y : Value × Value} (hi : es[i]? = some x) (hj : es[j]? = some y) (e : x.1 = y.1) : i = j := by
 have h1 : (es.map (·.1))[i]? = some x.1 := by rw [List.getElem?_map, hi]; rfl
 have h2 : (es.map (·.1))[j]? = some y.1 := by rw [List.getElem?_map, hj]; rfl
 rw [e] at h1
 exact nodup_at h h1 h2
set_option linter.unusedSimpArgs false in
theorem iterL_sound (k : WI σ w0 h ρ w) {nx : Nat} (hf : Fresh ρ nx) {o : Oper} {a : Act} {args : List Value} {outs : List Out} (ha : RepL σ ρ args ((opnds o.op).map a.eval)) (hv : iterL P h nx o.op args = .ok outs) :
  StepOk P σ w0 ρ nx o a w outs := by
 obtain ⟨dst, op, type, pos, after, guard⟩ := o
 simp only at ha hv
 unfold iterL at hv
 split at hv
 ·-- range over no map
  rename_i t x
  obtain ⟨p, e, h1⟩ := ha.one
  simp only [opnds, List.map_cons, List.map_nil, List.cons.injEq, and_true] at e
  subst e
  have he := h1.of_plain rfl
  split at hv
  ·rename_i kt et ht
   cases hv
   have hrun := run_range_nilMap (P := P) w t kt et ht
   refine StepOk.value (ρ' := ρ.add nx w.heap.size 0) (w' := w.alloc (.mapIter none 0 #[] 0)) (v' := .pointer (some ⟨w.heap.size, 0, none⟩)) ?_ (Ren.add_le hf.none) New.add (Nat.le_succ _) hf.add (.ptr Ren.add_same) ?_
   ·simp [execOp, he, hrun]
   ·refine k.alloc (n := nx) (c := 0) hf.none (fun m o hm hg => ?_) (fun o hg => ?_)
    ·rcases Heap.ins_get hg with ⟨e, _⟩ | ⟨_, e⟩
     ·exact absurd e hm
     ·exact .inl e
    ·rcases Heap.ins_get hg with ⟨_, rfl⟩ | ⟨e, _⟩
     ·exact ⟨rfl, rfl⟩
     ·exact absurd rfl e
  ·cases hv
 ·-- range over a map
  rename_i t x m
  obtain ⟨p, e, h1⟩ := ha.one
  simp only [opnds, List.map_cons, List.map_nil, List.cons.injEq, and_true] at e
  subst e
  obtain ⟨b, c, hn, he⟩ := h1.map_inv
  split at hv
  ·rename_i kt et es ht hm
   cases hv
   obtain ⟨ms, clock, hx, hrel, hborn⟩ := k.rel m b c _ hn hm
   obtain ⟨bs, hB⟩ := births_of hrel.fwd
   have hrun := run_range_map (P := P) w t kt et b ms clock ht hx
   have hlt := k.lt m b c hn
   refine StepOk.value (ρ' := ρ.add nx w.heap.size (code (clock :: bs))) (w' := w.alloc (.mapIter (some b) clock #[] clock)) (v' := .pointer (some ⟨w.heap.size, 0, none⟩)) ?_ (Ren.add_le hf.none) New.add (Nat.le_succ _) hf.add (.ptr Ren.add_same) ?_
   ·simp [execOp, he, hrun]
   ·have hle : ρ.le (ρ.add nx w.heap.size (code (clock :: bs))) := Ren.add_le hf.none
    have hmn : m ≠ nx := fun e => by subst e; rw [hf.none] at hn; cases hn
    have k1 : WI σ w0 (h.ins nx (some (.iter m []))) (ρ.add nx w.heap.size (code (clock :: bs))) (w.alloc (.mapIter (some b) clock #[] clock)) := k.alloc (n := nx) (c := code (clock :: bs)) hf.none (fun m' o hm' hg => by
      rcases Heap.ins_get hg with ⟨e, _⟩ | ⟨_, e⟩
      ·exact absurd e hm'
      ·exact .inl e) (fun o hg => by
      rcases Heap.ins_get hg with ⟨_, rfl⟩ | ⟨e, _⟩
      ·exact ⟨rfl, b, c, clock, bs, rfl, rfl, hle _ _ hn, List.nodup_nil, fun i hi => by cases hi⟩
      ·exact absurd rfl e)
    refine k1.swap fun n' b' c' o hn' hg => ?_
    rcases Heap.ins_get hg with ⟨rfl, rfl⟩ | ⟨e1, e2⟩
    ·refine .inl ?_
     show Tr.get (Tr.ins h n' _) n' = _
     rw [Tr.get_ins_all, if_pos rfl]
    ·rcases Heap.ins_get e2 with ⟨rfl, rfl⟩ | ⟨e3, e4⟩
     ·refine .inr (.inr ⟨rfl, ⟨.map es, ?_, rfl⟩, ?_⟩)
      ·show Tr.get (Tr.ins h nx _) n' = _
       rw [Tr.get_ins_all, if_neg e1]; exact hm
      ·have := hle _ _ hn
       rw [this] at hn'
       cases hn'
       rw [alloc_old w _ hlt]
       exact ⟨ms, clock, w.heap.size, bs, hx, hrel.mono hle, hborn, Ren.add_same, hB.mono hle⟩
     ·refine .inl ?_
      show Tr.get (Tr.ins h nx _) n' = _
      rw [Tr.get_ins_all, if_neg e1]; exact e4
  ·cases hv
 ·-- next
  rename_i x n
  obtain ⟨p, e, h1⟩ := ha.one
  simp only [opnds, List.map_cons, List.map_nil, List.cons.injEq, and_true] at e
  subst e
  obtain ⟨b, c, hn, he⟩ := h1.ptr_inv
  split at hv
  ·rename_i hg
   cases hv
   have hx : w.heap[b]? = some (.mapIter none 0 #[] 0) := k.rel n b c _ hn hg
   refine StepOk.value (ρ' := ρ) (w' := w) (v' := .tuple #[.bool false]) ?_ (Ren.le_refl _) (New.refl _ _) (Nat.le_refl _) hf (.tup_mk (.cons (.plain rfl) .nil)) k
   simp [execOp, he, Instr.next, getObj, Sem.run_bind, Sem.run, hx, Result.andThen]
  ·rename_i m vis hg
   split at hv
   ·rename_i es it hm
    obtain ⟨bm, cm, clock, bs, hc, hx, hnm, hnd, hlt⟩ := k.rel n b c _ hn hg
    obtain ⟨ms, clock', r, bs', hxm, hrel, hborn, hit, hB⟩ := k.rel m bm cm _ hnm hm
    split at hv
    ·-- over
     rename_i hbe hleft
     cases hv
     have := Nat.eq_of_beq_eq_true hbe
     subst this
     rw [hn] at hit
     cases hit
     have hcode := code_inj hc
     cases hcode
     rcases run_next_at (P := P) w type b bm clock clock _ ms clock hx hxm (fun x hx => hborn.lt x hx) (Nat.le_refl _) with ⟨h0, hrun⟩ | ⟨e, he', _⟩
     ·refine StepOk.value (ρ' := ρ) (w' := w) (v' := .tuple #[.bool false]) (by simp [execOp, he, hrun]) (Ren.le_refl _) (New.refl _ _) (Nat.le_refl _) hf (.tup_mk (.cons (.plain rfl) .nil)) ?_
      refine k.swap fun n' b' c' o hn' hgo => ?_
      rcases Heap.ins_get hgo with ⟨_, rfl⟩ | ⟨e1, e2⟩
      ·exact .inr (.inl rfl)
      ·rcases Heap.ins_get e2 with ⟨rfl, rfl⟩ | ⟨_, e4⟩
       ·rw [hnm] at hn'
        cases hn'
        exact .inr (.inr ⟨rfl, ⟨_, hm, rfl⟩, ms, clock, hxm, hrel, hborn⟩)
       ·exact .inl e4
     ·exfalso
      have hL := left_iff.1 he'
      obtain ⟨v, hv'⟩ := hrel.back e hL.1
      obtain ⟨i, hi⟩ := List.mem_iff_getElem?.1 hv'
      have hnv : i ∈ vis := by
       by_cases hiv : i ∈ vis
       ·exact hiv
       ·have := (leftI_mem vis es 0 i e.key v).2 ⟨Nat.zero_le _, by simpa using hi, hiv⟩
        rw [hleft] at this
        cases this
      obtain ⟨e2, he2, h3, h4, h5⟩ := hB.at' i _ hi
      have : e2 = e := key_inj hrel.nodupM he2 hL.1 h3
      subst this
      refine hL.2 ?_
      refine List.mem_map.2 ⟨i, hnv, ?_⟩
      simp [List.getD_eq_getElem?_getD, h5]
    ·-- one more
     rename_i l hbe hleft
     cases hv
     have := Nat.eq_of_beq_eq_true hbe
     subst this
     rw [hn] at hit
     cases hit
     have hcode := code_inj hc
     cases hcode
     rcases run_next_at (P := P) w type b bm clock clock _ ms clock hx hxm (fun x hx => hborn.lt x hx) (Nat.le_refl _) with ⟨h0, hrun⟩ | ⟨e, he', w1, hw1, hrun⟩
     ·exfalso
      obtain ⟨⟨i, k0, v0⟩, l', hl⟩ : ∃ x l', leftI vis es 0 = x :: l' := by
       cases hq : leftI vis es 0 with
       | nil => exact absurd hq hleft
       | cons x l' => exact ⟨x, l', rfl⟩
      obtain ⟨_, hi, hiv⟩ := (leftI_mem vis es 0 i k0 v0).1 (by rw [hl]; simp)
      simp at hi
      obtain ⟨e2, he2, h3, h4, h5⟩ := hB.at' i _ hi
      have hmem : e2 ∈ (leftOf ms (vis.map fun i => bs.getD i 0).toArray).toList := by
       refine left_iff.2 ⟨he2, fun hc2 => hiv ?_⟩
       obtain ⟨j, hj, hjb⟩ := List.mem_map.1 hc2
       have hj2 := hlt j hj
       have hjl : j < es.length := by rw [← hB.len]; exact hj2
       obtain ⟨e3, he3, h6, h7, h8⟩ := hB.at' j _ (List.getElem?_eq_getElem hjl)
       simp only [List.getD_eq_getElem?_getD, h8, Option.getD_some] at hjb
       have : e3 = e2 := born_inj' hborn.nd he3 he2 hjb
       subst this
       have hk : es[j].1 = k0 := by rw [← h6, h3]
       have := nodup_index hrel.nodup (List.getElem?_eq_getElem hjl) hi hk
       subst this
       exact hj
      have : (leftOf ms (vis.map fun i => bs.getD i 0).toArray).toList = [] := List.eq_nil_of_length_eq_zero (by simpa using h0)
      rw [this] at hmem
      cases hmem
     ·have hL := left_iff.1 he'
      obtain ⟨v, hv'⟩ := hrel.back e hL.1
      obtain ⟨i, hi⟩ := List.mem_iff_getElem?.1 hv'
      obtain ⟨e2, he2, h3, h4, h5⟩ := hB.at' i _ hi
      have : e2 = e := key_inj hrel.nodupM he2 hL.1 h3
      subst this
      have hiv : i ∉ vis := fun hiv => hL.2 (List.mem_map.2 ⟨i, hiv, by simp [List.getD_eq_getElem?_getD, h5]⟩)
      have hil := (leftI_mem vis es 0 i e2.key v).2 ⟨Nat.zero_le _, by simpa using hi, hiv⟩
      have hpk : plain e2.key = true := hrel.plainK _ hv'
      refine StepOk.mem (out := (.tuple #[.bool true, e2.key, v], h.ins it (some (.iter m (vis ++ [i]))), nx)) ?_ (List.mem_map.2 ⟨_, hil, rfl⟩)
      refine StepOk.value (ρ' := ρ) (w' := setBlock w1 b (.mapIter (some bm) clock ((vis.map fun i => bs.getD i 0).toArray.push e2.born) clock)) (v' := .tuple #[.bool true, e2.key, e2.val]) (by simp [execOp, he, hrun]) (Ren.le_refl _) (New.refl _ _) (Nat.le_refl _) hf (.tup_mk (.cons (.plain rfl) (.cons (.plain hpk) (.cons h4 .nil)))) ?_
      have kk : WI σ w0 h ρ w1 := by
       rcases hw1 with rfl | rfl
       ·exact k
       ·exact k.drew
      refine kk.write hn ⟨_, hg, rfl⟩ (fun _ _ _ e => by cases e) (fun m' o hm' hgo => ?_) (fun o hgo => ?_)
      ·rcases Heap.ins_get hgo with ⟨e, _⟩ | ⟨_, e⟩
       ·exact absurd e hm'
       ·exact e
      ·rcases Heap.ins_get hgo with ⟨_, rfl⟩ | ⟨e, _⟩
       ·refine ⟨rfl, bm, cm, clock, bs, rfl, ?_, hnm, ?_, ?_⟩
        ·congr 2
         simp [List.getD_eq_getElem?_getD, h5]
        ·rw [List.nodup_append]
         exact ⟨hnd, by simp, fun a ha b hb e => by simp at hb; subst hb; subst e; exact hiv ha⟩
        ·intro j hj
         rcases List.mem_append.1 hj with hj | hj
         ·exact hlt j hj
         ·simp at hj; subst hj
          exact (List.getElem?_eq_some_iff.1 h5).1
       ·exact absurd rfl e
    ·cases hv
   ·cases hv
  ·cases hv
 ·-- entry
  rename_i x n
  obtain ⟨p, e, h1⟩ := ha.one
  simp only [opnds, List.map_cons, List.map_nil, List.cons.injEq, and_true] at e
  subst e
  obtain ⟨b, c, hn, he⟩ := h1.ptr_inv
  split at hv
  ·rename_i m vis hg
   split at hv
   ·rename_i es it i hm hlast
    split at hv
    ·rename_i k0 v0 hbe hi
     cases hv
     obtain ⟨bm, cm, clock, bs, hc, hx, hnm, hnd, hlt⟩ := k.rel n b c _ hn hg
     obtain ⟨ms, clock', r, bs', hxm, hrel, hborn, hit, hB⟩ := k.rel m bm cm _ hnm hm
     have := Nat.eq_of_beq_eq_true hbe
     subst this
     rw [hn] at hit
     cases hit
     have hcode := code_inj hc
     cases hcode
     obtain ⟨vis', rfl⟩ := lastI_spec hlast
     obtain ⟨e2, he2, h3, h4, h5⟩ := hB.at' i _ hi
     have hx2 : w.heap[b]? = some (.mapIter (some bm) clock ((vis'.map fun i => bs.getD i 0).toArray.push e2.born) clock) := by
      rw [hx]
      congr 2
      simp [List.getD_eq_getElem?_getD, h5]
     have hrun := run_entry_at (P := P) w b bm clock _ ms clock e2 hx2 hxm he2 hborn.nd
     have hpk : plain k0 = true := hrel.plainK _ (List.mem_of_getElem? hi)
     refine StepOk.value (ρ' := ρ) (w' := w) (v' := .tuple #[e2.key, e2.val]) (by simp [execOp, he, hrun]) (Ren.le_refl _) (New.refl _ _) (Nat.le_refl _) hf (.tup_mk (.cons (by rw [h3]; exact .plain hpk) (.cons h4 .nil))) k
    ·cases hv
   ·cases hv
  ·cases hv
 ·cases hv
end
end Go.Z
end

section
namespace Go.Z
open Go.X
open Go.RowKit
def CallOk (P : Program) (σ : Nat → Nat → Value) (call : FuncId → List Value → Heap → Nat → R (List Out)) : Prop :=
 ∀ (w0 : World) (f : FuncId) (args : List Value) (h : Heap) (nx : Nat) (outs : List Out), call f args h nx = .ok outs → ∀ (ρ : Ren) (vs : List Value) (w : World), Fresh ρ nx → RepL σ ρ args vs → WI σ w0 h ρ w →
  Calls P f vs.toArray w fun e w' => ∃ out ∈ outs, ∃ v ρ', e = .returned v ∧ ρ.le ρ' ∧ New ρ ρ' nx ∧ nx ≤ out.2.2 ∧ Fresh ρ' out.2.2 ∧ Rep σ ρ' out.1 v ∧ WI σ w0 out.2.1 ρ' w'
structure EnvOk (E : Env) (σ : Nat → Nat → Value) : Prop where
 ext : ∀ (w0 : World) g f, E.ext g = some f → ∀ h args v, f h args = some v → ∀ (ρ : Ren) (vs : List Value) (w : World), RepL σ ρ args vs → WI σ w0 h ρ w → ∃ v', (callFunc g vs.toArray).run E.P w = .ok (.value v') w ∧ Rep σ ρ v v'
 prim : ∀ g f, E.prim g = some f → CallOk E.P σ (fun g' args h nx => if g' = g then (match f h nx args with | some l => .ok l | none => .no []) else .no [])
 mixed : E.P.follows .mixedOrders = true
section
variable {E : Env} {σ : Nat → Nat → Value} [SigOk σ] {w0 : World} {h : Heap} {ρ : Ren} {w : World} {call : FuncId → List Value → Heap → Nat → R (List Out)}
theorem StepOk.one {nx : Nat} {o : Oper} {a : Act} {x : Option Out} {outs : List Out} (hx : (match x with | some o => .ok [o] | none => .no [] : R (List Out)) = .ok outs) (h : ∀ out, x = some out → StepOk E.P σ w0 ρ nx o a w [out]) : StepOk E.P σ w0 ρ nx o a w outs := by
 cases x with
 | none => cases hx
 | some out => cases hx; exact h out rfl
theorem bytesWorld_eq (w : World) (e : TypeId) (s : ByteArray) : Lib.bytesWorld w e s = w.drew.alloc (.cells (Lib.bytesCells w e s) e ((Lib.bytesCells w e s).size, (Lib.bytesCells w e s).size + 1)) := by
 have hh : (Lib.bytesWorld w e s).heap = (w.drew.alloc (.cells (Lib.bytesCells w e s) e ((Lib.bytesCells w e s).size, (Lib.bytesCells w e s).size + 1))).heap := by
  apply Array.ext_getElem?
  intro j
  rcases Nat.lt_trichotomy j w.heap.size with h | h | h
  ·rw [Lib.bytesWorld_at_old w e s j h, alloc_old w.drew _ (show j < w.drew.heap.size from h)]
   rfl
  ·subst h
   rw [Lib.bytesWorld_at_new]
   exact (heap_alloc_new w.drew _).symm
  ·rw [Array.getElem?_eq_none (by rw [Lib.bytesWorld_size]; exact h), Array.getElem?_eq_none]
   have : (w.drew.alloc (.cells (Lib.bytesCells w e s) e ((Lib.bytesCells w e s).size, (Lib.bytesCells w e s).size + 1))).heap.size = w.heap.size + 1 := by simp
   rw [this]; exact h
 have h1 : Lib.bytesWorld w e s = { w.drew with heap := (Lib.bytesWorld w e s).heap } := rfl
 rw [h1, hh]
 rfl
set_option maxHeartbeats 1000000 in
theorem loud_sound (hE : EnvOk E σ) (hc : CallOk E.P σ call) (k : WI σ w0 h ρ w) {nx : Nat} (hf : Fresh ρ nx) {o : Oper} {a : Act} {args : List Value} {outs : List Out} (ha : RepL σ ρ args ((opnds o.op).map a.eval)) (hv : loud E call o.op args h nx = .ok outs) :
  StepOk E.P σ w0 ρ nx o a w outs := by
 obtain ⟨dst, op, type, pos, after, guard⟩ := o
 simp only at ha hv
 unfold loud at hv
 simp only at hv
 split at hv
 ·-- store
  rename_i t x y n off v
  obtain ⟨p, q, e, h1, h2⟩ := ha.two
  simp only [opnds, List.map_cons, List.map_nil, List.cons.injEq, and_true] at e
  obtain ⟨rfl, rfl⟩ := e
  obtain ⟨b, c, hn, he⟩ := h1.ptr_inv
  split at hv
  ·rename_i z hz
   split at hv
   ·rename_i hlen
    split at hv
    ·rename_i h' hw
     cases hv
     have hlen := Nat.eq_of_beq_eq_true hlen
     obtain ⟨w', hst, hwi⟩ := writeCells_sound (P := E.P) k hn h2.cells hw
     have hcs : (a.eval y).cells.size = z := by have := h2.cells.length; simp at this; omega
     refine StepOk.skip (ρ' := ρ) (w' := w') ?_ (Ren.le_refl _) (New.refl _ _) (Nat.le_refl _) hf rep_undef hwi
     simp [execOp, he, Instr.storeAt, Instr.sureAddr, storeVar, run_sizeOf hz, hcs, hst]
    ·cases hv
   ·cases hv
  ·cases hv
 ·-- a string to bytes
  rename_i src dst' x s
  obtain ⟨b, e, hr⟩ := ha.one
  simp only [opnds, List.map_cons, List.map_nil, List.cons.injEq, and_true] at e
  subst e
  have he := hr.string
  split at hv
  ·rename_i e1 hs hd
   split at hv
   ·rename_i hu
    cases hv
    have hrun := Lib.run_convert_string_bytes (P := E.P) w src dst' e1 s hs hd hu
    refine StepOk.value (ρ' := ρ.add nx w.heap.size (grownCap w s.size 0 e1)) (w' := Lib.bytesWorld w e1 s) (v' := .slice (some ⟨w.heap.size, 0, none⟩) s.size (grownCap w s.size 0 e1)) ?_ (Ren.add_le hf.none) New.add (Nat.le_succ _) hf.add ?_ ?_
    ·simp [execOp, he, hrun]
    ·rw [size_bytes]
     exact .gr (k := 0) Ren.add_same (.inl rfl)
    ·rw [bytesWorld_eq]
     refine k.drew.alloc (n := nx) (c := grownCap w s.size 0 e1) hf.none (fun m o hm hg => ?_) (fun o hg => ?_)
     ·rcases Heap.ins_get hg with ⟨e, _⟩ | ⟨_, e⟩
      ·exact absurd e hm
      ·exact .inl e
     ·rcases Heap.ins_get hg with ⟨_, rfl⟩ | ⟨e, _⟩
      ·refine ⟨rfl, byteVals (bytesOf s), (Array.replicate (grownCap w s.size 0 e1 - s.size) (.int .u8 0)).toList, e1, ((Lib.bytesCells w e1 s).size, (Lib.bytesCells w e1 s).size + 1), ?_, .plain (byteVals_plain _)⟩
       congr 2
       apply Array.ext'
       simp [Lib.bytesCells, byteVals_eq, bytesOf]
      ·exact absurd rfl e
   ·cases hv
  ·cases hv
 ·-- mapUpdate
  obtain ⟨p, q, r, e, h1, h2, h3⟩ := ha.three
  simp only [opnds, List.map_cons, List.map_nil, List.cons.injEq, and_true] at e
  obtain ⟨rfl, rfl, rfl⟩ := e
  refine StepOk.one hv fun out ho => ?_
  obtain ⟨w', hr, hnx, hu, hwi⟩ := updateZ_sound k h1 h2 h3 ho
  exact StepOk.skip (ρ' := ρ) (w' := w') (by simp [execOp, hr]) (Ren.le_refl _) (New.refl _ _) (by omega) (by rw [hnx]; exact hf) (by rw [hu]; exact rep_undef) hwi
 ·-- insert
  obtain ⟨p, q, r, e, h1, h2, h3⟩ := ha.three
  simp only [opnds, List.map_cons, List.map_nil, List.cons.injEq, and_true] at e
  obtain ⟨rfl, rfl, rfl⟩ := e
  refine StepOk.one hv fun out ho => ?_
  obtain ⟨w', hr, hnx, hu, hwi⟩ := updateZ_sound k h1 h2 h3 ho
  exact StepOk.skip (ρ' := ρ) (w' := w') (by simp [execOp, hr]) (Ren.le_refl _) (New.refl _ _) (by omega) (by rw [hnx]; exact hf) (by rw [hu]; exact rep_undef) hwi
 ·-- append
  rename_i cargs ts s x
  obtain ⟨p, q, e, h1, h2⟩ := ha.two
  simp only [opnds] at e
  have e1 : cargs.map a.eval = #[p, q] := map_toArray_eq e
  split at hv
  ·rename_i t t' hts
   have hts : ts = #[t, t'] := by apply Array.ext'; rw [hts]
   subst hts
   refine StepOk.one hv fun out ho => ?_
   obtain ⟨v', w', ρ', hr, hle, hnew, hnx, hf', hrv, hwi⟩ := appendZ_sound (ty := type) k hf h1 h2 ho
   exact StepOk.value (ρ' := ρ') (w' := w') (by simp [execOp, resolve, e1, invoke, builtin, hr]) hle hnew hnx hf' hrv hwi
  ·cases hv
 ·-- copy
  rename_i cargs ts d s
  obtain ⟨p, q, e, h1, h2⟩ := ha.two
  simp only [opnds] at e
  have e1 : cargs.map a.eval = #[p, q] := map_toArray_eq e
  split at hv
  ·rename_i t t' hts
   have hts : ts = #[t, t'] := by apply Array.ext'; rw [hts]
   subst hts
   refine StepOk.one hv fun out ho => ?_
   obtain ⟨v', w', hr, hnx, hrv, hwi⟩ := copyZ_sound (tx := t') (ty := type) k h1 h2 ho
   exact StepOk.value (ρ' := ρ) (w' := w') (by simp [execOp, resolve, e1, invoke, builtin, hr]) (Ren.le_refl _) (New.refl _ _) (by omega) (by rw [hnx]; exact hf) hrv hwi
  ·cases hv
 ·-- clear
  rename_i cargs ts s
  obtain ⟨p, e, h1⟩ := ha.one
  simp only [opnds] at e
  have e1 : cargs.map a.eval = #[p] := map_toArray_eq e
  split at hv
  ·rename_i t hts
   have hts : ts = #[t] := by apply Array.ext'; rw [hts]
   subst hts
   refine StepOk.one hv fun out ho => ?_
   obtain ⟨v', w', hr, hnx, hrv, hwi⟩ := clearZ_sound (ty := type) k h1 ho
   exact StepOk.value (ρ' := ρ) (w' := w') (by simp [execOp, resolve, e1, invoke, builtin, hr]) (Ren.le_refl _) (New.refl _ _) (by omega) (by rw [hnx]; exact hf) hrv hwi
  ·cases hv
 ·-- delete
  rename_i cargs ts m i
  obtain ⟨p, q, e, h1, h2⟩ := ha.two
  simp only [opnds] at e
  have e1 : cargs.map a.eval = #[p, q] := map_toArray_eq e
  split at hv
  ·rename_i t t' hts
   have hts : ts = #[t, t'] := by apply Array.ext'; rw [hts]
   subst hts
   refine StepOk.one hv fun out ho => ?_
   obtain ⟨v', w', hr, hnx, hrv, hwi⟩ := deleteZ_sound (tx := t') (ty := type) k h1 h2 ho
   exact StepOk.value (ρ' := ρ) (w' := w') (by simp [execOp, resolve, e1, invoke, builtin, hr]) (Ren.le_refl _) (New.refl _ _) (by omega) (by rw [hnx]; exact hf) hrv hwi
  ·cases hv
 ·-- a call
  rename_i fo cargs ts g first captured l
  simp only [opnds, List.map_cons] at ha
  obtain ⟨p, q, e, h1, h2⟩ := ha.cons'
  simp only [List.cons.injEq] at e
  obtain ⟨rfl, rfl⟩ := e
  obtain ⟨first', captured', he, h3, h4⟩ := h1.fn_inv
  have hargs : RepL σ ρ (first.toList ++ l ++ captured.toList) (first'.toList ++ cargs.toList.map a.eval ++ captured'.toList) := (h3.append h2).append h4
  have hrun : ∀ r, (callFunc g (first'.toList ++ cargs.toList.map a.eval ++ captured'.toList).toArray).run E.P w = r → (execOp a.eval ⟨dst, .call { callee := .value fo, args := cargs, argTypes := ts }, type, pos, after, guard⟩).run E.P w = r := fun r hr => by
   have e1 : (first'.toList ++ cargs.toList.map a.eval ++ captured'.toList).toArray = (first' ++ cargs.map a.eval) ++ captured' := by apply Array.ext'; simp
   rw [e1] at hr
   have := run_resolve_func (P := E.P) (w := w) (a := a) (c := { callee := .value fo, args := cargs, argTypes := ts }) (type := type) rfl he rfl
   simp only [execOp, Sem.run_bind, this, Result.andThen_ok]
   exact hr
  split at hv
  ·rename_i f hext
   split at hv
   ·rename_i v hfv
    cases hv
    obtain ⟨v', hr, hrv⟩ := hE.ext w0 g f hext h _ v hfv ρ _ w hargs k
    exact StepOk.value (ρ' := ρ) (w' := w) (hrun _ hr) (Ren.le_refl _) (New.refl _ _) (Nat.le_refl _) hf hrv k
   ·cases hv
  ·split at hv
   ·rename_i hok
    have hcall := hc w0 g _ h nx outs hv ρ _ w hf hargs k
    intro next Q hnext
    unfold Oper.wp
    rw [hrun _ (callOk_spec hok _)]
    refine hcall.mono fun e w' ⟨out, hout, v, ρ', he', hle, hnew, hnx, hf', hrv, hwi⟩ => ?_
    subst he'
    exact hnext out hout ρ' v w' hle hnew hnx hf' hrv hwi
   ·cases hv
 ·exact iterL_sound k hf ha hv
theorem step_sound (hE : EnvOk E σ) (hc : CallOk E.P σ call) (k : WI σ w0 h ρ w) {nx : Nat} (hf : Fresh ρ nx) {o : Oper} {a : Act} {args : List Value} {outs : List Out} (ha : RepL σ ρ args ((opnds o.op).map a.eval)) (hv : step E call o.op o.type args h nx = .ok outs) :
  StepOk E.P σ w0 ρ nx o a w outs := by
 unfold step at hv
 split at hv
 ·split at hv
  ·rename_i v hq
   cases hv
   obtain ⟨v', hr, hrv⟩ := quiet_sound (P := E.P) k ha hq
   exact StepOk.value (ρ' := ρ) hr (Ren.le_refl _) (New.refl _ _) (Nat.le_refl _) hf hrv k
  ·cases hv
 ·split at hv
  ·rename_i v ob hl
   cases hv
   obtain ⟨O, v', hr, hfz, hlive, hobj, hrv⟩ := lays_sound (P := E.P) (w := w) hf.none ha hl
   refine StepOk.value (ρ' := ρ.add nx w.heap.size 0) hr (Ren.add_le hf.none) New.add (Nat.le_succ _) hf.add hrv ?_
   refine k.alloc hf.none (fun m o hm hg => ?_) (fun o hg => ?_)
   ·rcases Heap.ins_get hg with ⟨e, _⟩ | ⟨_, e⟩
    ·exact absurd e hm
    ·exact .inl e
   ·rcases Heap.ins_get hg with ⟨_, rfl⟩ | ⟨e, _⟩
    ·exact ⟨hlive, hobj⟩
    ·exact absurd rfl e
  ·cases hv
 ·exact loud_sound hE hc k hf ha hv
structure Inv (σ : Nat → Nat → Value) (w0 : World) (ρ0 : Ren) (nx0 n : Nat) (st : St) (ρ : Ren) (a : Act) (w : World) : Prop where
 defers : a.defers = []
 size : a.tmps.size = n
 env : ∀ k x, st.env.get k = some x → Rep σ ρ x (a.tmps.getD k undef)
 fresh : Fresh ρ st.nx
 wi : WI σ w0 st.heap ρ w
 le0 : ρ0.le ρ
 new0 : New ρ0 ρ nx0
 nx0 : nx0 ≤ st.nx
variable {ρ0 : Ren} {nx0 n : Nat} {st : St} {a : Act}
theorem rep_plainD {v : Value} (h : plainD v = true) : Rep σ ρ v v := by
 unfold plainD at h
 split at h
 ·exact .agg_mk (.plain fun x hx => List.all_eq_true.1 h x hx)
 ·exact .tup_mk (.plain fun x hx => List.all_eq_true.1 h x hx)
 ·exact .plain h
theorem env_eval {env : Tr Value} (henv : ∀ k x, env.get k = some x → Rep σ ρ x (a.tmps.getD k undef)) {x : Operand} {v : Value} (hx : evalZ env x = some v) : Rep σ ρ v (a.eval x) := by
 cases x with
 | tmp t => exact henv t v hx
 | const c =>
  simp only [evalZ] at hx
  split at hx
  ·rename_i hp; cases hx; exact rep_plainD hp
  ·cases hx
 | global g => cases hx
 | func f => cases hx; exact .fn (a := []) (a' := []) (c := []) (c' := []) .nil .nil
theorem env_args {env : Tr Value} (henv : ∀ k x, env.get k = some x → Rep σ ρ x (a.tmps.getD k undef)) : ∀ {l : List Operand} {args : List Value}, argsOf (evalZ env) l = some args → RepL σ ρ args (l.map a.eval)
 | [], args, h => by simp only [argsOf, Option.some.injEq] at h; subst h; exact .nil
 | x :: l, args, h => by
  simp only [argsOf] at h
  split at h
  ·rename_i v hv
   split at h
   ·rename_i vs hvs
    cases h
    exact .cons (env_eval henv hv) (env_args henv hvs)
   ·cases h
  ·cases h
theorem put_getD (a : Act) {dst : Option Nat} {d k : Nat} {v : Value} (hd : dst = some d) (hn : d < a.tmps.size) : (a.put dst v).tmps.getD k undef = if k = d then v else a.tmps.getD k undef := by
 subst hd
 simp only [Act.put]
 rw [getD_set]
 simp [hn]
theorem Inv.set (k : Inv σ w0 ρ0 nx0 n st ρ a w) {dst : Option Nat} (hd : ∀ d, dst = some d → d < n) {v v' : Value} {h' : Heap} {nx' : Nat} {ρ' : Ren} {w' : World} (hle : ρ.le ρ') (hnew : New ρ ρ' st.nx) (hnx : st.nx ≤ nx') (hf : Fresh ρ' nx') (hv : Rep σ ρ' v v') (hw : WI σ w0 h' ρ' w') :
  Inv σ w0 ρ0 nx0 n (St.set st.env dst v h' nx') ρ' (a.put dst v') w' := by
 refine ⟨?_, ?_, ?_, ?_, ?_, Ren.le_trans k.le0 hle, fun m x hm => ?_, ?_⟩
 ·cases dst <;> exact k.defers
 ·cases dst with
  | none => exact k.size
  | some d => simp [Act.put, k.size]
 ·intro m x hm
  cases dst with
  | none => exact (k.env m x hm).mono hle
  | some d =>
   rw [put_getD a rfl (by rw [k.size]; exact hd d rfl)]
   rcases Tr.get_ins hm with ⟨h1, h2⟩ | ⟨h1, h2⟩
   ·rw [if_pos h1]
    cases h2
    exact hv
   ·rw [if_neg h1]
    exact (k.env m x h2).mono hle
 ·cases dst <;> exact hf
 ·cases dst <;> exact hw
 ·rcases hnew m x hm with h1 | h1
  ·exact k.new0 m x h1
  ·exact .inr (Nat.le_trans k.nx0 h1)
 ·cases dst <;> exact Nat.le_trans k.nx0 hnx
theorem Inv.skip (k : Inv σ w0 ρ0 nx0 n st ρ a w) {dst : Option Nat} (hd : ∀ d, dst = some d → d < n) : Inv σ w0 ρ0 nx0 n (St.set st.env dst undef st.heap st.nx) ρ (a.put dst undef) w :=
 k.set hd (Ren.le_refl _) (New.refl _ _) (Nat.le_refl _) k.fresh rep_undef k.wi
theorem Inv.drew (k : Inv σ w0 ρ0 nx0 n st ρ a w) : Inv σ w0 ρ0 nx0 n st ρ a w.drew := ⟨k.defers, k.size, k.env, k.fresh, k.wi.drew, k.le0, k.new0, k.nx0⟩
theorem wants_spec {env : Tr Value} (henv : ∀ k x, env.get k = some x → Rep σ ρ x (a.tmps.getD k undef)) {ops : Array Oper} {o : Oper} {b : Bool} (h : wantsZ ops o env = some b) : Region.wanted o (yielded ops a.tmps) = b := by
 unfold wantsZ at h
 split at h
 ·rename_i hg; cases h; simp [Region.wanted, hg]
 ·rename_i j want hg
  split at h
  ·rename_i d hjd
   split at h
   ·rename_i c hc
    have hv : a.tmps.getD d undef = .bool c := (henv d _ hc).bool
    have hw : Region.wanted o (yielded ops a.tmps) = (c == want) := by
     simp only [Region.wanted, hg, yielded_of hjd hv]
     cases c <;> cases want <;> rfl
    rw [hw]
    split at h
    ·cases h; rfl
    ·cases h; rfl
    ·rename_i h1 h2
     cases h
     cases c <;> cases want <;> first | rfl | (exfalso; simp_all)
   ·rename_i c hc
    cases h
    obtain ⟨c', hv, _⟩ := (henv d _ hc).tup_inv
    have hy : yielded ops a.tmps j = none := by
     unfold dstOf at hjd
     split at hjd
     ·rename_i o2 ho2
      unfold yielded
      simp only [ho2, Option.bind_some, hjd]
      rw [Array.getD_eq_getD_getElem?] at hv
      cases hl : a.tmps[d]? with
      | none => rfl
      | some v => rw [hl, Option.getD_some] at hv; subst hv; rfl
     ·cases hjd
    simp [Region.wanted, hg, hy]
   ·cases h
  ·cases h
theorem stepO_sound (hE : EnvOk E σ) (hc : CallOk E.P σ call) (k : Inv σ w0 ρ0 nx0 n st ρ a w) {o : Oper} (hd : ∀ d, o.dst = some d → d < n) {outs : List Out} (hv : stepO E call o st = .ok outs) {next : Act → World → Prop} {Q : Exit → Act → World → Prop}
  (hn : ∀ out ∈ outs, ∀ ρ' a' w', Inv σ w0 ρ0 nx0 n (St.set st.env o.dst out.1 out.2.1 out.2.2) ρ' a' w' → next a' w') : o.wp E.P a w next Q := by
 unfold stepO at hv
 split at hv
 ·rename_i args ha
  rw [stepF_eq] at hv
  refine step_sound hE hc k.wi k.fresh (env_args k.env ha) hv next Q fun out hout ρ' v' w' hle hnew hnx hf hrv hwi => ?_
  exact hn out hout ρ' _ w' (k.set hd hle hnew hnx hf hrv hwi)
 ·cases hv
theorem zops_sound (hE : EnvOk E σ) (hc : CallOk E.P σ call) {ops : Array Oper} {Q : Exit → Act → World → Prop} : ∀ (l : List Oper) (st : St) (ρ : Ren) (a : Act) (w : World) (outs : List St), (∀ o ∈ l, ∀ d, o.dst = some d → d < n) → Inv σ w0 ρ0 nx0 n st ρ a w →
  zops E call ops l st = .ok outs → (∀ st' ∈ outs, ∀ ρ' a' w', Inv σ w0 ρ0 nx0 n st' ρ' a' w' → Q .normal a' w') → wpList E.P ops Q l a w
 | [], st, ρ, a, w, outs, _, k, h, hQ => by
  simp only [zops] at h
  cases h
  exact hQ st (by simp) ρ a w k
 | o :: l, st, ρ, a, w, outs, hl, k, h, hQ => by
  have ih := zops_sound hE hc (ops := ops) (Q := Q) l
  have hd := hl o (by simp)
  have hl' : ∀ o ∈ l, ∀ d, o.dst = some d → d < n := fun x hx => hl x (by simp [hx])
  refine wpList_step fun Kw hKw => ?_
  unfold zops at h
  split at h
  ·rename_i hw
   rw [setK_eq] at h
   rw [wants_spec k.env hw]
   rw [if_neg (by decide)]
   exact hKw _ _ (ih _ _ _ _ _ hl' (k.skip hd) h hQ)
  ·rename_i hw
   rw [wants_spec k.env hw]
   rw [if_pos rfl]
   split at h
   ·rename_i v hh nx hs
    rw [setK_eq] at h
    refine stepO_sound hE hc k hd hs fun out hout ρ' a' w' k' => ?_
    simp only [List.mem_singleton] at hout
    subst hout
    exact hKw _ _ (ih _ _ _ _ _ hl' k' h hQ)
   ·rename_i outs' _ hs
    refine stepO_sound hE hc k hd hs fun out hout ρ' a' w' k' => ?_
    obtain ⟨r, hr, hsub⟩ := bindL_ok h out hout
    rw [setK_eq] at hr
    exact hKw _ _ (ih _ _ _ _ _ hl' k' hr fun st' hst' => hQ st' (hsub st' hst'))
   ·cases h
  ·cases h
theorem stepG_comm' {b : Frame} {a : Act} {kk : List Item} {cs : List Frame} {w : World} {ops : Array Oper} {i : Nat} {rest : List Nat} {o : Oper} {cases : Array CommCase} {blocking : Bool} {shape : CommShape} {w' : World} (ho : ops[i]? = some o) (hw : Region.wanted o (yielded ops a.tmps) = true)
  (hr : (execOp a.eval o).run E.P w = .ok (.comm cases blocking shape) w') :
  ∃ es, stepG E.P true (Go.Conc.G (b.at a (.inRegion ops (i :: rest) :: kk)) cs) w = .comm (Go.Conc.G (b.at a (.inRegion ops (i :: rest) :: kk)) cs) cases blocking shape w' es := by
 rw [Go.Conc.stepG_oper ho hw]
 simp [stepG.apply, hr, Go.Conc.G, Frame.at, GStep.after]
theorem setChan_put (w : World) (c cap : Nat) (buf : Array Value) (cl : Bool) (s r : Nat) (tm : Bool) : w.setChan c cap buf cl s r tm = put w c (.chan cap buf cl s r tm) := rfl
theorem WI.writeChan (k : WI σ w0 h ρ w) {m b c cap s r : Nat} {buf buf' : List Value} {l : List Value} (hn : ρ m = some (b, c)) (ho : h.get m = some (.chan cap l)) (hb : RepL σ ρ buf buf') :
  WI σ w0 (h.ins m (some (.chan cap buf))) ρ (put w b (.chan cap buf'.toArray false s r false)) := by
 refine k.write hn ⟨_, ho, rfl⟩ (fun _ _ _ e => by cases e) (fun m o hm hg => ?_) (fun o hg => ?_)
 ·rcases Heap.ins_get hg with ⟨e, _⟩ | ⟨_, e⟩
  ·exact absurd e hm
  ·exact e
 ·rcases Heap.ins_get hg with ⟨_, rfl⟩ | ⟨e, _⟩
  ·exact ⟨rfl, buf', s, r, rfl, hb⟩
  ·exact absurd rfl e
theorem sel_sound {ops : Array Oper} {id : Nat} {o : Oper} {rest : List Oper} (hl : ops.toList = o :: rest) (k : Inv σ w0 ρ0 nx0 n st ρ a w) (hd : ∀ d, o.dst = some d → d < n) {v : Value} {h' : Heap} (hv : selZ E.P o st = some (v, h')) {Q : Exit → Act → World → Prop}
  (hn : ∀ a' w', Inv σ w0 ρ0 nx0 n (St.set st.env o.dst v h' st.nx) ρ a' w' → wpList E.P ops Q rest a' w') : (Code.region id ops false).wp E.P Q a w := by
 have h0 : ops[0]? = some o := by
  have : ops.toList[0]? = some o := by rw [hl]; rfl
  simpa using this
 have hsize : ops.size = rest.length + 1 := by rw [← Array.length_toList, hl]; rfl
 have hrest : ∀ j, rest[j]? = ops[1 + j]? := fun j => by
  have : ops.toList[1 + j]? = rest[j]? := by rw [hl, Nat.add_comm]; rfl
  rw [← this]; simp
 have go : ∀ (v' : Value) (w' : World), Region.wanted o (yielded ops a.tmps) = true → (∀ (b : Frame) (kk : List Item) (cs : List Frame), Go.step E.P (lone (b.at a (.inRegion ops (List.range ops.size) :: kk)) cs w) = .next (lone ((b.at a (.inRegion ops (List.range ops.size) :: kk)).finish v') cs w')) → Rep σ ρ v v' → WI σ w0 h' ρ w' → (Code.region id ops false).wp E.P Q a w := by
  intro v' w' _ hstep hrv hwi b kk cs
  have k' := k.set (dst := o.dst) hd (Ren.le_refl _) (New.refl _ _) (Nat.le_refl _) k.fresh hrv hwi
  have hw := hn _ _ k'
  rw [← wpOps_eq_wpList rest 1 hrest] at hw
  obtain ⟨e, a', w'', q, r⟩ := wp_ops _ _ _ hw b kk cs
  refine ⟨e, a', w'', q, .of_steps (.head step_region (.one (hstep b kk cs))) ?_⟩
  have hr : List.range ops.size = 0 :: List.range' 1 rest.length := by
   rw [hsize, List.range_eq_range', List.range'_succ]
  rw [hr, Frame.finish_at, h0]
  exact r
 obtain ⟨dst, op, type, pos, after, guard⟩ := o
 unfold selZ at hv
 simp only at hv
 split at hv
 ·rename_i cs
  have hwant : Region.wanted ⟨dst, .select cs false, type, pos, after, none⟩ (yielded ops a.tmps) = true := by simp [Region.wanted]
  split at hv
  ·rename_i c hcs
   have hcs : cs = #[c] := by apply Array.ext'; rw [hcs]
   subst hcs
   split at hv
   ·rename_i m z hch hz
    obtain ⟨inf, hi, hzi, hp⟩ := zeroZ_spec hz
    have hzero : (zeroValue c.elem).run E.P w = .ok z w := by simp [zeroValue, typeInfo, hi, hzi]
    have hrz : Rep σ ρ z z := rep_of_cells hp
    obtain ⟨b0, c0, hnm, hce⟩ := (env_eval k.env hch).chan_inv
    have hr0 : List.range ops.size = 0 :: List.range' 1 rest.length := by
     rw [hsize, List.range_eq_range', List.range'_succ]
    have comm : ∀ (b : Frame) (kk : List Item) (cs' : List Frame), ∃ es, stepG E.P true (Go.Conc.G (b.at a (.inRegion ops (List.range ops.size) :: kk)) cs') w = .comm (Go.Conc.G (b.at a (.inRegion ops (List.range ops.size) :: kk)) cs') #[{ chan := .chan (some b0), send := c.send.map a.eval, zero := z }] false .select w es := fun b kk cs' => by
     rw [hr0]
     refine stepG_comm' h0 hwant ?_
     simp only [execOp]
     rw [Array.mapM_eq_mapM_toList]
     simp [hce, hzero]
    split at hv
    ·-- a receive
     rename_i cap buf ho hsend
     obtain ⟨buf', s, r, hx, hb⟩ := k.wi.rel m b0 c0 _ hnm ho
     split at hv
     ·cases hv
      cases hb
      refine go (.tuple #[goInt (-1), .bool false, z]) w hwant (fun b kk cs' => ?_) (.tup_mk (.cons (.plain rfl) (.cons (.plain rfl) (.cons hrz .nil)))) k.wi
      obtain ⟨es, hes⟩ := comm b kk cs'
      rw [hsend] at hes
      exact Go.Conc.step_lone_select_default hes hx
     ·rename_i x r2
      cases hv
      cases hb with
      | cons hx1 hr1 =>
       rename_i y r3
       refine go (.tuple #[goInt 0, .bool true, y]) _ hwant (fun b kk cs' => ?_) (.tup_mk (.cons (.plain rfl) (.cons (.plain rfl) (.cons hx1 .nil)))) (k.wi.writeChan (s := s) (r := r + 1) hnm ho hr1)
       obtain ⟨es, hes⟩ := comm b kk cs'
       rw [hsend] at hes
       have := Go.Conc.step_lone_select_recv_buf hes hx (by simp)
       simpa [setChan_put, lone, Go.Conc.solo, Go.Conc.G] using this
    ·-- a send
     rename_i cap buf s0 ho hsend
     obtain ⟨buf', s, r, hx, hb⟩ := k.wi.rel m b0 c0 _ hnm ho
     have hbl := hb.length
     split at hv
     ·rename_i x hxv
      have hrx := env_eval k.env hxv
      split at hv
      ·rename_i hroom
       have hroom : buf.length < cap := Nat.le_of_ble_eq_true hroom
       cases hv
       refine go (.tuple #[goInt 0, .bool false]) _ hwant (fun b kk cs' => ?_) (.tup_mk (.cons (.plain rfl) (.cons (.plain rfl) .nil))) (k.wi.writeChan (s := s + 1) (r := r) hnm ho (hb.append (.cons hrx .nil)))
       obtain ⟨es, hes⟩ := comm b kk cs'
       rw [hsend] at hes
       have := Go.Conc.step_lone_select_send_room hes hx (by simpa [← hbl] using hroom)
       simpa [setChan_put, lone, Go.Conc.solo, Go.Conc.G] using this
      ·rename_i hroom
       have hroom : ¬ buf.length < cap := fun e => by
        have : Nat.blt buf.length cap = true := Nat.ble_eq_true_of_le e
        rw [this] at hroom; cases hroom
       cases hv
       refine go (.tuple #[goInt (-1), .bool false]) w hwant (fun b kk cs' => ?_) (.tup_mk (.cons (.plain rfl) (.cons (.plain rfl) .nil))) k.wi
       obtain ⟨es, hes⟩ := comm b kk cs'
       rw [hsend] at hes
       exact Go.Conc.step_lone_select_send_full hes hx (by simp [← hbl]; omega)
     ·cases hv
    ·cases hv
   ·cases hv
  ·cases hv
 ·cases hv
theorem zregion_sound (hE : EnvOk E σ) (hc : CallOk E.P σ call) {ops : Array Oper} {id : Nat} {Q : Exit → Act → World → Prop} {outs : List St} (hok : ∀ o ∈ ops.toList, ∀ d, o.dst = some d → d < n) (k : Inv σ w0 ρ0 nx0 n st ρ a w) (h : zregion E call ops st = .ok outs)
  (hQ : ∀ st' ∈ outs, ∀ ρ' a' w', Inv σ w0 ρ0 nx0 n st' ρ' a' w' → Q .normal a' w') : (Code.region id ops false).wp E.P Q a w := by
 unfold zregion at h
 split at h
 ·rename_i hl
  cases h
  refine wp_region_list ?_
  rw [hl]
  exact hQ st (by simp) ρ a w k
 ·rename_i o rest hl
  have hd := hok o (by rw [hl]; simp)
  have hd' : ∀ o ∈ rest, ∀ d, o.dst = some d → d < n := fun x hx => hok x (by rw [hl]; simp [hx])
  split at h
  ·split at h
   ·rename_i v h' hs
    rw [setK_eq] at h
    exact sel_sound hl k hd hs fun a' w' k' => zops_sound hE hc rest _ ρ a' w' outs hd' k' h hQ
   ·cases h
  ·refine wp_region_list ?_
   rw [hl]
   exact zops_sound hE hc (o :: rest) st ρ a w outs (by rw [← hl]; exact hok) k h hQ
def DrawOk (E : Env) (σ : Nat → Nat → Value) (draw : DrawZ) : Prop :=
 ∀ (w0 : World) (ρ0 : Ren) (nx0 n : Nat) (ops : Array Oper) (st : St) (outs : List St), draw ops st = .ok outs → opsOk n ops.toList = true → n ≤ 1000000 → ∀ (ρ : Ren) (a : Act) (w : World) (id : Nat) (Q : Exit → Act → World → Prop), Inv σ w0 ρ0 nx0 n st ρ a w →
  (∀ st' ∈ outs, ∀ ρ' a' w', Inv σ w0 ρ0 nx0 n st' ρ' a' w' → Q .normal a' w') → (Code.region id ops true).wp E.P Q a w
def exOf : Ex → Exit
 | .normal => .normal
 | .ret => .ret
 | .exit i => .exit i
theorem zcode_sound (hE : EnvOk E σ) (hc : CallOk E.P σ call) {draw : DrawZ} (hdr : DrawOk E σ draw) (hn : n ≤ 1000000) : ∀ (c : Code) (Q : Exit → Act → World → Prop) (st : St) (ρ : Ren) (a : Act) (w : World) (outs : List (Ex × St)), codeOkZ n c = true → Inv σ w0 ρ0 nx0 n st ρ a w →
  zcode E draw call c st = .ok outs → (∀ x ∈ outs, ∀ ρ' a' w', Inv σ w0 ρ0 nx0 n x.2 ρ' a' w' → Q (exOf x.1) a' w') → c.wp E.P Q a w
 | .skip, Q, st, ρ, a, w, outs, _, k, h, hQ => by
  simp only [zcode] at h
  cases h
  exact wp_skip (hQ (.normal, st) (by simp) ρ a w k)
 | .region id ops d, Q, st, ρ, a, w, outs, hok, k, h, hQ => by
  simp only [zcode] at h
  simp only [codeOkZ] at hok
  cases d with
  | false =>
   simp only at h
   split at h
   ·rename_i l hl
    cases h
    refine zregion_sound hE hc (opsOk_spec hok) k hl fun st' hst' ρ' a' w' k' => ?_
    exact hQ (.normal, st') (List.mem_map.2 ⟨st', hst', rfl⟩) ρ' a' w' k'
   ·cases h
  | true =>
   simp only at h
   split at h
   ·rename_i l hl
    cases h
    refine hdr w0 ρ0 nx0 n ops st l hl hok hn ρ a w id Q k fun st' hst' ρ' a' w' k' => ?_
    exact hQ (.normal, st') (List.mem_map.2 ⟨st', hst', rfl⟩) ρ' a' w' k'
   ·cases h
 | .seq x y, Q, st, ρ, a, w, outs, hok, k, h, hQ => by
  simp only [codeOkZ] at hok
  split at hok
  ·rename_i hok1
   simp only [zcode] at h
   split at h
   ·rename_i l hl
    refine wp_seq (zcode_sound hE hc hdr hn x _ st ρ a w l hok1 k hl fun z hz ρ' a' w' k' => ?_)
    obtain ⟨r, hr, hsub⟩ := bindL_ok h z hz
    obtain ⟨e, st'⟩ := z
    cases e with
    | normal => exact zcode_sound hE hc hdr hn y Q st' ρ' a' w' r hok k' hr fun u hu => hQ u (hsub u hu)
    | ret =>
     simp only at hr
     cases hr
     exact hQ (.ret, st') (hsub _ (by simp)) ρ' a' w' k'
    | exit i =>
     simp only at hr
     cases hr
     exact hQ (.exit i, st') (hsub _ (by simp)) ρ' a' w' k'
   ·cases h
  ·cases hok
 | .cond c x y, Q, st, ρ, a, w, outs, hok, k, h, hQ => by
  simp only [codeOkZ] at hok
  split at hok
  ·rename_i hok1
   simp only [zcode] at h
   split at h
   ·rename_i hcv
    exact wp_cond_true (env_eval k.env hcv).bool (zcode_sound hE hc hdr hn x Q st ρ a w outs hok1 k h hQ)
   ·rename_i hcv
    exact wp_cond_false (env_eval k.env hcv).bool (zcode_sound hE hc hdr hn y Q st ρ a w outs hok k h hQ)
   ·cases h
  ·cases hok
 | .block id x, Q, st, ρ, a, w, outs, hok, k, h, hQ => by
  simp only [codeOkZ] at hok
  simp only [zcode] at h
  split at h
  ·rename_i l hl
   cases h
   refine wp_block (zcode_sound hE hc hdr hn x _ st ρ a w l hok k hl fun z hz ρ' a' w' k' => ?_)
   have hq := hQ _ (List.mem_map.2 ⟨z, hz, rfl⟩) ρ' a' w'
   obtain ⟨e, st'⟩ := z
   cases e with
   | normal => exact hq k'
   | ret => exact hq k'
   | exit i =>
    cases hi : Nat.beq i id with
    | true =>
     simp only [hi] at hq
     have := Nat.eq_of_beq_eq_true hi
     subst this
     simp only [exOf, Exit.inBlock, if_true]
     exact hq k'
    | false =>
     simp only [hi] at hq
     have hne : i ≠ id := fun e => by subst e; rw [Nat.beq_refl] at hi; cases hi
     simp only [exOf, Exit.inBlock, if_neg hne]
     exact hq k'
  ·cases h
 | .loop x, Q, st, ρ, a, w, outs, hok, k, h, hQ => by
  simp only [codeOkZ] at hok
  simp only [zcode] at h
  let J : Nat → Act → World → Prop := fun m a w => ∃ st ρ outs, Inv σ w0 ρ0 nx0 n st ρ a w ∧ zloop (zcode E draw call x) m st = .ok outs ∧ ∀ z ∈ outs, ∀ ρ' a' w', Inv σ w0 ρ0 nx0 n z.2 ρ' a' w' → Q (exOf z.1) a' w'
  refine wp_loop (fun a w => ∃ m, J m a w) (leastOf J) ⟨_, st, ρ, outs, k, h, hQ⟩ fun a w hJ => ?_
  obtain ⟨st, ρ, outs, k, h, hQ⟩ := leastOf_spec hJ
  cases hm : leastOf J a w with
  | zero => rw [hm] at h; cases h
  | succ m =>
   rw [hm] at h
   simp only [zloop] at h
   split at h
   ·rename_i l hl
    refine zcode_sound hE hc hdr hn x _ st ρ a w l hok k hl fun z hz ρ' a' w' k' => ?_
    obtain ⟨r, hr, hsub⟩ := bindL_ok h z hz
    obtain ⟨e, st'⟩ := z
    cases e with
    | normal =>
     have hJ' : J m a' w' := ⟨st', ρ', r, k', hr, fun z hz => hQ z (hsub z hz)⟩
     exact ⟨⟨m, hJ'⟩, Nat.lt_of_le_of_lt (leastOf_le hJ') (Nat.lt_succ_self m)⟩
    | ret =>
     simp only at hr
     cases hr
     exact hQ (.ret, st') (hsub _ (by simp)) ρ' a' w' k'
    | exit i =>
     simp only at hr
     cases hr
     exact hQ (.exit i, st') (hsub _ (by simp)) ρ' a' w' k'
   ·cases h
 | .exit id, Q, st, ρ, a, w, outs, _, k, h, hQ => by
  simp only [zcode] at h
  cases h
  exact wp_exit (hQ (.exit id, st) (by simp) ρ a w k)
 | .ret, Q, st, ρ, a, w, outs, _, k, h, hQ => by
  simp only [zcode] at h
  cases h
  exact wp_ret (hQ (.ret, st) (by simp) ρ a w k)
 | .rangeFunc .., Q, st, ρ, a, w, outs, _, k, h, hQ => by simp only [zcode] at h; cases h
 | .scope _, Q, st, ρ, a, w, outs, _, k, h, hQ => by simp only [zcode] at h; cases h
 | .label _, Q, st, ρ, a, w, outs, _, k, h, hQ => by simp only [zcode] at h; cases h
 | .goto _, Q, st, ρ, a, w, outs, _, k, h, hQ => by simp only [zcode] at h; cases h
 | .refuse _, Q, st, ρ, a, w, outs, _, k, h, hQ => by simp only [zcode] at h; cases h
theorem initZ_get : ∀ (l : List Value) (m : Nat) (t : Tr Value) (k : Nat) (x : Value), (initZ l m t).get k = some x → (m ≤ k ∧ l[k - m]? = some x) ∨ (¬ (m ≤ k ∧ k < m + l.length) ∧ t.get k = some x)
 | [], m, t, k, x, h => by
  simp only [initZ] at h
  exact .inr ⟨by simp, h⟩
 | v :: l, m, t, k, x, h => by
  simp only [initZ, forceV_eq] at h
  rw [Tr.insF_eq, Tr.insK_eq] at h
  rcases initZ_get l (m + 1) _ k x h with ⟨h1, h2⟩ | ⟨h1, h2⟩
  ·refine .inl ⟨by omega, ?_⟩
   rw [show k - m = (k - (m + 1)) + 1 by omega]
   simpa using h2
  ·rcases Tr.get_insK 40 t m (some v) k x h2 with ⟨h3, h4⟩ | ⟨h3, h4⟩
   ·subst h3
    refine .inl ⟨Nat.le_refl _, ?_⟩
    simp only [Nat.sub_self, List.getElem?_cons_zero]; exact h4
   ·refine .inr ⟨fun hh => h1 ⟨by omega, ?_⟩, h4⟩
    have := hh.2
    simp only [List.length_cons] at this
    omega
theorem resZ_sound (k : Inv σ w0 ρ0 nx0 n st ρ a w) {r : ResultVar} {v : Value} (hr : resZ E.P st r = some v) : ∃ v', Rep σ ρ v v' ∧ (resSem a.tmps r).run E.P w = .ok v' w := by
 cases r with
 | tmp t => exact ⟨_, k.env t v hr, rfl⟩
 | cell x t =>
  simp only [resZ] at hr
  split at hr
  ·rename_i m off hx
   obtain ⟨b, c, hn, he⟩ := (k.env x _ hx).ptr_inv
   obtain ⟨v', h1, h2⟩ := loadZ_sound k.wi hn hr
   refine ⟨v', h2, ?_⟩
   simp only [resSem]
   rw [he]
   simp [asAddr, h1]
  ·cases hr
theorem resAll_sound (k : Inv σ w0 ρ0 nx0 n st ρ a w) : ∀ {rs : List ResultVar} {l : List Value}, resAll E.P st rs = some l → ∃ vs, RepL σ ρ l vs ∧ (rs.mapM (resSem a.tmps)).run E.P w = .ok vs w
 | [], l, hr => by simp only [resAll, Option.some.injEq] at hr; subst hr; exact ⟨[], .nil, rfl⟩
 | r :: rs, l, hr => by
  simp only [resAll] at hr
  split at hr
  ·rename_i s ss hs hss
   simp only [Option.some.injEq] at hr; subst hr
   obtain ⟨v, hv, hrun⟩ := resZ_sound k hs
   obtain ⟨vs, hvs, hruns⟩ := resAll_sound k hss
   refine ⟨v :: vs, .cons hv hvs, ?_⟩
   rw [List.mapM_cons, Sem.run_bind, hrun]
   simp only [Result.andThen_ok, Sem.run_bind, hruns]
   rfl
  ·cases hr
theorem pack_sound (k : Inv σ w0 ρ0 nx0 n st ρ a w) {fn : Func} {l : List Value} (hr : resAll E.P st fn.results.toList = some l) : ∃ v, Rep σ ρ (pack l) v ∧ (results fn a.tmps).run E.P w = .ok v w := by
 obtain ⟨vs, hvs, hrun⟩ := resAll_sound k hr
 have hr' : results fn a.tmps = (do let vs ← fn.results.mapM (resSem a.tmps); pure (if h : vs.size = 1 then vs[0] else .tuple vs)) := by
  unfold results
  congr 1
 have hp : (results fn a.tmps).run E.P w = .ok (packVals vs) w := by
  rw [hr', Array.mapM_eq_mapM_toList, map_eq_pure_bind, bind_assoc]
  simp only [pure_bind]
  rw [Sem.run_bind, hrun]
  simp only [Result.andThen_ok, Sem.run_pure]
  match vs with
  | [] => rfl
  | [v] => rfl
  | _ :: _ :: _ => rfl
 refine ⟨_, ?_, hp⟩
 match hvs with
 | .nil => exact .tup .nil
 | .cons a .nil => exact a
 | .cons a (.cons b t) => exact .tup (.cons a (.cons b t))
theorem zfun_sound (hE : EnvOk E σ) {draw : (FuncId → List Value → Heap → Nat → R (List Out)) → DrawZ} (hdr : ∀ call, CallOk E.P σ call → DrawOk E σ (draw call)) : ∀ d, CallOk E.P σ (zfun E draw d)
 | 0, w0, f, args, h, nx, outs, ho, _, _, _, _, _, _ => by simp only [zfun] at ho; cases ho
 | d + 1, w0, f, args, h, nx, outs, ho, ρ, vs, w, hf, ha, hw => by
  have ih := zfun_sound hE hdr d
  simp only [zfun] at ho
  split at ho
  ·rename_i p hp
   exact hE.prim f p hp w0 f args h nx outs (by simp only [if_true]; revert ho; cases p h nx args <;> intro ho <;> first | exact ho | cases ho) ρ vs w hf ha hw
  ·split at ho
   ·rename_i fn hfn
    split at ho
    ·rename_i c hbody hle
     have hle := Nat.le_of_ble_eq_true hle
     split at ho
     ·rename_i hok
      simp only [Bool.and_eq_true] at hok
      obtain ⟨hok, hnb⟩ := hok
      have hnb := Nat.le_of_ble_eq_true hnb
      split at ho
      ·rename_i l hl
       refine calls_of_wp hfn hbody ?_
       have hlen := ha.length
       have k0 : Inv σ w0 ρ nx fn.ntmps ⟨initZ args 0 .nil, h, nx⟩ ρ { tmps := vs.toArray ++ Array.replicate (fn.ntmps - vs.toArray.size) undef, defers := [] } w := by
        refine ⟨rfl, by simp; omega, fun m x hm => ?_, hf, hw, Ren.le_refl _, New.refl _ _, Nat.le_refl _⟩
        rcases initZ_get args 0 .nil m x hm with ⟨_, h2⟩ | ⟨_, h2⟩
        ·simp only [Nat.sub_zero] at h2
         obtain ⟨y, hy, hr⟩ := ha.get h2
         have hlt := (List.getElem?_eq_some_iff.1 hy).1
         rw [Array.getD_eq_getD_getElem?, Array.getElem?_append_left (by simpa using hlt)]
         simp [hy, hr]
        ·rw [Tr.get_nil] at h2; cases h2
       have key : ∀ x ∈ l, ∀ ρ' a' w', Inv σ w0 ρ nx fn.ntmps x.2 ρ' a' w' → ∀ r, zret E.P fn x = .ok r → (∀ y ∈ r, y ∈ outs) → a'.defers = [] ∧ ∃ v, (results fn a'.tmps).run E.P w' = .ok v w' ∧
         ∃ out ∈ outs, ∃ v1 ρ1, Ending.returned v = .returned v1 ∧ ρ.le ρ1 ∧ New ρ ρ1 nx ∧ nx ≤ out.2.2 ∧ Fresh ρ1 out.2.2 ∧ Rep σ ρ1 out.1 v1 ∧ WI σ w0 out.2.1 ρ1 w' := by
        intro x hx ρ' a' w' k' r hr hsub
        refine ⟨k'.defers, ?_⟩
        obtain ⟨e, st⟩ := x
        have go : (match resAll E.P st fn.results.toList with | some vs => .ok [(pack vs, st.heap, st.nx)] | none => .no ["results"] : R (List Out)) = .ok r → ∃ v, (results fn a'.tmps).run E.P w' = .ok v w' ∧
          ∃ out ∈ outs, ∃ v1 ρ1, Ending.returned v = .returned v1 ∧ ρ.le ρ1 ∧ New ρ ρ1 nx ∧ nx ≤ out.2.2 ∧ Fresh ρ1 out.2.2 ∧ Rep σ ρ1 out.1 v1 ∧ WI σ w0 out.2.1 ρ1 w' := fun hr => by
         split at hr
         ·rename_i vs' hvs
          cases hr
          obtain ⟨v, hv, hrun⟩ := pack_sound k' hvs
          exact ⟨v, hrun, (pack vs', st.heap, st.nx), hsub _ (by simp), v, ρ', rfl, k'.le0, k'.new0, k'.nx0, k'.fresh, hv, k'.wi⟩
         ·cases hr
        cases e with
        | normal => exact go hr
        | ret => exact go hr
        | exit i => unfold zret at hr; cases hr
       refine zcode_sound hE ih (hdr _ ih) hnb c _ _ ρ _ w l hok k0 hl fun x hx ρ' a' w' k' => ?_
       obtain ⟨r, hr, hsub⟩ := bindL_ok ho x hx
       have := key x hx ρ' a' w' k' r hr hsub
       obtain ⟨e, st⟩ := x
       cases e with
       | normal => exact this
       | ret => exact this
       | exit i => unfold zret at hr; cases hr
      ·cases ho
     ·cases ho
    ·cases ho
   ·cases ho
end
end Go.Z
end
