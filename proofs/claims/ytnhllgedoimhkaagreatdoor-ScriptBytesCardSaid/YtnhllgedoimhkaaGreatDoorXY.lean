/- One part of a proof: an evaluator of the model, shown right, and contracts that it yields. No condition beyond those that each theorem names. -/
import Derived.Test.YtnhllgedoimhkaaGreatDoorXZ
set_option linter.unusedSimpArgs false
set_option linter.unusedVariables false
set_option linter.unusedSectionVars false
set_option linter.deprecated false
section
namespace Go.X
section
variable {P : Program}
theorem CallN.lend (id : Nat) {f : FuncId} {args : List Value} {V : View} {mem : Nat → Option Res} {K : SV → View → (Nat → Option Res) → Prop} {b : Nat} {t : TypeId} {cells : List Value} (hm : mem id = some (.box b t cells))
  (hx : V.le (V.add b cells) → CallN P f args (V.add b cells) (del mem id) (fun s _ mem' => (∃ x, s = .v x) ∧ mem' = del mem id ∧ K s V mem)) : CallN P f args V mem K := by
 refine ⟨fun w hw => ?_⟩
 have hbox : Res.ok w V (.box b t cells) := hw.ok id _ hm
 obtain ⟨hcells, hnone⟩ := hbox
 have hle : V.le (V.add b cells) := View.add_le hnone
 have hdel : ∀ i r, del mem id i = some r → i ≠ id ∧ mem i = some r := fun i r hi => by
  by_cases h : i = id
  ·subst h; simp [del] at hi
  ·exact ⟨h, by rwa [del_ne _ h] at hi⟩
 have hfree : ∀ i r, del mem id i = some r → r.blk ≠ some b := fun i r hi hb => by
  obtain ⟨h1, h2⟩ := hdel i r hi
  exact hw.apart i id r _ b h1 h2 hm hb rfl
 have hpre : MPre (del mem id) (V.add b cells) w := by
  refine ⟨fun b' o v hv => ?_, fun i r hi => ?_, fun i j r r' b' hij hi hj => hw.apart i j r r' b' hij (hdel i r hi).2 (hdel j r' hj).2⟩
  ·unfold View.add at hv
   split at hv
   ·rename_i he
    subst he
    rw [cell_box hcells]; exact hv
   ·exact hw.sub b' o v hv
  ·obtain ⟨h1, h2⟩ := hdel i r hi
   refine (hw.ok i r h2).keep (fun _ _ => rfl) fun b' hb' o hn => ?_
   have : b' ≠ b := fun e => hfree i r hi (by rw [hb', e])
   unfold View.add
   rw [if_neg this]; exact hn
 refine ((hx hle).run w hpre).mono fun e w' ⟨v, s, V', mem', he, hv, ⟨⟨x, hs⟩, hmem, hK⟩, hsame, hp, hk, hg, hnew⟩ => ?_
 subst hs
 subst hmem
 have hVV : V.le V' := View.le_trans hle hg.1
 have hblt : b < w.heap.size := by
  have := (Array.getElem?_eq_some_iff.1 hcells).1
  exact this
 have hbk : w'.heap[b]? = w.heap[b]? := hk.block b hblt (fun ⟨i, r, hi, hb⟩ => hfree i r hi hb)
 refine ⟨v, .v x, V, mem, he, hv, hK, fun _ _ h => h, ⟨fun b' o u hu => hp.sub b' o u (hVV b' o u hu), fun i r hi => ?_, hw.apart⟩, ?_, ⟨View.le_refl _, fun b' o u hu => .inl hu⟩, fun b' hb' => .inl hb'⟩
 ·by_cases hid : i = id
  ·subst hid
   rw [hm, Option.some.injEq] at hi
   subst hi
   exact ⟨by rw [hbk]; exact hcells, hnone⟩
  ·have h2 := hp.ok i r (by rw [del_ne _ hid]; exact hi)
   have down : ∀ b' o, V' b' o = none → V b' o = none := fun b' o hn => by
    cases hv2 : V b' o with
    | none => rfl
    | some u => rw [hVV b' o u hv2] at hn; cases hn
   refine h2.keep (fun _ _ => rfl) fun b' _ o hn => down b' o hn
 ·exact ⟨hk.os, hk.tape, hk.output, hk.size, fun k hk1 hk2 => hk.block k hk1 (fun ⟨i, r, hi, hb⟩ => hk2 ⟨i, r, (hdel i r hi).2, hb⟩)⟩
end
theorem AppN.toR {V : View} {mem : Nat → Option Res} {g : Option Nat} {v : Value} {n size bytes m cap : Nat} {base : Option Addr} {K : Value → Nat → View → Prop} (n' : Nat) (hn' : n + m = n') (xs news : List Value) (hx : V.cells v xs) (hxl : xs.length = n * size)
  (hn : m = 0 ∨ V.cells (.slice base m cap) news) (hnl : news.length = m * size) (h1 : allOne news = true) (hm : n' ≤ 10000000) (hb : bytes ≤ 100000)
  (k : ∀ base cap V', V.le V' → V'.cells (.slice base n' cap) (xs ++ news) → n' ≤ cap → K (.slice base n' cap) n' V') : AppN V mem g v n size bytes (.slice base m cap) K := by
 subst hn'
 refine ⟨⟨xs, news, m, hx, hxl, .inl ⟨_, _, rfl⟩, hn, hnl, allOne_spec h1, Nat.le_trans hm (by decide), ?_, fun v' V' hle hc hv' _ => ?_⟩⟩
 ·exact Nat.le_trans (Nat.mul_le_mul hm hb) (by decide)
 ·obtain ⟨base', cap', rfl, hcap⟩ := hv'
  exact k base' cap' V' hle hc hcap
section
variable {P : Program}
theorem LoadN.own {V : View} {mem : Nat → Option Res} {b off n : Nat} {K : List Value → Prop} (id : Nat) {t : TypeId} {cells l : List Value} (hm : mem id = some (.box b t cells)) (hle : off + n ≤ cells.length) (hl : (cells.drop off).take n = l) (hK : K l) : LoadN V mem b off n K :=
 ⟨⟨l, by rw [← hl, List.length_take, List.length_drop]; omega, .inr ⟨id, t, cells, hm, hle, hl.symm⟩, hK⟩⟩
theorem StoN.own {mem : Nat → Option Res} {b off : Nat} {cells : List Value} {K : (Nat → Option Res) → Prop} (id : Nat) {t : TypeId} {old : List Value} (hm : mem id = some (.box b t old)) (hle : off + cells.length ≤ old.length) (hK : K (upd mem id (.box b t (setAt old off cells)))) : StoN mem b off cells K :=
 ⟨⟨id, t, old, hm, hle, hK⟩⟩
theorem CallN.lendP (id : Nat) {f : FuncId} {args : List Value} {V : View} {mem : Nat → Option Res} {K : SV → View → (Nat → Option Res) → Prop} {b : Nat} {t : TypeId} {pre ex : List Value} (hm : mem id = some (.box b t (pre ++ ex)))
    (hx : V.le (V.add b pre) → CallN P f args (V.add b pre) (del mem id) (fun s V' mem' => (∃ x, s = .v x) ∧ mem' id = none ∧ ((∀ o u, V' b o = some u → pre[o]? = some u) → V.le (V'.cut b) → K s (V'.cut b) (upd mem' id (.box b t (pre ++ ex)))))) : CallN P f args V mem K := by
  refine ⟨fun w hw => ?_⟩
  have hbox : Res.ok w V (.box b t (pre ++ ex)) := hw.ok id _ hm
  obtain ⟨hcells, hnone⟩ := hbox
  have hle : V.le (V.add b pre) := View.add_le hnone
  have hdel : ∀ i r, del mem id i = some r → i ≠ id ∧ mem i = some r := fun i r hi => by
    by_cases h : i = id
    · subst h; simp [del] at hi
    · exact ⟨h, by rwa [del_ne _ h] at hi⟩
  have hfree : ∀ i r, del mem id i = some r → r.blk ≠ some b := fun i r hi hb => by
    obtain ⟨h1, h2⟩ := hdel i r hi
    exact hw.apart i id r _ b h1 h2 hm hb rfl
  have hpre : MPre (del mem id) (V.add b pre) w := by
    refine ⟨fun b' o v hv => ?_, fun i r hi => ?_, fun i j r r' b' hij hi hj => hw.apart i j r r' b' hij (hdel i r hi).2 (hdel j r' hj).2⟩
    · unfold View.add at hv
      split at hv
      · rename_i he
        subst he
        rw [cell_box hcells, List.getElem?_append_left (List.getElem?_eq_some_iff.1 hv).1]; exact hv
      · exact hw.sub b' o v hv
    · obtain ⟨h1, h2⟩ := hdel i r hi
      refine (hw.ok i r h2).keep (fun _ _ => rfl) fun b' hb' o hn => ?_
      have : b' ≠ b := fun e => hfree i r hi (by rw [hb', e])
      unfold View.add
      rw [if_neg this]; exact hn
  refine ((hx hle).run w hpre).mono fun e w' ⟨v, s, V', mem', he, hv, ⟨⟨x, hs⟩, hmem, hK⟩, hsame, hp, hk, hg, hnew⟩ => ?_
  subst hs
  have hblt : b < w.heap.size := by
    have := (Array.getElem?_eq_some_iff.1 hcells).1
    exact this
  have hMb : ¬ blksM (del mem id) b := fun ⟨i, r, hi, hb⟩ => hfree i r hi hb
  have hbk : w'.heap[b]? = w.heap[b]? := hk.block b hblt hMb
  have hout : ∀ i r, mem' i = some r → r.blk ≠ some b := fun i r hi hb => by
    rcases hnew b ⟨i, r, hi, hb⟩ with h1 | h1
    · exact hMb h1
    · omega
  have hup : ∀ i r, upd mem' id (.box b t (pre ++ ex)) i = some r → (i = id ∧ r = .box b t (pre ++ ex)) ∨ (i ≠ id ∧ mem' i = some r) := fun i r hi => by
    by_cases h : i = id
    · subst h; rw [upd_same, Option.some.injEq] at hi; exact .inl ⟨rfl, hi.symm⟩
    · rw [upd_ne _ _ h] at hi; exact .inr ⟨h, hi⟩
  have hVb : ∀ o u, V' b o = some u → pre[o]? = some u := fun o u hu => by
    rcases hg.2 b o u hu with h1 | h1 | h1
    · unfold View.add at h1; rw [if_pos rfl] at h1; exact h1
    · omega
    · exact absurd h1 hMb
  have hVc : V.le (V'.cut b) := fun k o u hu => by
    have hkb : k ≠ b := fun e => by rw [e, hnone o] at hu; cases hu
    exact View.cut_of (hg.1 k o u (hle k o u hu)) hkb
  refine ⟨v, .v x, V'.cut b, upd mem' id (.box b t (pre ++ ex)), he, hv, hK hVb hVc, fun s y hy => ?_, ⟨fun b' o u hu => hp.sub b' o u (View.cut_some hu).2, fun i r hi => ?_, fun i j r r' c hij hi hj hb hb' => ?_⟩, ?_, ⟨hVc, fun b' o u hu => ?_⟩, fun b' hb' => ?_⟩
  · by_cases hn : s.name = some id
    · cases s with
      | v z => cases hn
      | kb z => cases hn
      | own i o =>
        simp only [SV.name, Option.some.injEq] at hn; subst hn
        simp only [toVal, hm] at hy
        simp only [toVal, upd_same]; exact hy
      | row i =>
        simp only [SV.name, Option.some.injEq] at hn; subst hn
        simp [toVal, hm] at hy
    · have h1 : toVal (del mem id) s = some y := by rw [← hy]; exact toVal_of fun i hi => del_ne _ (fun e => hn (by rw [hi, e]))
      have h2 := hsame s y h1
      rw [← h2]; exact toVal_of fun i hi => upd_ne _ _ (fun e => hn (by rw [hi, e]))
  · rcases hup i r hi with ⟨_, rfl⟩ | ⟨h1, h2⟩
    · exact ⟨by rw [hbk]; exact hcells, fun o => by unfold View.cut; rw [if_pos rfl]⟩
    · exact (hp.ok i r h2).keep (fun _ _ => rfl) fun b' _ o hn => by unfold View.cut; split; · rfl
                                                                     · exact hn
  · rcases hup i r hi with ⟨h1, rfl⟩ | ⟨h1, h2⟩
    · rcases hup j r' hj with ⟨h3, rfl⟩ | ⟨h3, h4⟩
      · exact hij (h1.trans h3.symm)
      · simp only [Res.blk, Option.some.injEq] at hb
        exact hout j r' h4 (by rw [hb', hb])
    · rcases hup j r' hj with ⟨h3, rfl⟩ | ⟨h3, h4⟩
      · simp only [Res.blk, Option.some.injEq] at hb'
        exact hout i r h2 (by rw [hb, hb'])
      · exact hp.apart i j r r' c hij h2 h4 hb hb'
  · exact ⟨hk.os, hk.tape, hk.output, hk.size, fun k hk1 hk2 => hk.block k hk1 (fun ⟨i, r, hi, hb⟩ => hk2 ⟨i, r, (hdel i r hi).2, hb⟩)⟩
  · obtain ⟨h1, h2⟩ := View.cut_some hu
    rcases hg.2 b' o u h2 with h3 | h3 | ⟨i, r, hi, hb⟩
    · unfold View.add at h3; rw [if_neg h1] at h3; exact .inl h3
    · exact .inr (.inl h3)
    · exact .inr (.inr ⟨i, r, (hdel i r hi).2, hb⟩)
  · obtain ⟨i, r, hi, hb⟩ := hb'
    rcases hup i r hi with ⟨h1, rfl⟩ | ⟨h1, h2⟩
    · exact .inl ⟨id, _, hm, hb⟩
    · rcases hnew b' ⟨i, r, h2, hb⟩ with ⟨j, r', hj, hb'⟩ | h3
      · exact .inl ⟨j, r', (hdel j r' hj).2, hb'⟩
      · exact .inr h3
theorem AppF.to {V : View} {mem : Nat → Option Res} {v : Value} {n size bytes m cap : Nat} {base : Option Addr} {K : Value → Nat → View → Prop} (n' : Nat) (hn' : n + m = n') (xs news : List Value) (hx : V.cells v xs) (hxl : xs.length = n * size)
  (hn : m = 0 ∨ V.cells (.slice base m cap) news) (hnl : news.length = m * size) (h1 : allOne news = true) (hm : n' ≤ 100000) (hb : bytes ≤ 100000)
  (k : ∀ base cap V', V.le V' → V'.cells (.slice base n' cap) (xs ++ news) → n' ≤ cap → K (.slice base n' cap) n' V') : AppF V mem v n size bytes (.slice base m cap) K := by
 subst hn'
 refine ⟨⟨xs, news, m, hx, hxl, .inl ⟨_, _, rfl⟩, hn, hnl, allOne_spec h1, Nat.le_trans hm (by decide), ?_, fun v' V' hle hc hv' _ => ?_⟩⟩
 ·exact Nat.le_trans (Nat.mul_le_mul hm hb) (by decide)
 ·obtain ⟨base', cap', rfl, hcap⟩ := hv'
  exact k base' cap' V' hle hc hcap
end
end Go.X
end

section
namespace Go.X
open Classical in
/-- what V' tells of blocks of which V tells nothing -/
noncomputable def View.new (V V' : View) : View := fun b o => if ∀ k, V b k = none then V' b o else none
theorem View.none_of {V W : View} (h : V.le W) {b : Nat} (k : ∀ o, W b o = none) (o : Nat) : V b o = none := by
 cases hv : V b o with
 | none => rfl
 | some u => have := h b o u hv; rw [k o] at this; cases this
theorem View.none_at {V W : View} (h : V.le W) {b o : Nat} (k : W b o = none) : V b o = none := by
 cases hv : V b o with
 | none => rfl
 | some u => have := h b o u hv; rw [k] at this; cases this
section
variable {P : Program}
theorem CallN.back {f : FuncId} {args : List Value} {V : View} {mem : Nat → Option Res} {K : SV → View → (Nat → Option Res) → Prop} (h : CallN P f args V mem (fun s _ m' => (∃ x, s = .v x) ∧ m' = mem ∧ K s V mem)) : CallN P f args V mem K := by
 refine ⟨fun w hw => (h.run w hw).mono fun e w' ⟨v, s, V', mem', he, hv, ⟨⟨x, hs⟩, hm, hK⟩, hsame, hp, hk, hg, hn⟩ => ?_⟩
 subst hs; subst hm
 have down : ∀ b o, V' b o = none → V b o = none := fun b o hn => View.none_at hg.1 hn
 exact ⟨v, .v x, V, mem', he, hv, hK, hsame, ⟨fun b o u hu => hp.sub b o u (hg.1 b o u hu), fun i r hi => (hp.ok i r hi).keep (fun _ _ => rfl) fun b _ o hn => down b o hn, hp.apart⟩, hk, ⟨View.le_refl _, fun _ _ _ h => .inl h⟩, hn⟩
end
end Go.X
end

section
namespace Go.X
section
variable {V : View} {mem : Nat → Option Res} {v : Value} {n bytes : Nat} {K : Value → Nat → View → Prop}
theorem str_cells (s : ByteArray) : V.cells (.string s) (s.data.toList.map fun b => .int .u8 b.toNat) := rfl
theorem one_str (s : ByteArray) : ∀ u ∈ (s.data.toList.map fun b => (.int .u8 b.toNat : Value)), u.oneCell' = true := fun u hu => by
 obtain ⟨b, _, rfl⟩ := List.mem_map.1 hu
 rfl
theorem len_str (s : ByteArray) : (s.data.toList.map fun b => (.int .u8 b.toNat : Value)).length = s.size := by rw [List.length_map, Array.length_toList]; rfl
theorem AppN.toS {g : Option Nat} (n' : Nat) (s : ByteArray) (hn' : n + s.size = n') (xs : List Value) (hx : V.cells v xs) (hxl : xs.length = n) (hm : n' ≤ 10000000) (hb : bytes ≤ 100000)
  (k : ∀ base cap V', V.le V' → V'.cells (.slice base n' cap) (xs ++ s.data.toList.map fun b => .int .u8 b.toNat) → n' ≤ cap → K (.slice base n' cap) n' V') : AppN V mem g v n 1 bytes (.string s) K := by
 subst hn'
 refine ⟨⟨xs, _, s.size, hx, by rw [hxl, Nat.mul_one], .inr ⟨s, rfl, rfl⟩, .inr (str_cells s), by rw [len_str, Nat.mul_one], one_str s, Nat.le_trans hm (by decide), ?_, fun v' V' hle hc hv' _ => ?_⟩⟩
 ·exact Nat.le_trans (Nat.mul_le_mul hm hb) (by decide)
 ·obtain ⟨base', cap', rfl, hcap⟩ := hv'
  exact k base' cap' V' hle hc hcap
theorem AppF.toS (n' : Nat) (s : ByteArray) (hn' : n + s.size = n') (xs : List Value) (hx : V.cells v xs) (hxl : xs.length = n) (hm : n' ≤ 100000) (hb : bytes ≤ 100000)
  (k : ∀ base cap V', V.le V' → V'.cells (.slice base n' cap) (xs ++ s.data.toList.map fun b => .int .u8 b.toNat) → n' ≤ cap → K (.slice base n' cap) n' V') : AppF V mem v n 1 bytes (.string s) K := by
 subst hn'
 refine ⟨⟨xs, _, s.size, hx, by rw [hxl, Nat.mul_one], .inr ⟨s, rfl, rfl⟩, .inr (str_cells s), by rw [len_str, Nat.mul_one], one_str s, Nat.le_trans hm (by decide), ?_, fun v' V' hle hc hv' _ => ?_⟩⟩
 ·exact Nat.le_trans (Nat.mul_le_mul hm hb) (by decide)
 ·obtain ⟨base', cap', rfl, hcap⟩ := hv'
  exact k base' cap' V' hle hc hcap
theorem AppVN.fullS {e : TypeId} {size : Nat} {K : Option Nat → Value → Nat → View → Prop} {K0 : Prop} (id : Nat) {b off : Nat} {s : ByteArray} (hm : mem id = none) (hs : 0 < s.size) (h : AppF V mem (.slice (some ⟨b, off, none⟩) n n) n size bytes (.string s) (K none)) :
  AppVN V mem (.slice (some ⟨b, off, none⟩) n n) e size bytes (.string s) K K0 := ⟨⟨id, n, by rw [hm]; exact .inl ⟨⟨b, off, s.size - 1, rfl, .inr ⟨s, rfl, by omega⟩⟩, h⟩⟩⟩
theorem AppVN.zeroS {e : TypeId} {size : Nat} {K : Option Nat → Value → Nat → View → Prop} {K0 : Prop} (id : Nat) {b off cap : Nat} {s : ByteArray} (hm : mem id = none) (hs : s.size = 0) (hc : n ≤ cap) (hn : n ≤ maxLen) (h : K0) :
  AppVN V mem (.slice (some ⟨b, off, none⟩) n cap) e size bytes (.string s) K K0 := ⟨⟨id, n, by rw [hm]; exact .inr ⟨⟨b, off, cap, rfl, .inr ⟨s, rfl, hs.symm⟩, hc, hn⟩, h⟩⟩⟩
end
end Go.X
end

section
namespace Go.X
open Go.RowKit
section
variable {P : Program}
theorem body_of_zcode (pl : Plans) (hm : P.follows .mixedOrders = true) {fn : Func} {c : Code} {w w1 : World} {V V1 : View} {st0 : St} {a0 : Act} {R : Value → View → List Res → Prop}
  (hok : ycodeOk pl fn.ntmps c = true) (hinv : Inv w (blksM (memOf [])) V fn.ntmps st0 V1 a0 w1) (hx : zcode P pl c (endK P fn R) st0 V1) :
  c.wp P (bodyPost P fn fun e w' => ∃ v V' bs', e = .returned v ∧ R v V' bs' ∧ Pre V' bs' w' ∧ Kept (blksOf []) w w' ∧ Grows (blksOf []) w.heap.size V V' ∧ ∀ b, blksOf bs' b → blksOf [] b ∨ w.heap.size ≤ b) a0 w1 := by
 have hblk : ∀ b, blksM (memOf []) b → blksOf [] b := by
  intro b ⟨i, r, hr, hb⟩
  cases hr
 have key : ∀ st V' a w', Inv w (blksM (memOf [])) V fn.ntmps st V' a w' →
   (match readAll P st fn.results.toList with
    | some l => (match toVals st.mem l with
     | some vs => RetN (packVals vs) st.mem V' R
     | none => False)
    | none => False) →
   a.defers = [] ∧ ∃ v, (results fn a.tmps).run P w' = .ok v w' ∧ ∃ v1 V1 bs', Ending.returned v = .returned v1 ∧ R v1 V1 bs' ∧ Pre V1 bs' w' ∧ Kept (blksOf []) w w' ∧ Grows (blksOf []) w.heap.size V V1 ∧
    ∀ b, blksOf bs' b → blksOf [] b ∨ w.heap.size ≤ b := by
  intro st V' a w' h hk
  refine ⟨h.defers, ?_⟩
  split at hk
  ·rename_i l hl
   obtain ⟨vs, hvs, hrun⟩ := results_sound h hl
   rw [hvs] at hk
   obtain ⟨ids, hnd, bs, hids, hR⟩ := hk.get
   have hget : ∀ (i : Nat) (r : Res), bs[i]? = some r → ∃ k, ids[i]? = some k ∧ st.mem k = some r := by
    intro i r hi
    have := congrArg (fun l => l[i]?) hids
    simp only [List.getElem?_map, hi, Option.map_some] at this
    cases hk : ids[i]? with
    | none => rw [hk] at this; cases this
    | some k => rw [hk] at this; exact ⟨k, rfl, by simpa using this⟩
   refine ⟨_, hrun, _, V', bs, rfl, hR, ⟨h.mp.sub, fun i r hi => ?_, fun i j r r' b hij hi hj hb => ?_⟩, ?_, ?_, ?_⟩
   ·obtain ⟨k, _, hm⟩ := hget i r hi; exact h.mp.ok k r hm
   ·obtain ⟨k, hk1, hm⟩ := hget i r hi
    obtain ⟨k', hk2, hm'⟩ := hget j r' hj
    refine h.mp.apart k k' r r' b (fun e => ?_) hm hm' hb
    subst e
    exact hij ((List.getElem?_inj (List.getElem?_eq_some_iff.1 hk1).1 hnd).1 (hk1.trans hk2.symm))
   ·exact ⟨h.kept.os, h.kept.tape, h.kept.output, h.kept.size, fun k hk hm => h.kept.block k hk (fun hb => hm (hblk k hb))⟩
   ·refine ⟨h.grows.1, fun b o v hv => ?_⟩
    rcases h.grows.2 b o v hv with h1 | h1 | h1
    ·exact .inl h1
    ·exact .inr (.inl h1)
    ·exact .inr (.inr (hblk b h1))
   ·intro b ⟨r, hr, hb⟩
    obtain ⟨i, hi⟩ := List.mem_iff_getElem?.1 hr
    obtain ⟨k, _, hm⟩ := hget i r hi
    rcases h.new b ⟨k, r, hm, hb⟩ with h1 | h1
    ·exact .inl (hblk b h1)
    ·exact .inr h1
  ·exact hk.elim

 rw [zcode_eq] at hx
 refine ycode_sound hm (P := P) (w0 := w) (M := blksM (memOf [])) (V0 := V) c _ _ (fun e st V' a w' h hk => ?_) _ _ _ _ hok hinv hx
 cases e with
 | normal => exact key st V' a w' h hk
 | ret => exact key st V' a w' h hk
 | exit i => exact hk.elim
end
end Go.X
end
