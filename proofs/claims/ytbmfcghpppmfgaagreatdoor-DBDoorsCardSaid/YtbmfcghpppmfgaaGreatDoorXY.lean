/- One part of a proof: an evaluator of the model, shown right, and contracts that it yields. No condition beyond those that each theorem names. -/
import Derived.Test.YtbmfcghpppmfgaaGreatDoorXZ
section
set_option linter.unusedSimpArgs false
set_option linter.unusedVariables false
set_option linter.unusedSectionVars false
set_option linter.deprecated false
namespace Go.X
section
variable {P : Program}
/-- **a box is lent**: while a call runs whose answer is a plain value, a box may stand in the view, to be read -/
theorem CallN.lend (id : Nat) {f : FuncId} {args : List Value} {V : View} {mem : Nat → Option Res} {K : SV → View → (Nat → Option Res) → Prop} {b : Nat} {t : TypeId} {cells : List Value} (hm : mem id = some (.box b t cells))
  (hx : V.le (V.add b cells) → CallN P f args (V.add b cells) (del mem id) (fun s _ mem' => (∃ x, s = .v x) ∧ mem' = del mem id ∧ K s V mem)) : CallN P f args V mem K := by
 refine ⟨fun w hw => ?_⟩
 have hbox : Res.ok w V (.box b t cells) := hw.ok id _ hm
 obtain ⟨hcells, hnone⟩ := hbox
 have hle : V.le (V.add b cells) := View.add_le hnone
 have hdel : ∀ i r, del mem id i = some r → i ≠ id ∧ mem i = some r := fun i r hi => by
  by_cases h : i = id
  ·subst h; simp [del] at hi
  ·exact ⟨h, by rwa [del_ne _ h] at hi⟩
 have hfree : ∀ i r, del mem id i = some r → r.blk ≠ some b := fun i r hi hb => by
  obtain ⟨h1, h2⟩ := hdel i r hi
  exact hw.apart i id r _ b h1 h2 hm hb rfl
 have hpre : MPre (del mem id) (V.add b cells) w := by
  refine ⟨fun b' o v hv => ?_, fun i r hi => ?_, fun i j r r' b' hij hi hj => hw.apart i j r r' b' hij (hdel i r hi).2 (hdel j r' hj).2⟩
  ·unfold View.add at hv
   split at hv
   ·rename_i he
    subst he
    rw [cell_box hcells]; exact hv
   ·exact hw.sub b' o v hv
  ·obtain ⟨h1, h2⟩ := hdel i r hi
   refine (hw.ok i r h2).keep (fun _ _ => rfl) fun b' hb' o hn => ?_
   have : b' ≠ b := fun e => hfree i r hi (by rw [hb', e])
   unfold View.add
   rw [if_neg this]; exact hn
 refine ((hx hle).run w hpre).mono fun e w' ⟨v, s, V', mem', he, hv, ⟨⟨x, hs⟩, hmem, hK⟩, hsame, hp, hk, hg, hnew⟩ => ?_
 subst hs
 subst hmem
 have hVV : V.le V' := View.le_trans hle hg.1
 have hblt : b < w.heap.size := by
  have := (Array.getElem?_eq_some_iff.1 hcells).1
  exact this
 have hbk : w'.heap[b]? = w.heap[b]? := hk.block b hblt (fun ⟨i, r, hi, hb⟩ => hfree i r hi hb)
 refine ⟨v, .v x, V, mem, he, hv, hK, fun _ _ h => h, ⟨fun b' o u hu => hp.sub b' o u (hVV b' o u hu), fun i r hi => ?_, hw.apart⟩, ?_, ⟨View.le_refl _, fun b' o u hu => .inl hu⟩, fun b' hb' => .inl hb'⟩
 ·by_cases hid : i = id
  ·subst hid
   rw [hm, Option.some.injEq] at hi
   subst hi
   exact ⟨by rw [hbk]; exact hcells, hnone⟩
  ·have h2 := hp.ok i r (by rw [del_ne _ hid]; exact hi)
   have down : ∀ b' o, V' b' o = none → V b' o = none := fun b' o hn => by
    cases hv2 : V b' o with
    | none => rfl
    | some u => rw [hVV b' o u hv2] at hn; cases hn
   refine h2.keep (fun _ _ => rfl) fun b' _ o hn => down b' o hn
 ·exact ⟨hk.os, hk.tape, hk.output, hk.drawn, hk.size, fun k hk1 hk2 => hk.block k hk1 (fun ⟨i, r, hi, hb⟩ => hk2 ⟨i, r, (hdel i r hi).2, hb⟩), hk.thaw⟩
end
section
variable {P : Program}
/-- a load out of an own box -/
theorem LoadN.own {V : View} {mem : Nat → Option Res} {b off n : Nat} {K : List Value → Prop} (id : Nat) {t : TypeId} {cells l : List Value} (hm : mem id = some (.box b t cells)) (hle : off + n ≤ cells.length) (hl : (cells.drop off).take n = l) (hK : K l) : LoadN V mem b off n K :=
 ⟨⟨l, by rw [← hl, List.length_take, List.length_drop]; omega, .inr ⟨id, t, cells, hm, hle, hl.symm⟩, hK⟩⟩
/-- a store into an own box -/
theorem StoN.own {mem : Nat → Option Res} {b off : Nat} {cells : List Value} {K : (Nat → Option Res) → Prop} (id : Nat) {t : TypeId} {old : List Value} (hm : mem id = some (.box b t old)) (hle : off + cells.length ≤ old.length) (hK : K (upd mem id (.box b t (setAt old off cells)))) : StoN mem b off cells K :=
 ⟨⟨id, t, old, hm, hle, hK⟩⟩
/-- append onto a slice without room -/
theorem AppF.to {V : View} {mem : Nat → Option Res} {v : Value} {n size bytes m cap : Nat} {base : Option Addr} {K : Value → Nat → View → Prop} (n' : Nat) (hn' : n + m = n') (xs news : List Value) (hx : V.cells v xs) (hxl : xs.length = n * size)
  (hn : m = 0 ∨ V.cells (.slice base m cap) news) (hnl : news.length = m * size) (h1 : allOne news = true) (hm : n' ≤ 100000) (hb : bytes ≤ 100000)
  (k : ∀ base cap V', V.le V' → V'.cells (.slice base n' cap) (xs ++ news) → n' ≤ cap → K (.slice base n' cap) n' V') : AppF V mem v n size bytes (.slice base m cap) K := by
 subst hn'
 refine ⟨⟨xs, news, m, hx, hxl, ⟨_, _, rfl⟩, hn, hnl, allOne_spec h1, Nat.le_trans hm (by decide), ?_, fun v' V' hle hc hv' _ => ?_⟩⟩
 ·exact Nat.le_trans (Nat.mul_le_mul hm hb) (by decide)
 ·obtain ⟨base', cap', rfl, hcap⟩ := hv'
  exact k base' cap' V' hle hc hcap
end
end Go.X
end
