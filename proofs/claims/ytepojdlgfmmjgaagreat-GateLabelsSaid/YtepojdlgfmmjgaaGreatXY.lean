/- One part of a proof: an evaluator of the model, shown right, and contracts that it yields. No condition beyond those that each theorem names. -/
import Derived.Test.YtepojdlgfmmjgaaGreatXZ
section
set_option linter.unusedSimpArgs false
set_option linter.unusedVariables false
set_option linter.unusedSectionVars false
set_option linter.deprecated false
namespace Go.X
section
variable {P : Program}
/-- **a box is lent**: while a call runs whose answer is a plain value, a box may stand in the view, to be read -/
theorem CallN.lend (id : Nat) {f : FuncId} {args : List Value} {V : View} {mem : Nat → Option Res} {K : SV → View → (Nat → Option Res) → Prop} {b : Nat} {t : TypeId} {cells : List Value} (hm : mem id = some (.box b t cells))
  (hx : V.le (V.add b cells) → CallN P f args (V.add b cells) (del mem id) (fun s _ mem' => (∃ x, s = .v x) ∧ mem' = del mem id ∧ K s V mem)) : CallN P f args V mem K := by
 refine ⟨fun w hw => ?_⟩
 have hbox : Res.ok w V (.box b t cells) := hw.ok id _ hm
 obtain ⟨hcells, hnone⟩ := hbox
 have hle : V.le (V.add b cells) := View.add_le hnone
 have hdel : ∀ i r, del mem id i = some r → i ≠ id ∧ mem i = some r := fun i r hi => by
  by_cases h : i = id
  ·subst h; simp [del] at hi
  ·exact ⟨h, by rwa [del_ne _ h] at hi⟩
 have hfree : ∀ i r, del mem id i = some r → r.blk ≠ some b := fun i r hi hb => by
  obtain ⟨h1, h2⟩ := hdel i r hi
  exact hw.apart i id r _ b h1 h2 hm hb rfl
 have hpre : MPre (del mem id) (V.add b cells) w := by
  refine ⟨fun b' o v hv => ?_, fun i r hi => ?_, fun i j r r' b' hij hi hj => hw.apart i j r r' b' hij (hdel i r hi).2 (hdel j r' hj).2⟩
  ·unfold View.add at hv
   split at hv
   ·rename_i he
    subst he
    rw [cell_box hcells]; exact hv
   ·exact hw.sub b' o v hv
  ·obtain ⟨h1, h2⟩ := hdel i r hi
   refine (hw.ok i r h2).keep (fun _ _ => rfl) fun b' hb' o hn => ?_
   have : b' ≠ b := fun e => hfree i r hi (by rw [hb', e])
   unfold View.add
   rw [if_neg this]; exact hn
 refine ((hx hle).run w hpre).mono fun e w' ⟨v, s, V', mem', he, hv, ⟨⟨x, hs⟩, hmem, hK⟩, hsame, hp, hk, hg, hnew⟩ => ?_
 subst hs
 subst hmem
 have hVV : V.le V' := View.le_trans hle hg.1
 have hblt : b < w.heap.size := by
  have := (Array.getElem?_eq_some_iff.1 hcells).1
  exact this
 have hbk : w'.heap[b]? = w.heap[b]? := hk.block b hblt (fun ⟨i, r, hi, hb⟩ => hfree i r hi hb)
 refine ⟨v, .v x, V, mem, he, hv, hK, fun _ _ h => h, ⟨fun b' o u hu => hp.sub b' o u (hVV b' o u hu), fun i r hi => ?_, hw.apart⟩, ?_, ⟨View.le_refl _, fun b' o u hu => .inl hu⟩, fun b' hb' => .inl hb'⟩
 ·by_cases hid : i = id
  ·subst hid
   rw [hm, Option.some.injEq] at hi
   subst hi
   exact ⟨by rw [hbk]; exact hcells, hnone⟩
  ·have h2 := hp.ok i r (by rw [del_ne _ hid]; exact hi)
   have down : ∀ b' o, V' b' o = none → V b' o = none := fun b' o hn => by
    cases hv2 : V b' o with
    | none => rfl
    | some u => rw [hVV b' o u hv2] at hn; cases hn
   refine h2.keep (fun _ _ => rfl) fun b' _ o hn => down b' o hn
 ·exact ⟨hk.os, hk.tape, hk.output, hk.drawn, hk.size, fun k hk1 hk2 => hk.block k hk1 (fun ⟨i, r, hi, hb⟩ => hk2 ⟨i, r, (hdel i r hi).2, hb⟩), hk.thaw⟩
end
/-- as 'AppN.to', and the room; what has no elements may lie anywhere -/
theorem AppN.toR {V : View} {mem : Nat → Option Res} {g : Option Nat} {v : Value} {n size bytes m cap : Nat} {base : Option Addr} {K : Value → Nat → View → Prop} (n' : Nat) (hn' : n + m = n') (xs news : List Value) (hx : V.cells v xs) (hxl : xs.length = n * size)
  (hn : m = 0 ∨ V.cells (.slice base m cap) news) (hnl : news.length = m * size) (h1 : allOne news = true) (hm : n' ≤ 100000) (hb : bytes ≤ 100000)
  (k : ∀ base cap V', V.le V' → V'.cells (.slice base n' cap) (xs ++ news) → n' ≤ cap → K (.slice base n' cap) n' V') : AppN V mem g v n size bytes (.slice base m cap) K := by
 subst hn'
 refine ⟨⟨xs, news, m, hx, hxl, ⟨_, _, rfl⟩, hn, hnl, allOne_spec h1, Nat.le_trans hm (by decide), ?_, fun v' V' hle hc hv' _ => ?_⟩⟩
 ·exact Nat.le_trans (Nat.mul_le_mul hm hb) (by decide)
 ·obtain ⟨base', cap', rfl, hcap⟩ := hv'
  exact k base' cap' V' hle hc hcap
/-- as 'AppN.to', and the room -/
theorem AppN.toc {V : View} {mem : Nat → Option Res} {g : Option Nat} {v : Value} {n size bytes m cap : Nat} {base : Option Addr} {K : Value → Nat → View → Prop} (n' : Nat) (hn' : n + m = n') (xs news : List Value) (hx : V.cells v xs) (hxl : xs.length = n * size)
  (hn : V.cells (.slice base m cap) news) (hnl : news.length = m * size) (h1 : allOne news = true) (hm : n' ≤ 100000) (hb : bytes ≤ 100000)
  (k : ∀ base cap V', V.le V' → V'.cells (.slice base n' cap) (xs ++ news) → n' ≤ cap → K (.slice base n' cap) n' V') : AppN V mem g v n size bytes (.slice base m cap) K := by
 subst hn'
 refine ⟨⟨xs, news, m, hx, hxl, ⟨_, _, rfl⟩, .inr hn, hnl, allOne_spec h1, Nat.le_trans hm (by decide), ?_, fun v' V' hle hc hv' _ => ?_⟩⟩
 ·exact Nat.le_trans (Nat.mul_le_mul hm hb) (by decide)
 ·obtain ⟨base', cap', rfl, hcap⟩ := hv'
  exact k base' cap' V' hle hc hcap
section
variable {P : Program}
/-- a load out of an own box -/
theorem LoadN.own {V : View} {mem : Nat → Option Res} {b off n : Nat} {K : List Value → Prop} (id : Nat) {t : TypeId} {cells l : List Value} (hm : mem id = some (.box b t cells)) (hle : off + n ≤ cells.length) (hl : (cells.drop off).take n = l) (hK : K l) : LoadN V mem b off n K :=
 ⟨⟨l, by rw [← hl, List.length_take, List.length_drop]; omega, .inr ⟨id, t, cells, hm, hle, hl.symm⟩, hK⟩⟩
/-- a store into an own box -/
theorem StoN.own {mem : Nat → Option Res} {b off : Nat} {cells : List Value} {K : (Nat → Option Res) → Prop} (id : Nat) {t : TypeId} {old : List Value} (hm : mem id = some (.box b t old)) (hle : off + cells.length ≤ old.length) (hK : K (upd mem id (.box b t (setAt old off cells)))) : StoN mem b off cells K :=
 ⟨⟨id, t, old, hm, hle, hK⟩⟩
/-- append onto a slice without room -/
theorem AppF.to {V : View} {mem : Nat → Option Res} {v : Value} {n size bytes m cap : Nat} {base : Option Addr} {K : Value → Nat → View → Prop} (n' : Nat) (hn' : n + m = n') (xs news : List Value) (hx : V.cells v xs) (hxl : xs.length = n * size)
  (hn : m = 0 ∨ V.cells (.slice base m cap) news) (hnl : news.length = m * size) (h1 : allOne news = true) (hm : n' ≤ 100000) (hb : bytes ≤ 100000)
  (k : ∀ base cap V', V.le V' → V'.cells (.slice base n' cap) (xs ++ news) → n' ≤ cap → K (.slice base n' cap) n' V') : AppF V mem v n size bytes (.slice base m cap) K := by
 subst hn'
 refine ⟨⟨xs, news, m, hx, hxl, ⟨_, _, rfl⟩, hn, hnl, allOne_spec h1, Nat.le_trans hm (by decide), ?_, fun v' V' hle hc hv' _ => ?_⟩⟩
 ·exact Nat.le_trans (Nat.mul_le_mul hm hb) (by decide)
 ·obtain ⟨base', cap', rfl, hcap⟩ := hv'
  exact k base' cap' V' hle hc hcap
end
end Go.X
end

section
set_option linter.unusedSimpArgs false
set_option linter.unusedVariables false
set_option linter.unusedSectionVars false
set_option linter.deprecated false
namespace Go.X
open Classical in
/-- what V' tells of blocks of which V tells nothing -/
noncomputable def View.new (V V' : View) : View := fun b o => if ∀ k, V b k = none then V' b o else none
theorem View.none_of {V W : View} (h : V.le W) {b : Nat} (k : ∀ o, W b o = none) (o : Nat) : V b o = none := by
 cases hv : V b o with
 | none => rfl
 | some u => have := h b o u hv; rw [k o] at this; cases this
theorem View.none_at {V W : View} (h : V.le W) {b o : Nat} (k : W b o = none) : V b o = none := by
 cases hv : V b o with
 | none => rfl
 | some u => have := h b o u hv; rw [k] at this; cases this
section
variable {P : Program}
def View.cutL (V : View) (gs : List Nat) : View := fun b o => if b ∈ gs then none else V b o
theorem View.cutL_some {V : View} {gs : List Nat} {b o : Nat} {u : Value} (h : V.cutL gs b o = some u) : ¬ b ∈ gs ∧ V b o = some u := by
 unfold View.cutL at h
 split at h
 ·cases h
 ·exact ⟨by assumption, h⟩
theorem View.cutL_of {V : View} {gs : List Nat} {b o : Nat} {u : Value} (hb : ¬ b ∈ gs) (h : V b o = some u) : V.cutL gs b o = some u := by
 unfold View.cutL; rw [if_neg hb]; exact h
/-- further resources, under names from 1000 on -/
def joinT (mem : Nat → Option Res) (l : List (Nat × Res)) : Nat → Option Res := fun i => match Nat.ble 1000 i with | true => memOf l i | false => mem i
theorem once_of : ∀ (l : List Nat), ∃ l' : List Nat, l'.Nodup ∧ ∀ x, x ∈ l' ↔ x ∈ l
 | [] => ⟨[], List.nodup_nil, fun _ => Iff.rfl⟩
 | x :: l => by
  obtain ⟨l', h1, h2⟩ := once_of l
  by_cases h : x ∈ l'
  ·refine ⟨l', h1, fun y => ?_⟩
   rw [List.mem_cons, h2 y]
   constructor
   ·exact .inr
   ·rintro (rfl | hy)
    ·exact (h2 y).1 h
    ·exact hy
  ·refine ⟨x :: l', List.nodup_cons.2 ⟨h, h1⟩, fun y => ?_⟩
   rw [List.mem_cons, List.mem_cons, h2 y]
/-- the boxes of blocks, as they lie -/
def boxesOf (w : World) : Nat → List Nat → List (Nat × Res)
 | _, [] => []
 | k, g :: l => (k, match w.heap[g]? with | some (.cells c t _) => .box g t c.toList | _ => .box g 0 []) :: boxesOf w (k + 1) l
theorem boxesOf_at {w : World} : ∀ {l : List Nat} {k i : Nat} {r : Res}, memOf (boxesOf w k l) i = some r → ∃ g, l[i - k]? = some g ∧ k ≤ i ∧ r = (match w.heap[g]? with | some (.cells c t _) => .box g t c.toList | _ => .box g 0 [])
 | [], k, i, r, h => by cases h
 | g :: l, k, i, r, h => by
  have h : upd (memOf (boxesOf w (k + 1) l)) k _ i = some r := h
  by_cases e : i = k
  ·subst e
   rw [upd_same, Option.some.injEq] at h
   exact ⟨g, by simp, Nat.le_refl _, h.symm⟩
  ·rw [upd_ne _ _ e] at h
   obtain ⟨g', h1, h2, h3⟩ := boxesOf_at h
   exact ⟨g', by rw [show i - k = (i - (k + 1)) + 1 by omega, List.getElem?_cons_succ]; exact h1, by omega, h3⟩
theorem boxesOf_mem {w : World} : ∀ {l : List Nat} {k g : Nat}, g ∈ l → ∃ i, k ≤ i ∧ (i, (match w.heap[g]? with | some (.cells c t _) => Res.box g t c.toList | _ => .box g 0 [])) ∈ boxesOf w k l
 | x :: l, k, g, h => by
  rcases List.mem_cons.1 h with rfl | h
  ·exact ⟨k, Nat.le_refl _, List.mem_cons_self⟩
  ·obtain ⟨i, h1, h2⟩ := boxesOf_mem (w := w) (k := k + 1) h
   exact ⟨i, by omega, List.mem_cons_of_mem _ h2⟩
theorem boxesOf_fst {w : World} : ∀ (l : List Nat) (k : Nat), ((boxesOf w k l).map (·.1)).Nodup ∧ ∀ x ∈ boxesOf w k l, k ≤ x.1
 | [], k => ⟨List.nodup_nil, fun x h => by cases h⟩
 | g :: l, k => by
  obtain ⟨h1, h2⟩ := boxesOf_fst (w := w) l (k + 1)
  refine ⟨List.nodup_cons.2 ⟨fun h => ?_, h1⟩, fun x hx => ?_⟩
  ·obtain ⟨x, hx, hxe⟩ := List.mem_map.1 h
   have := h2 x hx
   have : x.1 = k := hxe
   omega
  ·rcases List.mem_cons.1 hx with rfl | hx
   ·exact Nat.le_refl _
   ·have := h2 x hx; omega
/-- **what a call has laid anew may be written**: blocks of its answer become boxes -/
theorem CallN.thaw {f : FuncId} {args : List Value} {V : View} {mem : Nat → Option Res} {R : Value → View → List Res → Prop} {K : SV → View → (Nat → Option Res) → Prop} (h : Does P f args V [] R) (hd : ∀ i r, mem i = some r → i < 1000)
  (k : ∀ v V' bs, V.le V' → R v V' bs → ∃ gs : List Nat, (∀ g ∈ gs, (∀ o, V g o = none) ∧ ∃ o u, V' g o = some u) ∧ (V.le (V'.cutL gs) → ∀ l : List (Nat × Res), (l.map (·.1)).Nodup → (∀ x ∈ l, 1000 ≤ x.1 ∧ ∃ g t cells, x.2 = .box g t cells ∧ ∀ o u, V' g o = some u → cells[o]? = some u) →
   (∀ g ∈ gs, ∃ x ∈ l, ∃ t cells, x.2 = .box g t cells) → K (.v v) (V'.cutL gs) (joinT mem l))) : CallN P f args V mem K := by
 refine ⟨fun w hw => ?_⟩
 have pre : Pre V [] w := ⟨hw.sub, fun i r hr => by simp at hr, fun i j r r' b _ hr => by simp at hr⟩
 refine (h w pre).mono fun e w' ⟨v, V', bs, he, hR, hp, hk, hg, hn⟩ => ?_
 obtain ⟨gs, hgs, hK⟩ := k v V' bs hg.1 hR
 have hM : ∀ b, ¬ blksOf [] b := fun b ⟨r, hr, _⟩ => by cases hr
 have hold : ∀ g ∈ gs, w.heap.size ≤ g ∧ ∃ c t, w'.heap[g]? = some (.cells c t (0, 0)) ∧ ∀ o u, V' g o = some u → c[o]? = some u := fun g hgm => by
  obtain ⟨hnone, o, u, hu⟩ := hgs g hgm
  have hsz : w.heap.size ≤ g := by
   rcases hg.2 g o u hu with h1 | h1 | h1
   ·rw [hnone o] at h1; cases h1
   ·exact h1
   ·exact absurd h1 (hM g)
  have hc := hp.sub g o u hu
  unfold World.cell? at hc
  split at hc
  ·rename_i c t fr hh
   have := hk.thaw g (fun hlt => by omega) c t fr hh
   subst this
   refine ⟨hsz, c, t, hh, fun o u hu => ?_⟩
   have := hp.sub g o u hu
   simp only [World.cell?, hh, Option.isSome_none, Bool.false_eq_true, if_false] at this
   exact this
  ·cases hc
 obtain ⟨l', hnd, hml⟩ := once_of gs
 have hVc : V.le (V'.cutL gs) := fun b o u hu => View.cutL_of (fun hb => by rw [(hgs b hb).1 o] at hu; cases hu) (hg.1 b o u hu)
 obtain ⟨f1, f2⟩ := boxesOf_fst (w := w') l' 1000
 have hbx : ∀ g ∈ gs, ∃ c t, (match w'.heap[g]? with | some (.cells c t _) => Res.box g t c.toList | _ => .box g 0 []) = .box g t c.toList ∧ w'.heap[g]? = some (.cells c t (0, 0)) ∧ ∀ o u, V' g o = some u → c[o]? = some u := fun g hgm => by
  obtain ⟨_, c, t, hh, hc⟩ := hold g hgm
  exact ⟨c, t, by rw [hh], hh, hc⟩
 have hmem : ∀ i r, joinT mem (boxesOf w' 1000 l') i = some r → (i < 1000 ∧ mem i = some r) ∨ (1000 ≤ i ∧ ∃ g c t, l'[i - 1000]? = some g ∧ g ∈ gs ∧ r = .box g t c.toList ∧ w'.heap[g]? = some (.cells c t (0, 0))) := fun i r hi => by
  unfold joinT at hi
  split at hi
  ·rename_i hb
   obtain ⟨g, h1, h2, h3⟩ := boxesOf_at hi
   have hgm : g ∈ gs := (hml g).1 (List.mem_of_getElem? h1)
   obtain ⟨c, t, e1, e2, _⟩ := hbx g hgm
   exact .inr ⟨h2, g, c, t, h1, hgm, by rw [h3, e1], e2⟩
  ·exact .inl ⟨hd i r hi, hi⟩
 have hsm : ∀ i, i < 1000 → joinT mem (boxesOf w' 1000 l') i = mem i := fun i hi => by
  unfold joinT
  split
  ·rename_i hb; exact absurd (Nat.le_of_ble_eq_true hb) (by omega)
  ·rfl
 refine ⟨v, .v v, V'.cutL gs, joinT mem (boxesOf w' 1000 l'), he, rfl, hK hVc _ f1 (fun x hx => ⟨f2 x hx, ?_⟩) (fun g hgm => ?_), fun s x hx => ?_, ⟨fun b o u hu => hp.sub b o u (View.cutL_some hu).2, fun i r hi => ?_, fun i j r r' c hij hi hj hb hb' => ?_⟩, ?_, ⟨hVc, fun b o u hu => ?_⟩, fun b hb => ?_⟩
 ·have hx2 : ∃ g, g ∈ l' ∧ x.2 = (match w'.heap[g]? with | some (.cells c t _) => Res.box g t c.toList | _ => .box g 0 []) := by
   clear hK hmem hsm f1 f2 hnd hml hbx
   revert hx
   generalize 1000 = k
   induction l' generalizing k with
   | nil => intro hx; cases hx
   | cons g l' ih =>
    intro hx
    rcases List.mem_cons.1 hx with rfl | hx
    ·exact ⟨g, List.mem_cons_self, rfl⟩
    ·obtain ⟨g', h1, h2⟩ := ih _ hx
     exact ⟨g', List.mem_cons_of_mem _ h1, h2⟩
  obtain ⟨g, hgl, he2⟩ := hx2
  obtain ⟨c, t, e1, _, e3⟩ := hbx g ((hml g).1 hgl)
  exact ⟨g, t, c.toList, by rw [he2, e1], fun o u hu => by simpa using e3 o u hu⟩
 ·obtain ⟨i, _, hi⟩ := boxesOf_mem (w := w') (k := 1000) ((hml g).2 hgm)
  obtain ⟨c, t, e1, _⟩ := hbx g hgm
  exact ⟨_, hi, t, c.toList, e1⟩
 ·rw [← hx]
  refine toVal_of fun i hi => hsm i ?_
  cases s with
  | v z => cases hi
  | kb z => cases hi
  | own j o =>
   simp only [SV.name, Option.some.injEq] at hi; subst hi
   cases hm : mem j with
   | none => simp [toVal, hm] at hx
   | some r => exact hd j r hm
  | row j =>
   simp only [SV.name, Option.some.injEq] at hi; subst hi
   cases hm : mem j with
   | none => simp [toVal, hm] at hx
   | some r => exact hd j r hm
 ·rcases hmem i r hi with ⟨_, h1⟩ | ⟨_, g, c, t, _, hgm, rfl, hh⟩
  ·have hok := hw.ok i r h1
   refine hok.keep (fun b hb => hk.block b (blk_lt hok hb) (hM b)) fun b hb o hn => ?_
   unfold View.cutL
   split
   ·rfl
   ·cases hv : V' b o with
    | none => rfl
    | some u =>
     rcases hg.2 b o u hv with h2 | h2 | h2
     ·rw [hn] at h2; cases h2
     ·have := blk_lt hok hb; omega
     ·exact absurd h2 (hM b)
  ·exact ⟨by simpa using hh, fun o => by unfold View.cutL; rw [if_pos hgm]⟩
 ·rcases hmem i r hi with ⟨_, h1⟩ | ⟨hi1, g, _, _, hg1, hgm, rfl, _⟩
  ·rcases hmem j r' hj with ⟨_, h2⟩ | ⟨_, g, _, _, _, hgm, rfl, _⟩
   ·exact hw.apart i j r r' c hij h1 h2 hb hb'
   ·simp only [Res.blk, Option.some.injEq] at hb'
    have := blk_lt (hw.ok i r h1) hb
    have := (hold g hgm).1
    omega
  ·simp only [Res.blk, Option.some.injEq] at hb
   rcases hmem j r' hj with ⟨_, h2⟩ | ⟨hj1, g', _, _, hg2, hgm', rfl, _⟩
   ·have := blk_lt (hw.ok j r' h2) hb'
    have := (hold g hgm).1
    omega
   ·simp only [Res.blk, Option.some.injEq] at hb'
    have e : g = g' := hb.trans hb'.symm
    subst e
    have := (List.getElem?_inj (List.getElem?_eq_some_iff.1 hg1).1 hnd).1 (hg1.trans hg2.symm)
    omega
 ·exact ⟨hk.os, hk.tape, hk.output, hk.drawn, hk.size, fun b hb _ => hk.block b hb (hM b), hk.thaw⟩
 ·rcases hg.2 b o u (View.cutL_some hu).2 with h1 | h1 | h1
  ·exact .inl h1
  ·exact .inr (.inl h1)
  ·exact absurd h1 (hM b)
 ·obtain ⟨i, r, hi, hb⟩ := hb
  rcases hmem i r hi with ⟨_, h1⟩ | ⟨_, g, _, _, _, hgm, rfl, _⟩
  ·exact .inl ⟨i, r, h1, hb⟩
  ·simp only [Res.blk, Option.some.injEq] at hb
   subst hb
   exact .inr (hold g hgm).1
/-- a call whose answer is a plain value: what the view has learnt may be forgotten -/
theorem CallN.back {f : FuncId} {args : List Value} {V : View} {mem : Nat → Option Res} {K : SV → View → (Nat → Option Res) → Prop} (h : CallN P f args V mem (fun s _ m' => (∃ x, s = .v x) ∧ m' = mem ∧ K s V mem)) : CallN P f args V mem K := by
 refine ⟨fun w hw => (h.run w hw).mono fun e w' ⟨v, s, V', mem', he, hv, ⟨⟨x, hs⟩, hm, hK⟩, hsame, hp, hk, hg, hn⟩ => ?_⟩
 subst hs; subst hm
 have down : ∀ b o, V' b o = none → V b o = none := fun b o hn => View.none_at hg.1 hn
 exact ⟨v, .v x, V, mem', he, hv, hK, hsame, ⟨fun b o u hu => hp.sub b o u (hg.1 b o u hu), fun i r hi => (hp.ok i r hi).keep (fun _ _ => rfl) fun b _ o hn => down b o hn, hp.apart⟩, hk, ⟨View.le_refl _, fun _ _ _ h => .inl h⟩, hn⟩
end
end Go.X
end

section
set_option linter.unusedSimpArgs false
set_option linter.unusedVariables false
set_option linter.unusedSectionVars false
set_option linter.deprecated false
namespace Go.X
def swapN (a b n : Nat) : Nat := match Nat.beq n a with
 | true => b
 | false => (match Nat.beq n b with | true => a | false => n)
theorem swapN_eq (a b n : Nat) : swapN a b n = if n = a then b else if n = b then a else n := by
 unfold swapN
 by_cases h : n = a
 ·subst h; simp [Nat.beq_refl]
 ·have h1 : Nat.beq n a = false := by
   cases hb : Nat.beq n a with
   | false => rfl
   | true => exact absurd (Nat.eq_of_beq_eq_true hb) h
  rw [h1, if_neg h]
  by_cases k : n = b
  ·subst k; simp [Nat.beq_refl]
  ·have h2 : Nat.beq n b = false := by
    cases hb : Nat.beq n b with
    | false => rfl
    | true => exact absurd (Nat.eq_of_beq_eq_true hb) k
   simp only [h2]; rw [if_neg k]
theorem swapN_inj {a b i j : Nat} (h : swapN a b i = swapN a b j) : i = j := by
 rw [swapN_eq, swapN_eq] at h
 split at h <;> split at h <;> (try split at h) <;> (try split at h) <;> omega
def St.keepsR (st : St) (ρ : Nat → Nat) : List (Nat × Res) → Prop
 | [] => True
 | (i, r) :: l => (st.mem (ρ i) = some r ∨ r.free) ∧ st.keepsR ρ l
theorem keepsR_get {st : St} {ρ : Nat → Nat} : ∀ {ms : List (Nat × Res)}, st.keepsR ρ ms → ∀ i r, memOf ms i = some r → st.mem (ρ i) = some r ∨ r.free
 | [], _, i, r, h => by cases h
 | (j, s) :: ms, hh, i, r, h => by
  unfold memOf at h
  by_cases hi : i = j
  ·subst hi; rw [upd_same, Option.some.injEq] at h; subst h; exact hh.1
  ·rw [upd_ne _ _ hi] at h; exact keepsR_get hh.2 i r h
theorem keepsR_nil {st : St} {ρ : Nat → Nat} : st.keepsR ρ [] := trivial
theorem keepsR_cons {st : St} {ρ : Nat → Nat} {i : Nat} {r : Res} {l : List (Nat × Res)} (h1 : st.mem (ρ i) = some r) (h : st.keepsR ρ l) : st.keepsR ρ ((i, r) :: l) := ⟨.inl h1, h⟩
theorem keepsR_free {st : St} {ρ : Nat → Nat} {i : Nat} {base : Option Addr} {t : TypeId} {z : Nat} {l : List (Nat × Res)} (h : st.keepsR ρ l) : st.keepsR ρ ((i, .row (.slice base 0 0) t z 0) :: l) := ⟨.inr ⟨base, t, z, rfl⟩, h⟩
theorem weak_genR {st : St} {V : View} {env : List (Nat × SV)} {ms : List (Nat × Res)} {ρ : Nat → Nat} (hρ : ∀ i j, ρ i = ρ j → i = j) (he : st.sees (memOf ms) env) (hm : st.keepsR ρ ms) : Weak (St.of env ms) st V := by
 intro w0 M V0 n a w h
 have hmem := keepsR_get hm
 refine ⟨h.defers, h.size, fun k s hk => ?_, ⟨h.mp.sub, fun i r hr => ?_, fun i j r r' b hij hi hj hb hb' => ?_⟩, h.kept, h.grows, ?_⟩
 ·obtain ⟨s0, v, h1, h2, h3⟩ := sees_get he k s hk
  have := h.env k s0 h1
  rw [h2] at this
  show toVal (memOf ms) s = _
  rw [h3]; exact this
 ·rcases hmem i r hr with h1 | h1
  ·exact h.mp.ok _ r h1
  ·exact free_ok h1 w V
 ·rcases hmem i r hi with h1 | h1
  ·rcases hmem j r' hj with h2 | h2
   ·exact h.mp.apart _ _ r r' b (fun e => hij (hρ _ _ e)) h1 h2 hb hb'
   ·rw [free_blk h2] at hb'; cases hb'
  ·rw [free_blk h1] at hb; cases hb
 ·intro b ⟨i, r, hr, hb⟩
  rcases hmem i r hr with h1 | h1
  ·exact h.new b ⟨_, r, h1, hb⟩
  ·rw [free_blk h1] at hb; cases hb
/-- at a loop's end: back to its head, two names exchanged -/
def backToR {σ : Type} (env : σ → List (Nat × SV)) (ms : σ → List (Nat × Res)) (inv : Nat → σ → View → Prop) (k : Nat) (K : Ex → St → View → Prop) : Ex → St → View → Prop
 | .normal, st', V' => ∃ a b m y, m < k ∧ st'.sees (memOf (ms y)) (env y) ∧ st'.keepsR (swapN a b) (ms y) ∧ inv m y V'
 | .ret, st', V' => K .ret st' V'
 | .exit i, st', V' => K (.exit i) st' V'
theorem loopzR {P : Program} {pl : Plans} {c : Code} {σ : Type} (env : σ → List (Nat × SV)) (ms : σ → List (Nat × Res)) (inv : Nat → σ → View → Prop) {K : Ex → St → View → Prop} {st : St} {V : View} (k : Nat) (x : σ)
  (he : st.sees (memOf (ms x)) (env x)) (hm : st.keeps (ms x)) (h0 : inv k x V)
  (hr : ∀ k x V, inv k x V → zcode P pl c (backToR env ms inv k K) (St.of (env x) (ms x)) V) : LoopN (zcode P pl c) K st V := by
 rw [zcode_eq] at hr ⊢
 refine LoopN.mk' (fun x => St.of (env x) (ms x)) inv k x (weak_gen he hm) h0 fun k x V hi => ycode_mono c (fun e st' V' hk => ?_) _ _ (hr k x V hi)
 cases e with
 | normal =>
  obtain ⟨a, b, m, y, hm, h1, h2, h3⟩ := hk
  exact ⟨m, _, hm, weak_genR (fun _ _ h => swapN_inj h) h1 h2, y, rfl, h3⟩
 | ret => exact hk
 | exit i => exact hk
end Go.X
end
