/- One part of a proof: an evaluator of the model, shown right, and contracts that it yields. No condition beyond those that each theorem names. -/
import Derived.Test.YtbmfcghpppmfgaaGreatDoorXZ
section
set_option linter.unusedSimpArgs false
set_option linter.unusedVariables false
set_option linter.unusedSectionVars false
set_option linter.deprecated false
namespace Go.X
section
variable {P : Program}
/-- **a box is lent**: while a call runs whose answer is a plain value, a box may stand in the view, to be read -/
theorem CallN.lend (id : Nat) {f : FuncId} {args : List Value} {V : View} {mem : Nat → Option Res} {K : SV → View → (Nat → Option Res) → Prop} {b : Nat} {t : TypeId} {cells : List Value} (hm : mem id = some (.box b t cells))
    (hx : V.le (V.add b cells) → CallN P f args (V.add b cells) (del mem id) (fun s _ mem' => (∃ x, s = .v x) ∧ mem' = del mem id ∧ K s V mem)) : CallN P f args V mem K := by
  refine ⟨fun w hw => ?_⟩
  have hbox : Res.ok w V (.box b t cells) := hw.ok id _ hm
  obtain ⟨hcells, hnone⟩ := hbox
  have hle : V.le (V.add b cells) := View.add_le hnone
  have hdel : ∀ i r, del mem id i = some r → i ≠ id ∧ mem i = some r := fun i r hi => by
    by_cases h : i = id
    · subst h; simp [del] at hi
    · exact ⟨h, by rwa [del_ne _ h] at hi⟩
  have hfree : ∀ i r, del mem id i = some r → r.blk ≠ some b := fun i r hi hb => by
    obtain ⟨h1, h2⟩ := hdel i r hi
    exact hw.apart i id r _ b h1 h2 hm hb rfl
  have hpre : MPre (del mem id) (V.add b cells) w := by
    refine ⟨fun b' o v hv => ?_, fun i r hi => ?_, fun i j r r' b' hij hi hj => hw.apart i j r r' b' hij (hdel i r hi).2 (hdel j r' hj).2⟩
    · unfold View.add at hv
      split at hv
      · rename_i he
        subst he
        rw [cell_box hcells]; exact hv
      · exact hw.sub b' o v hv
    · obtain ⟨h1, h2⟩ := hdel i r hi
      refine (hw.ok i r h2).keep (fun _ _ => rfl) fun b' hb' o hn => ?_
      have : b' ≠ b := fun e => hfree i r hi (by rw [hb', e])
      unfold View.add
      rw [if_neg this]; exact hn
  refine ((hx hle).run w hpre).mono fun e w' ⟨v, s, V', mem', he, hv, ⟨⟨x, hs⟩, hmem, hK⟩, hsame, hp, hk, hg, hnew⟩ => ?_
  subst hs
  subst hmem
  have hVV : V.le V' := View.le_trans hle hg.1
  have hblt : b < w.heap.size := by
    have := (Array.getElem?_eq_some_iff.1 hcells).1
    exact this
  have hbk : w'.heap[b]? = w.heap[b]? := hk.block b hblt (fun ⟨i, r, hi, hb⟩ => hfree i r hi hb)
  refine ⟨v, .v x, V, mem, he, hv, hK, fun _ _ h => h, ⟨fun b' o u hu => hp.sub b' o u (hVV b' o u hu), fun i r hi => ?_, hw.apart⟩, ?_, ⟨View.le_refl _, fun b' o u hu => .inl hu⟩, fun b' hb' => .inl hb'⟩
  · by_cases hid : i = id
    · subst hid
      rw [hm, Option.some.injEq] at hi
      subst hi
      exact ⟨by rw [hbk]; exact hcells, hnone⟩
    · have h2 := hp.ok i r (by rw [del_ne _ hid]; exact hi)
      have down : ∀ b' o, V' b' o = none → V b' o = none := fun b' o hn => by
        cases hv2 : V b' o with
        | none => rfl
        | some u => rw [hVV b' o u hv2] at hn; cases hn
      refine h2.keep (fun _ _ => rfl) fun b' _ o hn => down b' o hn
  · exact ⟨hk.os, hk.tape, hk.output, hk.drawn, hk.size, fun k hk1 hk2 => hk.block k hk1 (fun ⟨i, r, hi, hb⟩ => hk2 ⟨i, r, (hdel i r hi).2, hb⟩), hk.thaw⟩
/-- **a box is lent**, while a call runs that writes others -/
theorem CallN.lendM (id : Nat) {f : FuncId} {args : List Value} {V : View} {mem : Nat → Option Res} {K : SV → View → (Nat → Option Res) → Prop} {b : Nat} {t : TypeId} {cells : List Value} (hm : mem id = some (.box b t cells))
    (hx : V.le (V.add b cells) → CallN P f args (V.add b cells) (del mem id) (fun s _ mem' => (∃ x, s = .v x) ∧ mem' id = none ∧ K s V (upd mem' id (.box b t cells)))) : CallN P f args V mem K := by
  refine ⟨fun w hw => ?_⟩
  have hbox : Res.ok w V (.box b t cells) := hw.ok id _ hm
  obtain ⟨hcells, hnone⟩ := hbox
  have hle : V.le (V.add b cells) := View.add_le hnone
  have hdel : ∀ i r, del mem id i = some r → i ≠ id ∧ mem i = some r := fun i r hi => by
    by_cases h : i = id
    · subst h; simp [del] at hi
    · exact ⟨h, by rwa [del_ne _ h] at hi⟩
  have hfree : ∀ i r, del mem id i = some r → r.blk ≠ some b := fun i r hi hb => by
    obtain ⟨h1, h2⟩ := hdel i r hi
    exact hw.apart i id r _ b h1 h2 hm hb rfl
  have hpre : MPre (del mem id) (V.add b cells) w := by
    refine ⟨fun b' o v hv => ?_, fun i r hi => ?_, fun i j r r' b' hij hi hj => hw.apart i j r r' b' hij (hdel i r hi).2 (hdel j r' hj).2⟩
    · unfold View.add at hv
      split at hv
      · rename_i he
        subst he
        rw [cell_box hcells]; exact hv
      · exact hw.sub b' o v hv
    · obtain ⟨h1, h2⟩ := hdel i r hi
      refine (hw.ok i r h2).keep (fun _ _ => rfl) fun b' hb' o hn => ?_
      have : b' ≠ b := fun e => hfree i r hi (by rw [hb', e])
      unfold View.add
      rw [if_neg this]; exact hn
  refine ((hx hle).run w hpre).mono fun e w' ⟨v, s, V', mem', he, hv, ⟨⟨x, hs⟩, hmem, hK⟩, hsame, hp, hk, hg, hnew⟩ => ?_
  subst hs
  have hVV : V.le V' := View.le_trans hle hg.1
  have hblt : b < w.heap.size := by
    have := (Array.getElem?_eq_some_iff.1 hcells).1
    exact this
  have hbk : w'.heap[b]? = w.heap[b]? := hk.block b hblt (fun ⟨i, r, hi, hb⟩ => hfree i r hi hb)
  have hout : ∀ i r, mem' i = some r → r.blk ≠ some b := fun i r hi hb => by
    rcases hnew b ⟨i, r, hi, hb⟩ with ⟨j, r', hj, hb'⟩ | h1
    · exact hfree j r' hj hb'
    · omega
  have hup : ∀ i r, upd mem' id (.box b t cells) i = some r → (i = id ∧ r = .box b t cells) ∨ (i ≠ id ∧ mem' i = some r) := fun i r hi => by
    by_cases h : i = id
    · subst h; rw [upd_same, Option.some.injEq] at hi; exact .inl ⟨rfl, hi.symm⟩
    · rw [upd_ne _ _ h] at hi; exact .inr ⟨h, hi⟩
  have down : ∀ b' o, V' b' o = none → V b' o = none := fun b' o hn => by
    cases hv2 : V b' o with
    | none => rfl
    | some u => rw [hVV b' o u hv2] at hn; cases hn
  refine ⟨v, .v x, V, upd mem' id (.box b t cells), he, hv, hK, fun s y hy => ?_, ⟨fun b' o u hu => hp.sub b' o u (hVV b' o u hu), fun i r hi => ?_, fun i j r r' c hij hi hj hb hb' => ?_⟩, ?_, ⟨View.le_refl _, fun b' o u hu => .inl hu⟩, fun b' hb' => ?_⟩
  · by_cases hn : s.name = some id
    · cases s with
      | v z => cases hn
      | kb z => cases hn
      | own i o =>
        simp only [SV.name, Option.some.injEq] at hn; subst hn
        simp only [toVal, hm] at hy
        simp only [toVal, upd_same]; exact hy
      | row i =>
        simp only [SV.name, Option.some.injEq] at hn; subst hn
        simp [toVal, hm] at hy
    · have h1 : toVal (del mem id) s = some y := by rw [← hy]; exact toVal_of fun i hi => del_ne _ (fun e => hn (by rw [hi, e]))
      have h2 := hsame s y h1
      rw [← h2]; exact toVal_of fun i hi => upd_ne _ _ (fun e => hn (by rw [hi, e]))
  · rcases hup i r hi with ⟨_, rfl⟩ | ⟨h1, h2⟩
    · exact ⟨by rw [hbk]; exact hcells, hnone⟩
    · exact (hp.ok i r h2).keep (fun _ _ => rfl) fun b' _ o hn => down b' o hn
  · rcases hup i r hi with ⟨h1, rfl⟩ | ⟨h1, h2⟩
    · rcases hup j r' hj with ⟨h3, rfl⟩ | ⟨h3, h4⟩
      · exact hij (h1.trans h3.symm)
      · simp only [Res.blk, Option.some.injEq] at hb
        exact hout j r' h4 (by rw [hb', hb])
    · rcases hup j r' hj with ⟨h3, rfl⟩ | ⟨h3, h4⟩
      · simp only [Res.blk, Option.some.injEq] at hb'
        exact hout i r h2 (by rw [hb, hb'])
      · exact hp.apart i j r r' c hij h2 h4 hb hb'
  · exact ⟨hk.os, hk.tape, hk.output, hk.drawn, hk.size, fun k hk1 hk2 => hk.block k hk1 (fun ⟨i, r, hi, hb⟩ => hk2 ⟨i, r, (hdel i r hi).2, hb⟩), hk.thaw⟩
  · obtain ⟨i, r, hi, hb⟩ := hb'
    rcases hup i r hi with ⟨h1, rfl⟩ | ⟨h1, h2⟩
    · exact .inl ⟨id, _, hm, hb⟩
    · rcases hnew b' ⟨i, r, h2, hb⟩ with ⟨j, r', hj, hb'⟩ | h3
      · exact .inl ⟨j, r', (hdel j r' hj).2, hb'⟩
      · exact .inr h3
end
/-- as 'AppN.to', and the room; what has no elements may lie anywhere -/
theorem AppN.toR {V : View} {mem : Nat → Option Res} {g : Option Nat} {v : Value} {n size bytes m cap : Nat} {base : Option Addr} {K : Value → Nat → View → Prop} (n' : Nat) (hn' : n + m = n') (xs news : List Value) (hx : V.cells v xs) (hxl : xs.length = n * size)
    (hn : m = 0 ∨ V.cells (.slice base m cap) news) (hnl : news.length = m * size) (h1 : allOne news = true) (hm : n' ≤ 100000) (hb : bytes ≤ 100000)
    (k : ∀ base cap V', V.le V' → V'.cells (.slice base n' cap) (xs ++ news) → n' ≤ cap → K (.slice base n' cap) n' V') : AppN V mem g v n size bytes (.slice base m cap) K := by
  subst hn'
  refine ⟨⟨xs, news, m, hx, hxl, ⟨_, _, rfl⟩, hn, hnl, allOne_spec h1, Nat.le_trans hm (by decide), ?_, fun v' V' hle hc hv' _ => ?_⟩⟩
  · exact Nat.le_trans (Nat.mul_le_mul hm hb) (by decide)
  · obtain ⟨base', cap', rfl, hcap⟩ := hv'
    exact k base' cap' V' hle hc hcap
/-- as 'AppN.to', and the room -/
theorem AppN.toc {V : View} {mem : Nat → Option Res} {g : Option Nat} {v : Value} {n size bytes m cap : Nat} {base : Option Addr} {K : Value → Nat → View → Prop} (n' : Nat) (hn' : n + m = n') (xs news : List Value) (hx : V.cells v xs) (hxl : xs.length = n * size)
    (hn : V.cells (.slice base m cap) news) (hnl : news.length = m * size) (h1 : allOne news = true) (hm : n' ≤ 100000) (hb : bytes ≤ 100000)
    (k : ∀ base cap V', V.le V' → V'.cells (.slice base n' cap) (xs ++ news) → n' ≤ cap → K (.slice base n' cap) n' V') : AppN V mem g v n size bytes (.slice base m cap) K := by
  subst hn'
  refine ⟨⟨xs, news, m, hx, hxl, ⟨_, _, rfl⟩, .inr hn, hnl, allOne_spec h1, Nat.le_trans hm (by decide), ?_, fun v' V' hle hc hv' _ => ?_⟩⟩
  · exact Nat.le_trans (Nat.mul_le_mul hm hb) (by decide)
  · obtain ⟨base', cap', rfl, hcap⟩ := hv'
    exact k base' cap' V' hle hc hcap
end Go.X
end

section
set_option linter.unusedSimpArgs false
set_option linter.unusedVariables false
set_option linter.unusedSectionVars false
set_option linter.deprecated false
/-! # Own boxes that are read and written through plain pointers -/
namespace Go.X
section
variable {P : Program}
/-- a load out of an own box -/
theorem LoadN.own {V : View} {mem : Nat → Option Res} {b off n : Nat} {K : List Value → Prop} (id : Nat) {t : TypeId} {cells l : List Value} (hm : mem id = some (.box b t cells)) (hle : off + n ≤ cells.length) (hl : (cells.drop off).take n = l) (hK : K l) : LoadN V mem b off n K :=
  ⟨⟨l, by rw [← hl, List.length_take, List.length_drop]; omega, .inr ⟨id, t, cells, hm, hle, hl.symm⟩, hK⟩⟩
/-- a store into an own box -/
theorem StoN.own {mem : Nat → Option Res} {b off : Nat} {cells : List Value} {K : (Nat → Option Res) → Prop} (id : Nat) {t : TypeId} {old : List Value} (hm : mem id = some (.box b t old)) (hle : off + cells.length ≤ old.length) (hK : K (upd mem id (.box b t (setAt old off cells)))) : StoN mem b off cells K :=
  ⟨⟨id, t, old, hm, hle, hK⟩⟩
/-- **a box's first cells are lent** while a call runs: what the view tells afterwards of other blocks stays -/
theorem CallN.lendP (id : Nat) {f : FuncId} {args : List Value} {V : View} {mem : Nat → Option Res} {K : SV → View → (Nat → Option Res) → Prop} {b : Nat} {t : TypeId} {pre ex : List Value} (hm : mem id = some (.box b t (pre ++ ex)))
    (hx : V.le (V.add b pre) → CallN P f args (V.add b pre) (del mem id) (fun s V' mem' => (∃ x, s = .v x) ∧ mem' id = none ∧ ((∀ o u, V' b o = some u → pre[o]? = some u) → V.le (V'.cut b) → K s (V'.cut b) (upd mem' id (.box b t (pre ++ ex)))))) : CallN P f args V mem K := by
  refine ⟨fun w hw => ?_⟩
  have hbox : Res.ok w V (.box b t (pre ++ ex)) := hw.ok id _ hm
  obtain ⟨hcells, hnone⟩ := hbox
  have hle : V.le (V.add b pre) := View.add_le hnone
  have hdel : ∀ i r, del mem id i = some r → i ≠ id ∧ mem i = some r := fun i r hi => by
    by_cases h : i = id
    · subst h; simp [del] at hi
    · exact ⟨h, by rwa [del_ne _ h] at hi⟩
  have hfree : ∀ i r, del mem id i = some r → r.blk ≠ some b := fun i r hi hb => by
    obtain ⟨h1, h2⟩ := hdel i r hi
    exact hw.apart i id r _ b h1 h2 hm hb rfl
  have hpre : MPre (del mem id) (V.add b pre) w := by
    refine ⟨fun b' o v hv => ?_, fun i r hi => ?_, fun i j r r' b' hij hi hj => hw.apart i j r r' b' hij (hdel i r hi).2 (hdel j r' hj).2⟩
    · unfold View.add at hv
      split at hv
      · rename_i he
        subst he
        rw [cell_box hcells, List.getElem?_append_left (List.getElem?_eq_some_iff.1 hv).1]; exact hv
      · exact hw.sub b' o v hv
    · obtain ⟨h1, h2⟩ := hdel i r hi
      refine (hw.ok i r h2).keep (fun _ _ => rfl) fun b' hb' o hn => ?_
      have : b' ≠ b := fun e => hfree i r hi (by rw [hb', e])
      unfold View.add
      rw [if_neg this]; exact hn
  refine ((hx hle).run w hpre).mono fun e w' ⟨v, s, V', mem', he, hv, ⟨⟨x, hs⟩, hmem, hK⟩, hsame, hp, hk, hg, hnew⟩ => ?_
  subst hs
  have hblt : b < w.heap.size := by
    have := (Array.getElem?_eq_some_iff.1 hcells).1
    exact this
  have hMb : ¬ blksM (del mem id) b := fun ⟨i, r, hi, hb⟩ => hfree i r hi hb
  have hbk : w'.heap[b]? = w.heap[b]? := hk.block b hblt hMb
  have hout : ∀ i r, mem' i = some r → r.blk ≠ some b := fun i r hi hb => by
    rcases hnew b ⟨i, r, hi, hb⟩ with h1 | h1
    · exact hMb h1
    · omega
  have hup : ∀ i r, upd mem' id (.box b t (pre ++ ex)) i = some r → (i = id ∧ r = .box b t (pre ++ ex)) ∨ (i ≠ id ∧ mem' i = some r) := fun i r hi => by
    by_cases h : i = id
    · subst h; rw [upd_same, Option.some.injEq] at hi; exact .inl ⟨rfl, hi.symm⟩
    · rw [upd_ne _ _ h] at hi; exact .inr ⟨h, hi⟩
  have hVb : ∀ o u, V' b o = some u → pre[o]? = some u := fun o u hu => by
    rcases hg.2 b o u hu with h1 | h1 | h1
    · unfold View.add at h1; rw [if_pos rfl] at h1; exact h1
    · omega
    · exact absurd h1 hMb
  have hVc : V.le (V'.cut b) := fun k o u hu => by
    have hkb : k ≠ b := fun e => by rw [e, hnone o] at hu; cases hu
    exact View.cut_of (hg.1 k o u (hle k o u hu)) hkb
  refine ⟨v, .v x, V'.cut b, upd mem' id (.box b t (pre ++ ex)), he, hv, hK hVb hVc, fun s y hy => ?_, ⟨fun b' o u hu => hp.sub b' o u (View.cut_some hu).2, fun i r hi => ?_, fun i j r r' c hij hi hj hb hb' => ?_⟩, ?_, ⟨hVc, fun b' o u hu => ?_⟩, fun b' hb' => ?_⟩
  · by_cases hn : s.name = some id
    · cases s with
      | v z => cases hn
      | kb z => cases hn
      | own i o =>
        simp only [SV.name, Option.some.injEq] at hn; subst hn
        simp only [toVal, hm] at hy
        simp only [toVal, upd_same]; exact hy
      | row i =>
        simp only [SV.name, Option.some.injEq] at hn; subst hn
        simp [toVal, hm] at hy
    · have h1 : toVal (del mem id) s = some y := by rw [← hy]; exact toVal_of fun i hi => del_ne _ (fun e => hn (by rw [hi, e]))
      have h2 := hsame s y h1
      rw [← h2]; exact toVal_of fun i hi => upd_ne _ _ (fun e => hn (by rw [hi, e]))
  · rcases hup i r hi with ⟨_, rfl⟩ | ⟨h1, h2⟩
    · exact ⟨by rw [hbk]; exact hcells, fun o => by unfold View.cut; rw [if_pos rfl]⟩
    · exact (hp.ok i r h2).keep (fun _ _ => rfl) fun b' _ o hn => by unfold View.cut; split; · rfl
                                                                     · exact hn
  · rcases hup i r hi with ⟨h1, rfl⟩ | ⟨h1, h2⟩
    · rcases hup j r' hj with ⟨h3, rfl⟩ | ⟨h3, h4⟩
      · exact hij (h1.trans h3.symm)
      · simp only [Res.blk, Option.some.injEq] at hb
        exact hout j r' h4 (by rw [hb', hb])
    · rcases hup j r' hj with ⟨h3, rfl⟩ | ⟨h3, h4⟩
      · simp only [Res.blk, Option.some.injEq] at hb'
        exact hout i r h2 (by rw [hb, hb'])
      · exact hp.apart i j r r' c hij h2 h4 hb hb'
  · exact ⟨hk.os, hk.tape, hk.output, hk.drawn, hk.size, fun k hk1 hk2 => hk.block k hk1 (fun ⟨i, r, hi, hb⟩ => hk2 ⟨i, r, (hdel i r hi).2, hb⟩), hk.thaw⟩
  · obtain ⟨h1, h2⟩ := View.cut_some hu
    rcases hg.2 b' o u h2 with h3 | h3 | ⟨i, r, hi, hb⟩
    · unfold View.add at h3; rw [if_neg h1] at h3; exact .inl h3
    · exact .inr (.inl h3)
    · exact .inr (.inr ⟨i, r, (hdel i r hi).2, hb⟩)
  · obtain ⟨i, r, hi, hb⟩ := hb'
    rcases hup i r hi with ⟨h1, rfl⟩ | ⟨h1, h2⟩
    · exact .inl ⟨id, _, hm, hb⟩
    · rcases hnew b' ⟨i, r, h2, hb⟩ with ⟨j, r', hj, hb'⟩ | h3
      · exact .inl ⟨j, r', (hdel j r' hj).2, hb'⟩
      · exact .inr h3
/-- a call that is handed one box, gives it back, and a resource more -/
theorem CallN.boxNew (id d : Nat) {f : FuncId} {args : List Value} {V : View} {mem : Nat → Option Res} {R : Value → View → List Res → Prop} {K : SV → View → (Nat → Option Res) → Prop} {b : Nat} {t : TypeId} {cells : List Value} (hm : mem id = some (.box b t cells)) (hd : mem d = none)
    (h : Does P f args V [.box b t cells] R)
    (k : ∀ v V' bs', V.le V' → R v V' bs' → ∃ t' cells' r, bs' = [r, .box b t' cells'] ∧ K (.v v) V' (upd (upd (del mem id) id (.box b t' cells')) d r)) : CallN P f args V mem K := by
  have hne : d ≠ id := fun e => by subst e; rw [hd] at hm; cases hm
  refine CallN.gen [id] (by simp) (bs := [.box b t cells]) (by simp [hm]) h fun v V' bs' hle hR => ?_
  obtain ⟨t', cells', r, hb, hK⟩ := k v V' bs' hle hR
  refine ⟨[(d, r), (id, .box b t' cells')], .v v, by simp [hb], by simpa using hne, fun s x hx => ?_, rfl, hK⟩
  show toVal (upd (upd (del mem id) id (.box b t' cells')) d r) s = some x
  by_cases h1 : s.name = some d
  · cases s with
    | v z => cases h1
    | kb z => cases h1
    | own i o => simp only [SV.name, Option.some.injEq] at h1; subst h1; simp [toVal, hd] at hx
    | row i => simp only [SV.name, Option.some.injEq] at h1; subst h1; simp [toVal, hd] at hx
  · have e1 : toVal (upd (upd (del mem id) id (.box b t' cells')) d r) s = toVal (upd (del mem id) id (.box b t' cells')) s := toVal_of fun i hi => upd_ne _ _ (fun e => h1 (by rw [hi, e]))
    rw [e1]
    by_cases h2 : s.name = some id
    · cases s with
      | v z => cases h2
      | kb z => cases h2
      | own i o =>
        simp only [SV.name, Option.some.injEq] at h2; subst h2
        simp only [toVal, hm] at hx
        simp only [toVal, upd_same]; exact hx
      | row i => simp only [SV.name, Option.some.injEq] at h2; subst h2; simp [toVal, hm] at hx
    · rw [← hx]
      exact toVal_of fun i hi => by rw [upd_ne _ _ (fun e => h2 (by rw [hi, e])), del_ne _ (fun e => h2 (by rw [hi, e]))]
theorem memOf_append_left {l1 l2 : List (Nat × Res)} {i : Nat} (h : ∀ x ∈ l1, x.1 ≠ i) : memOf (l1 ++ l2) i = memOf l2 i := by
  induction l1 with
  | nil => rfl
  | cons x l1 ih =>
    obtain ⟨j, r⟩ := x
    show upd (memOf (l1 ++ l2)) j r i = _
    rw [upd_ne _ _ (fun e => h (j, r) List.mem_cons_self e.symm)]
    exact ih fun y hy => h y (List.mem_cons_of_mem _ hy)
/-- resources without fixed number: the j-th under the name j + 1000 -/
def dynR (mk : Value → Res) : Nat → List Value → List (Nat × Res)
  | _, [] => []
  | k, c :: l => (k + 1000, mk c) :: dynR mk (k + 1) l
theorem memOf_dynR {mk : Value → Res} : ∀ (l : List Value) (k j : Nat), memOf (dynR mk k l) (j + 1000) = if k ≤ j then (match l[j - k]? with | some c => some (mk c) | none => none) else none
  | [], k, j => by simp [dynR, memOf]
  | c :: l, k, j => by
    show upd (memOf (dynR mk (k + 1) l)) (k + 1000) (mk c) (j + 1000) = _
    by_cases h : j = k
    · subst h; rw [upd_same, if_pos (Nat.le_refl _), Nat.sub_self]; rfl
    · rw [upd_ne _ _ (by omega), memOf_dynR l (k + 1) j]
      by_cases h1 : k + 1 ≤ j
      · rw [if_pos h1, if_pos (by omega), show j - k = (j - (k + 1)) + 1 by omega, List.getElem?_cons_succ]
      · rw [if_neg h1, if_neg (by omega)]
theorem keeps_dynR {mk : Value → Res} {st : St} : ∀ (l : List Value) (k : Nat), (∀ j c, l[j]? = some c → st.mem (k + j + 1000) = some (mk c)) → st.keeps (dynR mk k l)
  | [], k, _ => trivial
  | c :: l, k, h => ⟨.inl (h 0 c rfl), keeps_dynR l (k + 1) fun j c' hj => by
      have := h (j + 1) c' (by simpa using hj)
      rw [show k + 1 + j + 1000 = k + (j + 1) + 1000 by omega]
      exact this⟩
theorem dynR_snd {mk : Value → Res} : ∀ (l : List Value) (k : Nat), (dynR mk k l).map (·.2) = l.map mk
  | [], k => rfl
  | c :: l, k => by show mk c :: _ = mk c :: _; rw [dynR_snd l (k + 1)]
theorem dynR_fst {mk : Value → Res} : ∀ (l : List Value) (k : Nat), ∀ i ∈ (dynR mk k l).map (·.1), k + 1000 ≤ i
  | [], k, i, h => by cases h
  | c :: l, k, i, h => by
    rcases List.mem_cons.1 h with rfl | h
    · exact Nat.le_refl _
    · have := dynR_fst l (k + 1) i h; omega
theorem dynR_nodup {mk : Value → Res} : ∀ (l : List Value) (k : Nat), ((dynR mk k l).map (·.1)).Nodup
  | [], k => List.nodup_nil
  | c :: l, k => by
    show (_ :: (dynR mk (k + 1) l).map (·.1)).Nodup
    refine List.nodup_cons.2 ⟨fun h => ?_, dynR_nodup l (k + 1)⟩
    have h2 : k + 1 + 1000 ≤ k + 1000 := dynR_fst l (k + 1) _ h
    omega
/-- append onto a slice without room -/
theorem AppF.to {V : View} {mem : Nat → Option Res} {v : Value} {n size bytes m cap : Nat} {base : Option Addr} {K : Value → Nat → View → Prop} (n' : Nat) (hn' : n + m = n') (xs news : List Value) (hx : V.cells v xs) (hxl : xs.length = n * size)
    (hn : m = 0 ∨ V.cells (.slice base m cap) news) (hnl : news.length = m * size) (h1 : allOne news = true) (hm : n' ≤ 100000) (hb : bytes ≤ 100000)
    (k : ∀ base cap V', V.le V' → V'.cells (.slice base n' cap) (xs ++ news) → n' ≤ cap → K (.slice base n' cap) n' V') : AppF V mem v n size bytes (.slice base m cap) K := by
  subst hn'
  refine ⟨⟨xs, news, m, hx, hxl, ⟨_, _, rfl⟩, hn, hnl, allOne_spec h1, Nat.le_trans hm (by decide), ?_, fun v' V' hle hc hv' _ => ?_⟩⟩
  · exact Nat.le_trans (Nat.mul_le_mul hm hb) (by decide)
  · obtain ⟨base', cap', rfl, hcap⟩ := hv'
    exact k base' cap' V' hle hc hcap
end
end Go.X
end
