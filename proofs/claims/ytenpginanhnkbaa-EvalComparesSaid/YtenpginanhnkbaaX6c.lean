/- One part of a proof: an evaluator of the model, shown right, and contracts that it yields. No condition beyond those that each theorem names. -/
import Derived.Test.YtenpginanhnkbaaX5b
namespace Go.X
open Go.RowKit
section
variable {P : Program} {w0 : World} {M : Nat → Prop} {V0 : View} {n : Nat} {st : St} {V : View} {a : Act} {w : World}

theorem Inv.drew (h : Inv w0 M V0 n st V a w) : Inv w0 M V0 n st V a w.drew :=
  ⟨h.defers, h.size, h.env, ⟨h.mp.sub, h.mp.ok, h.mp.apart⟩, ⟨h.kept.os, h.kept.tape, h.kept.output, h.kept.size, h.kept.block⟩, h.grows, h.new⟩

theorem Inv.appended (h : Inv w0 M V0 n st V a w) {v : Value} {e : TypeId} {size k m : Nat} {xs news : List Value} {v' : Value} {w' : World} (hok : (Res.row v e size k).ok w V)
    (hfree : ∀ g, rowBlk v = some g → (∀ i r, st.mem i = some r → r.blk ≠ some g) ∧ (M g ∨ w0.heap.size ≤ g)) (hxs : V.cells v xs) (hxl : xs.length = k * size) (hnl : news.length = m * size)
    (hA : Appended w v e size k m xs news v' w') :
    ∃ V', V.le V' ∧ V'.cells v' (xs ++ news) ∧ (∃ base cap, v' = .slice base (k + m) cap ∧ k + m ≤ cap) ∧ Inv w0 M V0 n st V' a w' ∧ (Res.row v' e size (k + m)).ok w' V' ∧
      (∀ g, rowBlk v' = some g → (∀ i r, st.mem i = some r → r.blk ≠ some g) ∧ (M g ∨ w0.heap.size ≤ g)) ∧ (∀ g, rowBlk v' = some g → rowBlk v = some g ∨ ∀ o, V g o = none) ∧
      ∀ b o u, V' b o = some u → V b o = some u ∨ rowBlk v' = some b := by
  cases hA with
  | same base cap hv hm =>
    subst hm
    have hn0 : news = [] := List.eq_nil_of_length_eq_zero (by simpa using hnl)
    subst hn0
    exact ⟨V, View.le_refl _, by simpa using hxs, ⟨base, cap, by simpa using hv, by
      subst hv
      rcases hok with ⟨b', he, rfl⟩ | ⟨g, c, cur, he, _, _, hl, _⟩
      · omega
      · injection he with _ _ h3; omega⟩, h, by simpa using hok, hfree, fun g hg => .inl hg, fun b o u hu => .inl hu⟩
  | room g cap cur hv hroom hg =>
    subst hv
    rcases hok with ⟨base, he, rfl⟩ | ⟨g', cap', cur', he, hc0, hg', hkc, hcm, hcs, hVg⟩
    · injection he with _ _ h3
      subst h3
      have hm0 : m = 0 := by omega
      subst hm0
      have hn0 : news = [] := List.eq_nil_of_length_eq_zero (by simpa using hnl)
      subst hn0
      have hw : w.setRow g (cur.toList.take (0 * size) ++ [] ++ cur.toList.drop (0 * size + ([] : List Value).length)).toArray = w := by
        simp only [Nat.zero_mul, List.take_zero, List.nil_append, List.length_nil, Nat.add_zero, List.drop_zero, Array.toArray_toList]
        exact setRow_self w g cur e (0, 0) hg
      rw [hw]
      exact ⟨V, View.le_refl _, by simpa using hxs, ⟨_, _, rfl, hroom⟩, h, .inl ⟨_, rfl, rfl⟩, hfree, fun g hg => .inl hg, fun b o u hu => .inl hu⟩
    · injection he with h2 _ h3
      simp only [Option.some.injEq, Addr.mk.injEq, and_true] at h2
      subst h2; subst h3
      rw [hg] at hg'
      simp only [Option.some.injEq, Obj.cells.injEq, and_true] at hg'
      obtain ⟨rfl, _⟩ := hg'
      have hlt : g < w.heap.size := (Array.getElem?_eq_some_iff.1 hg).1
      have hf := hfree g (by simp [rowBlk, hc0])
      have hcl : cur.toList.length = cap * size := by simpa using hcs
      have hks : k * size + news.length ≤ cap * size := by rw [hnl, ← Nat.add_mul]; exact Nat.mul_le_mul_right _ hroom
      have hxs' : ∀ (j : Nat) (u : Value), xs[j]? = some u → cur.toList[j]? = some u := fun j u hj => by
        have h1 := hxs j u hj
        simp only [Nat.zero_add] at h1
        have h2 := h.mp.sub _ _ _ h1
        rw [cell_of_row w g j _ _ _ hg] at h2
        simpa using h2
      -- the view with the new cells
      let V' : View := fun b o => if b = g ∧ k * size ≤ o ∧ o < k * size + news.length then news[o - k * size]? else V b o
      have hle : V.le V' := fun b o u hu => by
        show (if b = g ∧ k * size ≤ o ∧ o < k * size + news.length then news[o - k * size]? else V b o) = some u
        rw [if_neg]
        · exact hu
        · rintro ⟨rfl, h1, _⟩; rw [hVg o h1] at hu; cases hu
      have hnewc : ∀ b o u, V' b o = some u → V b o = some u ∨ (b = g ∧ k * size ≤ o ∧ news[o - k * size]? = some u) := fun b o u hu => by
        by_cases hc : b = g ∧ k * size ≤ o ∧ o < k * size + news.length
        · simp only [V', if_pos hc] at hu; exact .inr ⟨hc.1, hc.2.1, hu⟩
        · simp only [V', if_neg hc] at hu; exact .inl hu
      have hcell : ∀ o, (w.setRow g (cur.toList.take (k * size) ++ news ++ cur.toList.drop (k * size + news.length)).toArray).cell? ⟨g, o, none⟩ = (cur.toList.take (k * size) ++ news ++ cur.toList.drop (k * size + news.length))[o]? := fun o => by
        rw [cell_setRow_same w g o _ _ e (0, 0) hg]; simp
      have htl : (cur.toList.take (k * size)).length = k * size := by rw [List.length_take, hcl]; omega
      have hsub : Sub V' (w.setRow g (cur.toList.take (k * size) ++ news ++ cur.toList.drop (k * size + news.length)).toArray) := by
        intro b o u hu
        rcases hnewc b o u hu with h1 | ⟨rfl, h1, h2⟩
        · by_cases hb : b = g
          · subst hb
            have ho : o < k * size := by
              rcases Nat.lt_or_ge o (k * size) with h2 | h2
              · exact h2
              · rw [hVg o h2] at h1; cases h1
            have h2 := h.mp.sub _ _ _ h1
            rw [cell_of_row w b o _ _ _ hg] at h2
            rw [hcell, List.append_assoc, List.getElem?_append_left (by rw [htl]; exact ho), List.getElem?_take, if_pos ho]
            simpa using h2
          · rw [cell_keep (setRow_other w g b _ hb)]
            exact h.mp.sub _ _ _ h1
        · have hlt2 : o - k * size < news.length := (List.getElem?_eq_some_iff.1 h2).1
          rw [hcell, List.append_assoc, List.getElem?_append_right (by rw [htl]; exact h1), htl, List.getElem?_append_left hlt2]
          exact h2
      have hinv := h.change (g := g) (V' := V') (w' := w.setRow g (cur.toList.take (k * size) ++ news ++ cur.toList.drop (k * size + news.length)).toArray) rfl rfl rfl (by simp [World.setRow])
        (fun b _ hb => setRow_other w g b _ hb) hf.1 hf.2 hsub hle (fun b o u hu => (hnewc b o u hu).imp id (fun hx => hx.1))
      refine ⟨V', hle, ?_, ⟨_, _, rfl, hroom⟩, hinv, .inr ⟨g, cap, _, rfl, hc0, setRow_heap w g _ _ e _ hg, hroom, hcm, ?_, ?_⟩, fun g' hg' => ?_, fun g' hg' => .inl ?_, fun b o u hu => ?_⟩
      · intro j u hj
        simp only [Nat.zero_add]
        rcases Nat.lt_or_ge j xs.length with hlt2 | hge
        · rw [List.getElem?_append_left hlt2] at hj
          have := hle _ _ _ (hxs j u hj)
          simpa using this
        · rw [List.getElem?_append_right hge, hxl] at hj
          have hlt2 : j - k * size < news.length := (List.getElem?_eq_some_iff.1 hj).1
          have hge' : k * size ≤ j := by omega
          show (if g = g ∧ k * size ≤ j ∧ j < k * size + news.length then news[j - k * size]? else V g j) = some u
          rw [if_pos ⟨rfl, hge', by omega⟩]
          exact hj
      · simp only [List.size_toArray, List.length_append, htl, List.length_drop, hcl]; omega
      · intro o ho
        show (if g = g ∧ k * size ≤ o ∧ o < k * size + news.length then news[o - k * size]? else V g o) = none
        rw [Nat.add_mul, ← hnl] at ho
        rw [if_neg (by omega)]
        exact hVg o (by omega)
      · simp only [rowBlk, hc0, if_false, Option.some.injEq] at hg'
        subst hg'
        exact hf
      · simpa [rowBlk, hc0] using hg'
      · rcases hnewc b o u hu with h1 | ⟨rfl, _, _⟩
        · exact .inl h1
        · exact .inr (by simp [rowBlk, hc0])
  | grown cap rest hroom hc0 hcm hcs =>
    have h1 := h.drew
    have hs := newBlk_none h.mp.sub
    have hfree2 : ∀ i r, st.mem i = some r → r.blk ≠ some w.heap.size := fun i r hr hb => absurd (blk_lt (h.mp.ok i r hr) hb) (Nat.lt_irrefl _)
    have hheap : (w.drew.alloc (.cells (xs.toArray ++ news.toArray ++ rest) e)).heap[w.heap.size]? = some (.cells (xs.toArray ++ news.toArray ++ rest) e (0, 0)) := heap_alloc_new w.drew _
    have hinv := h.change (g := w.heap.size) (V' := V.add w.heap.size (xs ++ news)) (w' := w.drew.alloc (.cells (xs.toArray ++ news.toArray ++ rest) e)) rfl rfl rfl (by simp)
      (fun b hb _ => alloc_old w.drew _ hb) hfree2 (.inr h.kept.size) (fun b o u hu => by
        unfold View.add at hu
        by_cases hb : b = w.heap.size
        · subst hb
          rw [if_pos rfl] at hu
          rw [cell_of_row _ _ _ _ _ _ hheap]
          have hlt := (List.getElem?_eq_some_iff.1 hu).1
          rw [Array.getElem?_append_left (by simpa using hlt)]
          rw [← hu]; simp
        · rw [if_neg hb] at hu
          rw [cell_keep (alloc_old w.drew _ (sub_lt h.mp.sub hu))]
          exact h.mp.sub _ _ _ hu) (View.add_le hs) (fun b o u hu => by
        unfold View.add at hu
        by_cases hb : b = w.heap.size
        · exact .inr hb
        · rw [if_neg hb] at hu; exact .inl hu)
    refine ⟨_, View.add_le hs, View.add_has, ⟨_, _, rfl, hroom⟩, hinv, .inr ⟨w.heap.size, cap, _, rfl, hc0, hheap, hroom, hcm, ?_, ?_⟩, fun g' hg' => ?_, fun g' hg' => .inr ?_, fun b o u hu => ?_⟩
    · simp only [Array.size_append, List.size_toArray]; exact hcs
    · intro o ho
      simp only [View.add, if_true]
      rw [List.getElem?_eq_none]
      rw [List.length_append, hxl, hnl, ← Nat.add_mul]
      exact ho
    · simp only [rowBlk, hc0, if_false, Option.some.injEq] at hg'
      subst hg'
      exact ⟨hfree2, .inr h.kept.size⟩
    · simp only [rowBlk, hc0, if_false, Option.some.injEq] at hg'
      subst hg'
      exact hs
    · unfold View.add at hu
      by_cases hb : b = w.heap.size
      · exact .inr (by simp [rowBlk, hc0, hb])
      · rw [if_neg hb] at hu; exact .inl hu

theorem xop_sound {o : Oper} {K : St → View → Prop} {next : Act → World → Prop} {Q : Exit → Act → World → Prop} (h : Inv w0 M V0 n st V a w) (hx : xop P o st V K) (hd : ∀ d, o.dst = some d → d < n)
    (hK : ∀ st' V' a' w', Inv w0 M V0 n st' V' a' w' → K st' V' → next a' w') : o.wp P a w next Q := by
  unfold xop at hx
  have hs := effOf_sound (P := P) h o
  unfold Oper.wp
  generalize effOf P o st = e at hx hs
  cases e with
  | val s =>
    obtain ⟨v, hv, hr⟩ := hs
    rw [hr]
    exact hK _ _ _ _ (h.put hd hv) hx
  | pick c s t =>
    obtain ⟨v1, v2, h1, h2, hr⟩ := hs
    rw [hr]
    cases c with
    | true => exact hK _ _ _ _ (h.put hd h1) (hx.yes rfl)
    | false => exact hK _ _ _ _ (h.put hd h2) (hx.no rfl)
  | ldv t b off k =>
    obtain ⟨l, hl, hV, hv⟩ := hx.get
    split at hv
    · rename_i v hav
      rw [hs l v hl hV hav]
      exact hK _ _ _ _ (h.put hd rfl) hv
    · exact hv.no.elim
  | idx base len i size =>
    obtain ⟨b, off, hb, h0, hl, hk⟩ := hx.get
    rw [hs b off hb h0 hl]
    exact hK _ _ _ _ (h.put hd rfl) hk
  | sem s =>
    obtain ⟨v, hv, hk⟩ := hx.get
    rw [hs v hv]
    exact hK _ _ _ _ (h.put hd rfl) hk
  | box t cells =>
    simp only [EffSem] at hs
    rw [hs]
    simp only [effRun] at hx
    split at hx
    · rename_i d hdd
      simp only [Oper.upon]
      rw [hdd]
      exact hK _ _ _ _ (h.newBox (hd d hdd) t cells) (hx _)
    · exact hx.no.elim
  | lit e len cells =>
    simp only [EffSem] at hs
    rw [hs]
    exact hK _ _ _ _ (h.newRow hd e cells len) (hx _ _ (View.add_le (newBlk_none h.mp.sub)) View.add_has)
  | sto id off cells =>
    simp only [effRun] at hx
    split at hx
    · rename_i b t old hm
      split at hx
      · rename_i hle
        rw [hs b t old hm (Nat.le_of_ble_eq_true hle)]
        exact hK _ _ _ _ ((h.store hm).put hd rfl) hx
      · exact hx.no.elim
    · exact hx.no.elim
  | call f args =>
    simp only [EffSem] at hs
    rw [hs]
    refine (hx.run w h.mp).mono fun e w' ⟨v, s, V', mem', he, hv, hKs, hsame, hp, hk, hg, hn⟩ => ?_
    subst he
    exact hK _ _ _ _ ((h.called hsame hp hk hg hn).put hd hv) hKs
  | app s e size bytes x =>
    obtain ⟨t, i, z, vs, hvs, ht, hi, hz, rfl, rfl, hzs, hsz, hr⟩ := hs
    simp only [effRun] at hx
    split at hx
    · rename_i d hdd
      have hdn := hd d hdd
      rw [hr]
      split at hx
      · rename_i id
        split at hx
        · rename_i v ty sz k hm
          split at hx
          · rename_i hty hszz
            have hty := Nat.eq_of_beq_eq_true hty
            have hszz := Nat.eq_of_beq_eq_true hszz
            subst hty; subst hszz
            obtain ⟨xs, news, m, hxs, hxl, hxx, hnews, hnl, h1, h63, hby, hKn⟩ := hx.get
            simp only [toVal, hm, Option.some.injEq] at hvs
            subst hvs
            have hok := h.mp.ok id _ hm
            obtain ⟨v', w', hrun, hA⟩ := run_appended (P := P) (ty := o.type) ht hi hz hzs hsz hok h.mp.sub hxs hxl hxx hnews hnl h1 h63 hby
            have hf := h.forget id
            obtain ⟨V', hle, hc, hsl, hinv, hok', hfr, hf1, hf2⟩ := hf.appended hok (fun g hg => ⟨fun i' r' hr' hb => by
              have hr' : del st.mem id i' = some r' := hr'
              have hne : i' ≠ id := fun e => by subst e; rw [del_same] at hr'; cases hr'
              rw [del_ne _ hne] at hr'
              exact h.mp.apart id i' _ r' g (Ne.symm hne) hm hr' hg hb, h.new g ⟨id, _, hm, hg⟩⟩) hxs hxl hnl hA
            rw [hrun]
            simp only [Result.andThen_ok, Oper.upon, hdd]
            have hadd := hinv.addRow hdn hok' (fun g hg => ⟨fun i' r' _ hr' => (hfr g hg).1 i' r' hr', (hfr g hg).2⟩)
            have hK1 := hKn v' V' hle hc hsl ⟨hf1, hf2, fun i' r' hr' hne g hg => (hfr g hg).1 i' r' (by
              show del st.mem id i' = some r'
              rw [del_ne _ (fun e => hne (by rw [e]))]; exact hr')⟩
            exact hK _ _ _ _ hadd hK1
          · exact hx.no.elim
        · exact hx.no.elim
      · rename_i base
        obtain ⟨xs, news, m, hxs, hxl, hxx, hnews, hnl, h1, h63, hby, hKn⟩ := hx.get
        simp only [toVal, Option.some.injEq] at hvs
        subst hvs
        have hok : (Res.row (.slice base 0 0) e i.size 0).ok w V := .inl ⟨base, rfl, rfl⟩
        obtain ⟨v', w', hrun, hA⟩ := run_appended (P := P) (ty := o.type) ht hi hz hzs hsz hok h.mp.sub hxs hxl hxx hnews hnl h1 h63 hby
        obtain ⟨V', hle, hc, hsl, hinv, hok', hfr, hf1, hf2⟩ := h.appended hok (fun g hg => by cases base <;> simp [rowBlk] at hg) hxs hxl hnl hA
        rw [hrun]
        simp only [Result.andThen_ok, Oper.upon, hdd]
        exact hK _ _ _ _ (hinv.addRow hdn hok' (fun g hg => ⟨fun i' r' _ hr' => (hfr g hg).1 i' r' hr', (hfr g hg).2⟩)) (hKn v' V' hle hc hsl ⟨hf1, hf2, fun i' r' hr' _ g hg => (hfr g hg).1 i' r' hr'⟩)
      · exact hx.no.elim
    · exact hx.no.elim
  | bad => exact hx.no.elim
end
end Go.X
