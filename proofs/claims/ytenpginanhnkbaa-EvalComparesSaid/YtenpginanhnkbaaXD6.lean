/- One part of a proof: an evaluator of the model, shown right, and contracts that it yields. No condition beyond those that each theorem names. -/
import Derived.Test.YtenpginanhnkbaaXD5
namespace Go.X
open Go.RowKit
section
variable {P : Program} {ops : Array Oper}

theorem addU_nil (V : View) (b : Nat) : V.addU b [] = V := by
  funext k o
  unfold View.addU
  cases h : V k o with
  | none => simp
  | some v => rfl
theorem addU_some {V : View} {b : Nat} {cells : List Value} {k o : Nat} {u : Value} (h : V.addU b cells k o = some u) : V k o = some u ∨ (k = b ∧ cells[o]? = some u) := by
  unfold View.addU at h
  cases hv : V k o with
  | some v => rw [hv] at h; exact .inl h
  | none =>
    rw [hv] at h
    simp only at h
    split at h
    · rename_i hk; exact .inr ⟨hk, h⟩
    · cases h
theorem addU_ne {V : View} {b : Nat} {cells : List Value} {k o : Nat} (h : k ≠ b) : V.addU b cells k o = V k o := by
  unfold View.addU
  cases hv : V k o with
  | some v => rfl
  | none => simp [h]
theorem LitOk.first {V : View} {mem : Nat → Option Res} {b : Nat} {cells : List Value} (h : LitOk V mem b cells) (hc : cells ≠ []) : ∃ u, V.addU b cells b 0 = some u := by
  cases cells with
  | nil => exact absurd rfl hc
  | cons c l => exact ⟨c, by have := h.has 0 c rfl; simpa using this⟩

/-- a call does as well with a box more that stays with the caller -/
theorem CallN.frameBox {f : FuncId} {args : List Value} {V : View} {mem : Nat → Option Res} {K1 K2 : SV → View → (Nat → Option Res) → Prop} {d blk : Nat} {t : TypeId} {cells : List Value} (hd : mem d = none)
    (h : CallN P f args V mem K1) (hk : ∀ s V' mem', (∀ o, V' blk o = none) → K1 s V' mem' → mem' d = none ∧ K2 s V' (upd mem' d (.box blk t cells))) :
    CallN P f args V (upd mem d (.box blk t cells)) K2 := by
  refine ⟨fun w hw => ?_⟩
  have hne : ∀ i r, mem i = some r → i ≠ d := fun i r hr e => by subst e; rw [hd] at hr; cases hr
  have hup : ∀ i r, mem i = some r → upd mem d (.box blk t cells) i = some r := fun i r hr => by rw [upd_ne _ _ (hne i r hr)]; exact hr
  have hw0 : MPre mem V w := ⟨hw.sub, fun i r hr => hw.ok i r (hup i r hr), fun i j r r' b hij hi hj => hw.apart i j r r' b hij (hup i r hi) (hup j r' hj)⟩
  have hbox := hw.ok d _ (upd_same _ _ _)
  have hlt : blk < w.heap.size := blk_lt hbox rfl
  have hnb : ¬ blksM mem blk := fun ⟨i, r, hr, hb⟩ => hw.apart i d r _ blk (hne i r hr) (hup i r hr) (upd_same _ _ _) hb rfl
  have hbm : ∀ b, blksM mem b → blksM (upd mem d (.box blk t cells)) b := fun b ⟨i, r, hr, hb⟩ => ⟨i, r, hup i r hr, hb⟩
  refine (h.run w hw0).mono fun e w' ⟨v, s, V', mem', he, hv, hK, hsame, hp, hkept, hg, hn⟩ => ?_
  have hVb : ∀ o, V' blk o = none := fun o => by
    cases hx : V' blk o with
    | none => rfl
    | some u =>
      rcases hg.2 blk o u hx with h1 | h1 | h1
      · rw [hbox.2 o] at h1; cases h1
      · omega
      · exact absurd h1 hnb
  obtain ⟨hmd, hK2⟩ := hk s V' mem' hVb hK
  have hnm : ∀ t x, toVal mem' t = some x → t.name ≠ some d := fun t x hx e => by
    cases t with
    | v y => cases e
    | kb y => cases e
    | own i o => simp only [SV.name, Option.some.injEq] at e; subst e; simp [toVal, hmd] at hx
    | row i => simp only [SV.name, Option.some.injEq] at e; subst e; simp [toVal, hmd] at hx
  have hlift2 : ∀ s x, toVal mem' s = some x → toVal (upd mem' d (.box blk t cells)) s = some x := fun s x hx => by
    rw [← hx]; exact toVal_of fun i hi => upd_ne _ _ (fun e => hnm s x hx (by rw [hi, e]))
  refine ⟨v, s, V', upd mem' d (.box blk t cells), he, hlift2 s v hv, hK2, fun s x hx => ?_, ⟨hp.sub, fun i r hr => ?_, fun i j r r' b hij hi hj hb hb' => ?_⟩, ⟨hkept.os, hkept.tape, hkept.output, hkept.size, fun k hk0 hm => hkept.block k hk0 (fun h1 => hm (hbm k h1))⟩, ⟨hg.1, fun b o u hu => ?_⟩, fun b hb => ?_⟩
  · by_cases hs : s.name = some d
    · cases s with
      | v y => cases hs
      | kb y => cases hs
      | own i o => simp only [SV.name, Option.some.injEq] at hs; subst hs; simpa [toVal, upd_same] using hx
      | row i => simp only [SV.name, Option.some.injEq] at hs; subst hs; simp [toVal, upd_same] at hx
    · refine hlift2 s x (hsame s x ?_)
      rw [← hx]; exact (toVal_of fun i hi => upd_ne _ _ (fun e => hs (by rw [hi, e]))).symm
  · by_cases hi : i = d
    · subst hi
      rw [upd_same, Option.some.injEq] at hr; subst hr
      exact ⟨(hkept.block blk hlt hnb).trans hbox.1, hVb⟩
    · rw [upd_ne _ _ hi] at hr; exact hp.ok i r hr
  · have hsep : ∀ j r', j ≠ d → mem' j = some r' → r'.blk ≠ some blk := fun j r' _ hj hb => by
      rcases hn blk ⟨j, r', hj, hb⟩ with h1 | h1
      · exact hnb h1
      · omega
    by_cases hid : i = d
    · subst hid
      rw [upd_same, Option.some.injEq] at hi; subst hi
      simp only [Res.blk, Option.some.injEq] at hb; subst hb
      rw [upd_ne _ _ (Ne.symm hij)] at hj
      exact hsep j r' (Ne.symm hij) hj hb'
    · rw [upd_ne _ _ hid] at hi
      by_cases hjd : j = d
      · subst hjd
        rw [upd_same, Option.some.injEq] at hj; subst hj
        simp only [Res.blk, Option.some.injEq] at hb'; subst hb'
        exact hsep i r hid hi hb
      · rw [upd_ne _ _ hjd] at hj
        exact hp.apart i j r r' b hij hi hj hb hb'
  · rcases hg.2 b o u hu with h1 | h1 | h1
    · exact .inl h1
    · exact .inr (.inl h1)
    · exact .inr (.inr (hbm b h1))
  · obtain ⟨i, r, hr, hrb⟩ := hb
    by_cases hi : i = d
    · subst hi
      rw [upd_same, Option.some.injEq] at hr; subst hr
      exact .inl ⟨i, _, upd_same _ _ _, hrb⟩
    · rw [upd_ne _ _ hi] at hr
      rcases hn b ⟨i, r, hr, hrb⟩ with h1 | h1
      · exact .inl (hbm b h1)
      · exact .inr h1

/-- a call does as well where a slice literal lies already -/
theorem CallN.frameLit {f : FuncId} {args : List Value} {V : View} {mem : Nat → Option Res} {K1 K2 : SV → View → (Nat → Option Res) → Prop} {b : Nat} {cells : List Value} (hb : LitOk V mem b cells)
    (h : CallN P f args V mem K1) (hk : ∀ s V' mem', LitOk V' mem' b cells → K1 s V' mem' → K2 s (V'.addU b cells) mem') : CallN P f args (V.addU b cells) mem K2 := by
  by_cases hc : cells = []
  · subst hc
    rw [addU_nil]
    refine ⟨fun w hw => (h.run w hw).mono fun e w' ⟨v, s, V', mem', he, hv, hK, rest⟩ => ⟨v, s, V', mem', he, hv, ?_, rest⟩⟩
    have := hk s V' mem' ⟨by rw [addU_nil]; intro i v hi; simp at hi, fun h => absurd rfl h⟩ hK
    rwa [addU_nil] at this
  · obtain ⟨u0, hu0⟩ := hb.first hc
    refine ⟨fun w hw => ?_⟩
    have hlt : b < w.heap.size := sub_lt hw.sub hu0
    have hle : V.le (V.addU b cells) := View.addU_le _ _ _
    have hnone : ∀ k o, V.addU b cells k o = none → V k o = none := fun k o hn => by
      cases hv : V k o with
      | none => rfl
      | some v => rw [hle _ _ _ hv] at hn; cases hn
    have hnb : ¬ blksM mem b := fun ⟨i, r, hr, hrb⟩ => hb.free hc i r hr hrb
    have hw0 : MPre mem V w := ⟨fun k o v hv => hw.sub k o v (hle _ _ _ hv), fun i r hr => (hw.ok i r hr).keep (fun _ _ => rfl) (fun k _ o hn => hnone k o hn), hw.apart⟩
    refine (h.run w hw0).mono fun e w' ⟨v, s, V', mem', he, hv, hK, hsame, hp, hkept, hg, hn⟩ => ?_
    have hcell : ∀ i c, cells[i]? = some c → w'.cell? ⟨b, i, none⟩ = some c := fun i c hi => by
      rw [cell_keep (hkept.block b hlt hnb)]
      have := hb.has i c hi
      rw [Nat.zero_add] at this
      exact hw.sub _ _ _ this
    have hfree' : ∀ i r, mem' i = some r → r.blk ≠ some b := fun i r hr hrb => by
      rcases hn b ⟨i, r, hr, hrb⟩ with h1 | h1
      · exact hnb h1
      · omega
    have hlit : LitOk V' mem' b cells := ⟨fun i c hi => by
      simp only [Nat.zero_add]
      unfold View.addU
      cases hx : V' b i with
      | none => simp only [if_true]; exact hi
      | some u =>
        simp only
        have h1 := hp.sub b i u hx
        rw [hcell i c hi] at h1
        exact h1.symm, fun _ => hfree'⟩
    refine ⟨v, s, V'.addU b cells, mem', he, hv, hk s V' mem' hlit hK, hsame, ⟨fun k o u hu => ?_, fun i r hr => ?_, hp.apart⟩, hkept, ⟨fun k o u hu => ?_, fun k o u hu => ?_⟩, hn⟩
    · rcases addU_some hu with h1 | ⟨rfl, h1⟩
      · exact hp.sub k o u h1
      · exact hcell o u h1
    · exact (hp.ok i r hr).keep (fun _ _ => rfl) (fun k hkb o hn => by rw [addU_ne (fun e => hfree' i r hr (by rw [hkb, e]))]; exact hn)
    · rcases addU_some hu with h1 | ⟨rfl, h1⟩
      · exact View.addU_le _ _ _ _ _ _ (hg.1 _ _ _ h1)
      · have := hlit.has o u h1; rwa [Nat.zero_add] at this
    · rcases addU_some hu with h1 | ⟨rfl, h1⟩
      · rcases hg.2 k o u h1 with h2 | h2 | h2
        · exact .inl (hle _ _ _ h2)
        · exact .inr (.inl h2)
        · exact .inr (.inr h2)
      · left
        have := hb.has o u h1
        rwa [Nat.zero_add] at this

/-- an append does as well where a slice literal lies already -/
theorem AppN.frameLit {V : View} {mem : Nat → Option Res} {gone : Option Nat} {v : Value} {n size bytes : Nat} {x : Value} {K1 K2 : Value → Nat → View → Prop} {b : Nat} {cells : List Value} (hb : LitOk V mem b cells)
    (hv : ∀ g, rowBlk v = some g → ∃ i r, mem i = some r ∧ r.blk = some g)
    (h : AppN V mem gone v n size bytes x K1) (hk : ∀ v' n' V', (cells ≠ [] → rowBlk v' ≠ some b) → (V'.addU b cells).has b 0 cells → K1 v' n' V' → K2 v' n' (V'.addU b cells)) :
    AppN (V.addU b cells) mem gone v n size bytes x K2 := by
  obtain ⟨xs, news, m, a1, a2, a3, a4, a5, a6, a7, a8, a9⟩ := h.get
  have hle : V.le (V.addU b cells) := View.addU_le _ _ _
  refine ⟨⟨xs, news, m, a1.mono hle, a2, a3, a4.mono hle, a5, a6, a7, a8, fun v' V2 hle2 hc hs hao => ?_⟩⟩
  by_cases hcn : cells = []
  · subst hcn
    rw [addU_nil] at hle2 hao
    have h1 := hk v' (n + m) V2 (fun h => absurd rfl h) (by rw [addU_nil]; intro i c hi; simp at hi) (a9 v' V2 hle2 hc hs hao)
    rwa [addU_nil] at h1
  · obtain ⟨u0, hu0⟩ := hb.first hcn
    have hvb : rowBlk v' ≠ some b := fun e => by
      rcases hao.blk b e with h1 | h1
      · obtain ⟨i, r, hr, hrb⟩ := hv b h1
        exact hb.free hcn i r hr hrb
      · rw [h1 0] at hu0; cases hu0
    -- the view without the literal
    let V0 : View := fun k o => if k = b then V k o else V2 k o
    have hV0b : ∀ o, V0 b o = V b o := fun o => by simp [V0]
    have hV0 : ∀ k o, k ≠ b → V0 k o = V2 k o := fun k o hne => by simp [V0, hne]
    have hle0 : V.le V0 := fun k o u hu => by
      by_cases hkb : k = b
      · subst hkb; rw [hV0b]; exact hu
      · rw [hV0 k o hkb]; exact hle2 _ _ _ (hle _ _ _ hu)
    have hadd : V0.addU b cells = V2 := by
      funext k o
      by_cases hkb : k = b
      · subst hkb
        have e1 : V0.addU k cells k o = V.addU k cells k o := by unfold View.addU; rw [hV0b]
        rw [e1]
        cases hx : V2 k o with
        | none =>
          cases hy : V.addU k cells k o with
          | none => rfl
          | some u => rw [hle2 _ _ _ hy] at hx; cases hx
        | some u =>
          rcases hao.new k o u hx with h1 | h1
          · exact h1
          · exact absurd h1 hvb
      · rw [addU_ne hkb, hV0 k o hkb]
    have hc0 : V0.cells v' (xs ++ news) := by
      obtain ⟨base, cap, rfl, hcap0⟩ := hs
      unfold View.cells at hc ⊢
      split at hc
      · rename_i g off nn cc hbeq
        simp only [Value.slice.injEq] at hbeq
        obtain ⟨rfl, rfl, rfl⟩ := hbeq
        by_cases hcap : cap = 0
        · have hl : (xs ++ news).length = 0 := by
            rw [List.length_append, a2, a5, ← Nat.add_mul, show n + m = 0 by omega, Nat.zero_mul]
          rw [List.eq_nil_of_length_eq_zero hl]
          intro i u hi
          simp at hi
        · have hgb : g ≠ b := fun e => hvb (by simp [rowBlk, hcap, e])
          intro i u hi
          rw [hV0 g _ hgb]; exact hc i u hi
      · exact hc
      · exact hc.elim
    have hao0 : AppOk V mem gone v v' V0 := ⟨fun g hg => (hao.blk g hg).imp id (fun hx o => by
      cases hy : V g o with
      | none => rfl
      | some u => have := hx o; rw [hle _ _ _ hy] at this; cases this), fun k o u hu => by
      by_cases hkb : k = b
      · subst hkb; rw [hV0b] at hu; exact .inl hu
      · rw [hV0 k o hkb] at hu
        rcases hao.new k o u hu with h1 | h1
        · rw [addU_ne hkb] at h1; exact .inl h1
        · exact .inr h1, hao.free⟩
    have h1 := hk v' (n + m) V0 (fun _ => hvb) (by rw [hadd]; exact fun i c hi => hle2 _ _ _ (hb.has i c hi)) (a9 v' V0 hle0 hc0 hs hao0)
    rwa [hadd] at h1
end
end Go.X
