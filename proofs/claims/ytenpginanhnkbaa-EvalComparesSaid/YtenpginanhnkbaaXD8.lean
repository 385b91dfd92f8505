/- One part of a proof: an evaluator of the model, shown right, and contracts that it yields. No condition beyond those that each theorem names. -/
import Derived.Test.YtenpginanhnkbaaXD7
namespace Go.X
open Go.RowKit
section
variable {P : Program} {ops : Array Oper}

theorem rowBlk_mem {mem : Nat → Option Res} {id : Nat} {v : Value} {ty : TypeId} {sz k : Nat} (hm : mem id = some (.row v ty sz k)) : ∀ g, rowBlk v = some g → ∃ i r, mem i = some r ∧ r.blk = some g := fun _ hg => ⟨id, _, hm, hg⟩

/-! ### a literal that comes ahead -/
theorem dQ_lit {x : Oper} {e : Eff} {aL aR : List Nat} {st : St} {V : View} {K1 : Upd → View → Prop} {K : St → View → Prop} {b : Nat} {cells : List Value} {dr : Option Nat} {sl : SV} (hsl : sl.name = none)
    (hxd : ∀ d, dr = some d → x.dst ≠ some d) (hb : LitOk V st.mem b cells)
    (hK1 : ∀ u V1, K1 u V1 → LitOk V1 (u.app st).mem b cells → K ((u.app st).put dr sl) (V1.addU b cells))
    (h : dQ P x e aL aR st.mem V K1) :
    dQ P x e aL aR st.mem (V.addU b cells) (fun u V1 => K (u.app (st.put dr sl)) V1) := by
  have haw : ∀ u, Away sl st.mem u := fun u => by cases u <;> simp [Away, hsl]
  have hcm : ∀ u : Upd, (match u with | .put d _ => d = x.dst | .box d _ => some d = x.dst | .mem _ d _ => d = x.dst | .row _ d _ => some d = x.dst) → u.app (st.put dr sl) = (u.app st).put dr sl :=
    fun u hu => app_put (dr := x.dst) hxd hu (haw u)
  have kput : ∀ s, K1 (.put x.dst s) V → K ((Upd.put x.dst s).app (st.put dr sl)) (V.addU b cells) := fun s hk => by
    rw [hcm _ rfl]
    exact hK1 _ _ hk (by rw [show ((Upd.put x.dst s).app st).mem = st.mem from put_mem]; exact hb)
  have hle : V.le (V.addU b cells) := View.addU_le _ _ _
  cases e with
  | val s => exact kput _ h
  | pick c s u => exact ⟨fun hc => kput _ (h.yes hc), fun hc => kput _ (h.no hc)⟩
  | ldv ty bb off n =>
    obtain ⟨l, h1, h2, h3⟩ := h.get
    refine ⟨⟨l, h1, h2.mono hle, ?_⟩⟩
    split at h3
    · exact kput _ h3
    · exact h3
  | idx base len i size => obtain ⟨bb, off, h1, h2, h3, h4⟩ := h.get; exact ⟨⟨bb, off, h1, h2, h3, kput _ h4⟩⟩
  | sem s => obtain ⟨y, h1, h3⟩ := h.get; exact ⟨⟨y, h1, kput _ h3⟩⟩
  | box ty cs =>
    simp only [dQ] at h ⊢
    cases hx : x.dst with
    | none => rw [hx] at h; exact h.no.elim
    | some y =>
      rw [hx] at h
      simp only at h ⊢
      cases hm : st.mem y with
      | some r => rw [hm] at h; exact h.no.elim
      | none =>
        rw [hm] at h
        simp only at h ⊢
        intro b2 hb2
        rw [hcm _ hx.symm]
        refine hK1 _ _ (h b2 (fun o => ?_)) ⟨hb.has, fun hc i r hr => ?_⟩
        · cases hv : V b2 o with
          | none => rfl
          | some u => have := hb2 o; rw [hle _ _ _ hv] at this; cases this
        · have hr : upd st.mem y (.box b2 ty cs) i = some r := hr
          by_cases hi : i = y
          · subst hi
            rw [upd_same, Option.some.injEq] at hr; subst hr
            intro e
            simp only [Res.blk, Option.some.injEq] at e; subst e
            obtain ⟨u0, hu0⟩ := hb.first hc
            rw [hb2 0] at hu0; cases hu0
          · rw [upd_ne _ _ hi] at hr; exact hb.free hc i r hr
  | lit ty len cs =>
    intro b2 hb2
    rw [hcm _ rfl]
    have hmem : ((Upd.put x.dst (.v (.slice (some ⟨b2, 0, none⟩) len len))).app st).mem = st.mem := put_mem
    -- both agree where they overlap
    have hov : ∀ i c c', b = b2 → cells[i]? = some c → cs[i]? = some c' → c = c' := fun i c c' e h1 h2 => by
      subst e
      have a1 := hb.has i c h1
      have a2 := hb2.has i c' h2
      rw [Nat.zero_add] at a1 a2
      have a3 := View.addU_le (V.addU b cells) b cs _ _ _ a1
      rw [a2] at a3
      exact (Option.some.inj a3).symm
    have hb20 : LitOk V st.mem b2 cs := ⟨fun i c hi => by
      have a2 := hb2.has i c hi
      rw [Nat.zero_add] at a2 ⊢
      unfold View.addU
      cases hv : V b2 i with
      | none => simp only [if_true]; exact hi
      | some u =>
        simp only
        have a3 := View.addU_le (V.addU b cells) b2 cs _ _ _ (hle _ _ _ hv)
        rw [a2] at a3; exact a3.symm, hb2.free⟩
    have hb1 : LitOk (V.addU b2 cs) st.mem b cells := ⟨fun i c hi => by
      have a1 := hb.has i c hi
      rw [Nat.zero_add] at a1 ⊢
      show (V.addU b2 cs).addU b cells b i = some c
      cases hv : V.addU b2 cs b i with
      | none => unfold View.addU at hv ⊢; simp only [hv, if_true]; exact hi
      | some u =>
        rw [View.addU_le (V.addU b2 cs) b cells _ _ _ hv]
        rcases addU_some hv with h1 | ⟨e, h1⟩
        · rw [hle _ _ _ h1] at a1; exact a1
        · rw [hov i c u e hi h1], hb.free⟩
    have hcomm : (V.addU b2 cs).addU b cells = (V.addU b cells).addU b2 cs := by
      funext k o
      cases hv : V k o with
      | some v => rw [View.addU_le _ _ _ _ _ _ (View.addU_le V b2 cs _ _ _ hv), View.addU_le _ _ _ _ _ _ (View.addU_le V b cells _ _ _ hv)]
      | none =>
        unfold View.addU
        simp only [hv]
        by_cases h1 : k = b2 <;> by_cases h2 : k = b
        · simp only [h1, if_true]
          have e : b = b2 := h2.symm.trans h1
          cases hc1 : cs[o]? with
          | none => subst e; simp
                    cases cells[o]? <;> rfl
          | some c1 =>
            subst e
            simp only [if_true]
            cases hc2 : cells[o]? with
            | none => rfl
            | some c2 => simp only; rw [hov o c2 c1 rfl hc2 hc1]
        · simp only [h1, if_true]
          have : ¬ b2 = b := fun e => h2 (h1.trans e)
          simp only [this, if_false]
          cases cs[o]? <;> rfl
        · simp only [h2, if_true]
          have : ¬ b = b2 := fun e => h1 (h2.trans e)
          simp only [this, if_false]
          cases cells[o]? <;> rfl
        · simp only [h1, h2, if_false]
    rw [← hcomm]
    exact hK1 _ _ (h b2 hb20) (by rw [hmem]; exact hb1)
  | sto id off cs =>
    simp only [dQ] at h ⊢
    cases hm : st.mem id with
    | none => rw [hm] at h; exact h.no.elim
    | some r =>
      rw [hm] at h
      cases r with
      | row v ty s k => exact h.no.elim
      | box bb ty old =>
        simp only at h ⊢
        split at h
        · rw [hcm _ rfl]
          refine hK1 _ _ h ⟨hb.has, fun hc i r hr => ?_⟩
          rw [show ((Upd.mem _ x.dst _).app st).mem = _ from put_mem] at hr
          have hr : upd st.mem id (.box bb ty (setAt old off cs)) i = some r := hr
          by_cases hi : i = id
          · subst hi
            rw [upd_same, Option.some.injEq] at hr; subst hr
            exact fun e => hb.free hc i _ hm (by simpa [Res.blk] using e)
          · rw [upd_ne _ _ hi] at hr; exact hb.free hc i r hr
        · exact h.no.elim
  | call f args =>
    refine CallN.frameLit hb h fun s V' mem' hlit hk => ⟨hk.same, hk.fresh, ?_⟩
    show K ((Upd.mem mem' x.dst s).app (st.put dr sl)) (V'.addU b cells)
    rw [hcm (.mem mem' x.dst s) rfl]
    exact hK1 _ _ hk.go (by rw [show ((Upd.mem mem' x.dst s).app st).mem = mem' from put_mem]; exact hlit)
  | app s ee size bytes y =>
    simp only [dQ] at h ⊢
    cases hx : x.dst with
    | none => rw [hx] at h; exact h.no.elim
    | some d =>
      rw [hx] at h
      simp only at h ⊢
      have frees : ∀ (g : Option Nat) (v' : Value) (n' : Nat), (cells ≠ [] → rowBlk v' ≠ some b) → ∀ V', (V'.addU b cells).has b 0 cells → LitOk V' ((Upd.row g d (.row v' ee size n')).app st).mem b cells := fun g v' n' hvb V' hh => ⟨hh, fun hc i r hr => by
        cases g with
        | none =>
          have hr : upd st.mem d (.row v' ee size n') i = some r := hr
          by_cases hi : i = d
          · subst hi
            rw [upd_same, Option.some.injEq] at hr; subst hr
            exact hvb hc
          · rw [upd_ne _ _ hi] at hr; exact hb.free hc i r hr
        | some g =>
          have hr : upd (del st.mem g) d (.row v' ee size n') i = some r := hr
          by_cases hi : i = d
          · subst hi
            rw [upd_same, Option.some.injEq] at hr; subst hr
            exact hvb hc
          · rw [upd_ne _ _ hi] at hr
            by_cases hg : i = g
            · subst hg; rw [del_same] at hr; cases hr
            · rw [del_ne _ hg] at hr; exact hb.free hc i r hr⟩
      split at h
      · split at h
        · rename_i id hgo
          cases hm : st.mem id with
          | none => rw [hm] at h; exact h.no.elim
          | some r =>
            rw [hm] at h
            cases r with
            | box b2 t2 c2 => exact h.no.elim
            | row v ty sz n =>
              simp only at h ⊢
              split at h
              · refine AppN.frameLit hb (rowBlk_mem hm) h fun v' n' V' hvb hh hk => ?_
                show K ((Upd.row (some id) d (.row v' ee size n')).app (st.put dr sl)) _
                rw [hcm (.row (some id) d (.row v' ee size n')) hx.symm]
                exact hK1 _ _ hk (frees _ _ _ hvb _ hh)
              · exact h.no.elim
        · rename_i base hgo
          refine AppN.frameLit hb (fun g hg => by cases base <;> simp [rowBlk] at hg) h fun v' n' V' hvb hh hk => ?_
          show K ((Upd.row none d (.row v' ee size n')).app (st.put dr sl)) _
          rw [hcm (.row none d (.row v' ee size n')) hx.symm]
          exact hK1 _ _ hk (frees _ _ _ hvb _ hh)
        · exact h.no.elim
      · exact h.no.elim
  | bad => exact h.no.elim
end
end Go.X
