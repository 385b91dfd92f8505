/- One part of a proof: an evaluator of the model, shown right, and contracts that it yields. No condition beyond those that each theorem names. -/
import Derived.Test.YtenpginanhnkbaaXD3b
namespace Go.X
open Go.RowKit
section
variable {P : Program} {ops : Array Oper}

/-! ## what is known behind an operation -/
def Good (o : Oper) (rdL rdR : List Nat) (mem : Nat → Option Res) (V : View) (u : Upd) (V1 : View) : Prop := V.le V1 ∧ match u with
  | .put d s => d = o.dst ∧ ∃ v, toVal mem s = some v
  | .box d r => o.dst = some d ∧ mem d = none ∧ ∃ b t c, r = .box b t c
  | .mem m d s => d = o.dst ∧ (∀ t x, toVal mem t = some x → toVal m t = some x) ∧ (∀ i ∈ rdL, m i = mem i) ∧ (∃ v, toVal m s = some v) ∧ ∀ i, mem i = none → o.dst ≠ some i → m i = none
  | .row g d r => o.dst = some d ∧ (∀ i, g = some i → i ∉ rdR ∧ ∃ v t s k, mem i = some (.row v t s k)) ∧ (mem d = none ∨ g = some d) ∧ ∃ v t s k, r = .row v t s k

theorem goneOk_spec {d : Nat} {mem : Nat → Option Res} {g : Option Nat} {rdR : List Nat} (h : goneOk d mem g rdR = true) : (∀ i, g = some i → i ∉ rdR) ∧ (mem d = none ∨ g = some d) := by
  unfold goneOk at h
  cases g with
  | none =>
    simp only at h
    refine ⟨(fun i hi => by cases hi), .inl ?_⟩
    cases hm : mem d with
    | none => rfl
    | some r => rw [hm] at h; cases h
  | some g =>
    simp only at h
    cases hb : memB g rdR with
    | true => rw [hb] at h; cases h
    | false =>
      rw [hb] at h
      refine ⟨(fun i hi => by cases hi; exact memB_false hb), ?_⟩
      cases hgd : Nat.beq g d with
      | true => exact .inr (by rw [Nat.eq_of_beq_eq_true hgd])
      | false =>
        rw [hgd] at h
        left
        cases hm : mem d with
        | none => rfl
        | some r => rw [hm] at h; cases h
theorem goneOk_mono {d : Nat} {mem : Nat → Option Res} {g : Option Nat} {rdR rdR' : List Nat} (hs : ∀ i ∈ rdR', i ∈ rdR) (h : goneOk d mem g rdR = true) : goneOk d mem g rdR' = true := by
  unfold goneOk at *
  cases g with
  | none => exact h
  | some g =>
    simp only at *
    cases hb : memB g rdR with
    | true => rw [hb] at h; cases h
    | false =>
      rw [hb] at h
      rw [memB_of_not (fun hi => memB_false hb (hs _ hi))]
      exact h

/-- fewer names to keep; more known behind -/
theorem dQ_good {o : Oper} {e : Eff} {rdL rdR rdL' rdR' : List Nat} {mem : Nat → Option Res} {V : View} {K K' : Upd → View → Prop} (hw : EffWF mem e) (hL : ∀ i ∈ rdL', i ∈ rdL) (hR : ∀ i ∈ rdR', i ∈ rdR)
    (hK : ∀ u V1, Good o rdL rdR mem V u V1 → K u V1 → K' u V1) (h : dQ P o e rdL rdR mem V K) : dQ P o e rdL' rdR' mem V K' := by
  cases e with
  | val s => exact hK _ _ ⟨View.le_refl _, rfl, hw⟩ h
  | pick c s t => exact ⟨fun hc => hK _ _ ⟨View.le_refl _, rfl, hw.1⟩ (h.yes hc), fun hc => hK _ _ ⟨View.le_refl _, rfl, hw.2⟩ (h.no hc)⟩
  | ldv t b off n =>
    obtain ⟨l, h1, h2, h3⟩ := h.get
    refine ⟨⟨l, h1, h2, ?_⟩⟩
    split at h3
    · exact hK _ _ ⟨View.le_refl _, rfl, _, rfl⟩ h3
    · exact h3
  | idx base len i size => obtain ⟨b, off, h1, h2, h3, h4⟩ := h.get; exact ⟨⟨b, off, h1, h2, h3, hK _ _ ⟨View.le_refl _, rfl, _, rfl⟩ h4⟩⟩
  | sem s => obtain ⟨x, h1, h3⟩ := h.get; exact ⟨⟨x, h1, hK _ _ ⟨View.le_refl _, rfl, _, rfl⟩ h3⟩⟩
  | box t cells =>
    simp only [dQ] at h ⊢
    split at h
    · rename_i d hd
      split at h
      · rename_i hm
        exact fun blk hf => hK _ _ ⟨View.le_refl _, hd, hm, _, _, _, rfl⟩ (h blk hf)
      · exact h.no.elim
    · exact h.no.elim
  | lit t len cells => exact fun b hc => hK _ _ ⟨View.addU_le _ _ _, rfl, _, rfl⟩ (h b hc)
  | sto id off cells =>
    simp only [dQ] at h ⊢
    split at h
    · rename_i b t old hm
      split at h
      · rename_i h1 h2
        simp only [h1, memB_of_not (fun hi => memB_false h2 (hL _ hi))]
        refine hK _ _ ⟨View.le_refl _, rfl, fun s x hx => ?_, fun i hi => upd_ne _ _ (fun e => memB_false h2 (e ▸ hi)), ⟨_, rfl⟩, fun i hi _ => by rw [upd_ne _ _ (fun e => by subst e; rw [hm] at hi; cases hi)]; exact hi⟩ h
        cases s with
        | v y => exact hx
        | kb y => exact hx
        | own i o =>
          by_cases hi : i = id
          · subst hi; simp only [toVal, hm] at hx; simp only [toVal, upd_same]; exact hx
          · simp only [toVal, upd_ne _ _ hi]; exact hx
        | row i =>
          by_cases hi : i = id
          · subst hi; simp only [toVal, hm] at hx; cases hx
          · simp only [toVal, upd_ne _ _ hi]; exact hx
      · exact h.no.elim
    · exact h.no.elim
  | call f args =>
    refine ⟨fun w hw => (h.run w hw).mono fun e w' ⟨v, s, V', mem', he, hv, hKs, hsame, hp, hk, hg, hn⟩ => ⟨v, s, V', mem', he, hv, ⟨fun i hi => hKs.same i (hL i hi), hKs.fresh, ?_⟩, hsame, hp, hk, hg, hn⟩⟩
    exact hK _ _ ⟨hg.1, rfl, hsame, hKs.same, ⟨v, hv⟩, hKs.fresh⟩ hKs.go
  | app s e size bytes x =>
    simp only [dQ] at h ⊢
    split at h
    · rename_i d hd
      split at h
      · rename_i hgo
        obtain ⟨g1, g2⟩ := goneOk_spec hgo
        simp only [goneOk_mono hR hgo]
        split at h
        · rename_i id
          split at h
          · rename_i v ty sz n hm
            split at h
            · rename_i h1 h2
              obtain ⟨xs, news, m, a1, a2, a3, a4, a5, a6, a7, a8, a9⟩ := h.get
              exact ⟨⟨xs, news, m, a1, a2, a3, a4, a5, a6, a7, a8, fun v' V' hle hc hs hao => hK _ _ ⟨hle, hd, (fun i hi => ⟨g1 i hi, by cases hi; exact ⟨_, _, _, _, hm⟩⟩), g2, _, _, _, _, rfl⟩ (a9 v' V' hle hc hs hao)⟩⟩
            · exact h.no.elim
          · exact h.no.elim
        · obtain ⟨xs, news, m, a1, a2, a3, a4, a5, a6, a7, a8, a9⟩ := h.get
          exact ⟨⟨xs, news, m, a1, a2, a3, a4, a5, a6, a7, a8, fun v' V' hle hc hs hao => hK _ _ ⟨hle, hd, (fun i hi => by cases hi), g2, _, _, _, _, rfl⟩ (a9 v' V' hle hc hs hao)⟩⟩
        · exact h.no.elim
      · exact h.no.elim
    · exact h.no.elim
  | bad => exact h.no.elim

theorem act_good {o : Oper} {rdL rdR rdL' rdR' : List Nat} {st : St} {V : View} {K K' : Upd → View → Prop} (hwf : WF st) (hL : ∀ i ∈ rdL', i ∈ rdL) (hR : ∀ i ∈ rdR', i ∈ rdR)
    (hK : ∀ u V1, Good o rdL rdR st.mem V u V1 → K u V1 → K' u V1) (h : act P ops o rdL rdR st V K) : act P ops o rdL' rdR' st V K' := by
  have hs : ∀ s, K (.put o.dst (.v s)) V → K' (.put o.dst (.v s)) V := fun s => hK _ _ ⟨View.le_refl _, rfl, _, rfl⟩
  have hd : dQ P o (effOf P o st) rdL rdR st.mem V K → dQ P o (effOf P o st) rdL' rdR' st.mem V K' := dQ_good (effOf_wf hwf) hL hR hK
  unfold act at *
  generalize guardOf ops o st.env = g at *
  rcases g with _ | ⟨_ | b, w⟩
  · exact h.no.elim
  · cases w
    · exact hs _ h
    · exact hd h
  · cases w
    · exact ⟨fun hb => hs _ (h.yes hb), fun hb => hd (h.no hb)⟩
    · exact ⟨fun hb => hd (h.yes hb), fun hb => hs _ (h.no hb)⟩

/-- an operation acts alike in like states (of one memory) -/
theorem act_like {o : Oper} {rdL rdR : List Nat} {st st' : St} {V : View} {K : Upd → View → Prop} (hl : Like ops o st st') (hm : st'.mem = st.mem) (h : act P ops o rdL rdR st V K) :
    act P ops o rdL rdR st' V K := by
  unfold act at *
  rw [hl.guard, hl.effOf, hm]
  exact h

/-! ## a quiet operation behind another one -/
/-- the names of the boxes that a load reads, of the rows that are mentioned -/
def loadsOf (o : Oper) (st : St) : List Nat := match o.op with
  | .load _ a => (match opd st.env a with | some (.own id _) => [id] | _ => [])
  | _ => []
def rowsOf (st : St) : List Nat → List Nat
  | [] => []
  | t :: l => match st.env t with | some (.row i) => i :: rowsOf st l | _ => rowsOf st l
theorem mem_rowsOf {st : St} {i : Nat} : ∀ {l : List Nat} {t : Nat}, t ∈ l → st.env t = some (.row i) → i ∈ rowsOf st l
  | [], _, h, _ => by cases h
  | x :: l, t, h, hs => by
    unfold rowsOf
    rcases List.mem_cons.1 h with rfl | h
    · rw [hs]; simp
    · split
      · exact List.mem_cons_of_mem _ (mem_rowsOf h hs)
      · exact mem_rowsOf h hs

theorem purge_keep {env : Nat → Option SV} {mem : Nat → Option Res} {g t : Nat} {s : SV} (hs : env t = some s) (hn : s.name ≠ some g) : purge env mem g t = some s := by
  unfold purge
  rw [hs]
  cases s with
  | v x => rfl
  | kb x => rfl
  | own i o =>
    have : Nat.beq i g = false := by
      cases hb : Nat.beq i g with
      | false => rfl
      | true => exact absurd (by rw [← Nat.eq_of_beq_eq_true hb]; rfl) hn
    simp [demote, this]
  | row i =>
    have : Nat.beq i g = false := by
      cases hb : Nat.beq i g with
      | false => rfl
      | true => exact absurd (by rw [← Nat.eq_of_beq_eq_true hb]; rfl) hn
    simp [demote, this]
theorem purge_upd {env : Nat → Option SV} {mem : Nat → Option Res} {g d : Nat} {s : SV} (hn : s.name ≠ some g) : purge (upd env d s) mem g = upd (purge env mem g) d s := by
  funext k
  by_cases hk : k = d
  · subst hk
    rw [upd_same]
    exact purge_keep (upd_same _ _ _) hn
  · rw [upd_ne _ _ hk]
    unfold purge
    rw [upd_ne _ _ hk]

/-- a value whose name another operation leaves alone -/
def Away (s : SV) (_mem : Nat → Option Res) (u : Upd) : Prop := match u with
  | .row g d _ => s.name ≠ some d ∧ ∀ i, g = some i → s.name ≠ some i
  | .box d _ => s.name ≠ some d
  | _ => True

theorem app_put {u : Upd} {st : St} {dx : Option Nat} {s : SV} {dr : Option Nat} (hd : ∀ d, dx = some d → dr ≠ some d) (hu : match u with | .put d _ => d = dr | .box d _ => some d = dr | .mem _ d _ => d = dr | .row _ d _ => some d = dr)
    (ha : Away s st.mem u) : u.app (st.put dx s) = (u.app st).put dx s := by
  cases dx with
  | none => rfl
  | some x =>
    have hne : ∀ d, dr = some d → x ≠ d := fun d hdd e => hd x rfl (by rw [hdd, e])
    cases u with
    | put d t =>
      simp only at hu
      cases d with
      | none => rfl
      | some d => simp only [Upd.app, St.put]; rw [upd_comm _ _ _ (hne d hu.symm)]
    | box d r => simp only [Upd.app, St.put]; rw [upd_comm _ _ _ (hne d hu.symm)]
    | mem m d t =>
      simp only at hu
      cases d with
      | none => rfl
      | some d => simp only [Upd.app, St.put]; rw [upd_comm _ _ _ (hne d hu.symm)]
    | row g d r =>
      obtain ⟨h1, h2⟩ := ha
      cases g with
      | none => simp only [Upd.app, St.put, St.newRow]; rw [purge_upd h1, upd_comm _ _ _ (hne d hu.symm)]
      | some g => simp only [Upd.app, St.put, St.newRow]; rw [purge_upd (h2 g rfl), purge_upd h1, upd_comm _ _ _ (hne d hu.symm)]
end
end Go.X
