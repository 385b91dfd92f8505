/- One part of a proof: an evaluator of the model, shown right, and contracts that it yields. No condition beyond those that each theorem names. -/
import Derived.Test.YtenpginanhnkbaaX8
namespace Go.X
open Go.RowKit

def updL : List (Nat × Res) → (Nat → Option Res) → Nat → Option Res
  | [], m => m
  | (i, r) :: l, m => upd (updL l m) i r
def delL : List Nat → (Nat → Option Res) → Nat → Option Res
  | [], m => m
  | i :: l, m => del (delL l m) i

theorem updL_cases : ∀ {l : List (Nat × Res)} {m : Nat → Option Res} {i : Nat} {r : Res}, updL l m i = some r → (i, r) ∈ l ∨ (i ∉ l.map (·.1) ∧ m i = some r)
  | [], m, i, r, h => .inr ⟨by simp, h⟩
  | (j, s) :: l, m, i, r, h => by
    unfold updL at h
    by_cases hi : i = j
    · subst hi; rw [upd_same, Option.some.injEq] at h; subst h; exact .inl (by simp)
    · rw [upd_ne _ _ hi] at h
      rcases updL_cases h with h1 | ⟨h1, h2⟩
      · exact .inl (List.mem_cons_of_mem _ h1)
      · exact .inr ⟨by simp only [List.map_cons, List.mem_cons, not_or]; exact ⟨hi, h1⟩, h2⟩
theorem delL_some : ∀ {l : List Nat} {m : Nat → Option Res} {i : Nat} {r : Res}, delL l m i = some r → i ∉ l ∧ m i = some r
  | [], m, i, r, h => ⟨by simp, h⟩
  | j :: l, m, i, r, h => by
    unfold delL at h
    by_cases hi : i = j
    · subst hi; rw [del_same] at h; cases h
    · rw [del_ne _ hi] at h
      have := delL_some h
      exact ⟨by simp only [List.mem_cons, not_or]; exact ⟨hi, this.1⟩, this.2⟩

section
variable {P : Program} {f : FuncId} {args : List Value} {V : View} {mem : Nat → Option Res} {K : SV → View → (Nat → Option Res) → Prop} {R : Value → View → List Res → Prop}

/-- a call by its contract: the resources 'ids' are handed over; 'outs' come back -/
theorem CallN.gen (ids : List Nat) (hnd : ids.Nodup) {bs : List Res} (hids : ids.map mem = bs.map some) (h : Does P f args V bs R)
    (k : ∀ v V' bs', V.le V' → R v V' bs' → ∃ (outs : List (Nat × Res)) (s : SV), outs.map (·.2) = bs' ∧ (outs.map (·.1)).Nodup ∧ (∀ t x, toVal mem t = some x → toVal (updL outs (delL ids mem)) t = some x) ∧
      toVal (updL outs (delL ids mem)) s = some v ∧ K s V' (updL outs (delL ids mem))) : CallN P f args V mem K := by
  refine ⟨fun w hw => ?_⟩
  have hget : ∀ (i : Nat) (r : Res), bs[i]? = some r → ∃ k, ids[i]? = some k ∧ mem k = some r := by
    intro i r hi
    have := congrArg (fun l => l[i]?) hids
    simp only [List.getElem?_map, hi, Option.map_some] at this
    cases hk : ids[i]? with
    | none => rw [hk] at this; cases this
    | some k => rw [hk] at this; exact ⟨k, rfl, by simpa using this⟩
  have hmem : ∀ r, r ∈ bs → ∃ k, k ∈ ids ∧ mem k = some r := fun r hr => by
    obtain ⟨i, hi⟩ := List.mem_iff_getElem?.1 hr
    obtain ⟨k, hk, hm⟩ := hget i r hi
    exact ⟨k, List.mem_of_getElem? hk, hm⟩
  have hbm : ∀ b, blksOf bs b → blksM mem b := fun b ⟨r, hr, hb⟩ => by
    obtain ⟨k, _, hm⟩ := hmem r hr
    exact ⟨k, r, hm, hb⟩
  have hpre : Pre V bs w := by
    refine ⟨hw.sub, fun i r hi => ?_, fun i j r r' b hij hi hj hb hb' => ?_⟩
    · obtain ⟨k, _, hm⟩ := hget i r hi; exact hw.ok k r hm
    · obtain ⟨k, hk1, hm⟩ := hget i r hi
      obtain ⟨k', hk2, hm'⟩ := hget j r' hj
      refine hw.apart k k' r r' b (fun e => ?_) hm hm' hb hb'
      subst e
      exact hij ((List.getElem?_inj (List.getElem?_eq_some_iff.1 hk1).1 hnd).1 (hk1.trans hk2.symm))
  refine (h w hpre).mono fun e w' ⟨v, V', bs', he, hR, hp, hk, hg, hn⟩ => ?_
  obtain ⟨outs, s, houts, hnd2, hsame, hs, hK⟩ := k v V' bs' hg.1 hR
  -- a resource that stays with the caller
  have stay : ∀ i r, i ∉ ids → mem i = some r → ∀ b, r.blk = some b → b < w.heap.size ∧ ¬ blksOf bs b := fun i r hi hr b hb => by
    refine ⟨blk_lt (hw.ok i r hr) hb, fun ⟨r', hr', hb'⟩ => ?_⟩
    obtain ⟨j, hj, hm⟩ := hmem r' hr'
    exact hw.apart i j r r' b (fun e => hi (e ▸ hj)) hr hm hb hb'
  have hout : ∀ i r, (i, r) ∈ outs → ∃ j : Nat, bs'[j]? = some r ∧ outs[j]? = some (i, r) := fun i r hr => by
    obtain ⟨j, hj⟩ := List.mem_iff_getElem?.1 hr
    exact ⟨j, by rw [← houts, List.getElem?_map, hj]; rfl, hj⟩
  have hcases : ∀ i r, updL outs (delL ids mem) i = some r → (i, r) ∈ outs ∨ (i ∉ ids ∧ mem i = some r) := fun i r hr => by
    rcases updL_cases hr with h1 | ⟨_, h1⟩
    · exact .inl h1
    · exact .inr (delL_some h1)
  refine ⟨v, s, V', updL outs (delL ids mem), he, hs, hK, hsame, ⟨hp.sub, fun i r hr => ?_, fun i j r r' b hij hi hj hb hb' => ?_⟩, ?_, ?_, ?_⟩
  · rcases hcases i r hr with h1 | ⟨h1, h2⟩
    · obtain ⟨j, hj, _⟩ := hout i r h1
      exact hp.ok j r hj
    · refine (hw.ok i r h2).keep (fun b hb => ?_) (fun b hb o hV => ?_)
      · obtain ⟨hlt, hnb⟩ := stay i r h1 h2 b hb
        exact hk.block b hlt hnb
      · obtain ⟨hlt, hnb⟩ := stay i r h1 h2 b hb
        cases hv : V' b o with
        | none => rfl
        | some u =>
          rcases hg.2 b o u hv with h3 | h3 | h3
          · rw [hV] at h3; cases h3
          · omega
          · exact absurd h3 hnb
  · rcases hcases i r hi with h1 | ⟨h1, h2⟩
    · obtain ⟨x, hx, hx2⟩ := hout i r h1
      rcases hcases j r' hj with h3 | ⟨h3, h4⟩
      · obtain ⟨y, hy, hy2⟩ := hout j r' h3
        refine hp.apart x y r r' b (fun e => ?_) hx hy hb hb'
        subst e
        rw [hx2] at hy2
        simp only [Option.some.injEq, Prod.mk.injEq] at hy2
        exact hij hy2.1
      · obtain ⟨hlt, hnb⟩ := stay j r' h3 h4 b hb'
        rcases hn b ⟨r, List.mem_of_getElem? hx, hb⟩ with h5 | h5
        · exact hnb h5
        · omega
    · obtain ⟨hlt, hnb⟩ := stay i r h1 h2 b hb
      rcases hcases j r' hj with h3 | ⟨h3, h4⟩
      · obtain ⟨y, hy, hy2⟩ := hout j r' h3
        rcases hn b ⟨r', List.mem_of_getElem? hy, hb'⟩ with h5 | h5
        · exact hnb h5
        · omega
      · exact hw.apart i j r r' b hij h2 h4 hb hb'
  · exact ⟨hk.os, hk.tape, hk.output, hk.size, fun b hb hm => hk.block b hb (fun h1 => hm (hbm b h1))⟩
  · refine ⟨hg.1, fun b o u hu => ?_⟩
    rcases hg.2 b o u hu with h1 | h1 | h1
    · exact .inl h1
    · exact .inr (.inl h1)
    · exact .inr (.inr (hbm b h1))
  · intro b ⟨i, r, hr, hb⟩
    rcases hcases i r hr with h1 | ⟨_, h2⟩
    · obtain ⟨x, hx, _⟩ := hout i r h1
      rcases hn b ⟨r, List.mem_of_getElem? hx, hb⟩ with h5 | h5
      · exact .inl (hbm b h5)
      · exact .inr h5
    · exact .inl ⟨i, r, h2, hb⟩

/-- a call that is handed nothing, and of which nothing but the value is kept -/
theorem CallN.pure (h : Does P f args V [] R) (k : ∀ v V' bs', V.le V' → R v V' bs' → K (.v v) V' mem) : CallN P f args V mem K :=
  CallN.gen (R := fun v V' bs' => bs' = [] ∧ ∃ bs', R v V' bs') [] (by simp) (bs := []) rfl (fun w hw => (h w hw).mono fun e w' ⟨v, V', bs', he, hR, hp, hk, hg, _⟩ =>
      ⟨v, V', [], he, ⟨rfl, bs', hR⟩, ⟨hp.sub, fun i r hi => by simp at hi, fun i j r r' b _ hi => by simp at hi⟩, hk, hg, fun b ⟨r, hr, _⟩ => by cases hr⟩)
    (fun v V' bs' hle ⟨hb, bs2, hR⟩ => ⟨[], .v v, by simp [hb], by simp, fun _ _ hx => hx, rfl, k v V' bs2 hle hR⟩)

/-- a call that is handed one box, and gives it back -/
theorem CallN.box (id : Nat) {b : Nat} {t : TypeId} {cells : List Value} (hm : mem id = some (.box b t cells)) (h : Does P f args V [.box b t cells] R)
    (k : ∀ v V' bs', V.le V' → R v V' bs' → ∃ t' cells', bs' = [.box b t' cells'] ∧ K (.v v) V' (upd (del mem id) id (.box b t' cells'))) : CallN P f args V mem K :=
  CallN.gen [id] (by simp) (bs := [.box b t cells]) (by simp [hm]) h fun v V' bs' hle hR => by
    obtain ⟨t', cells', hb, hK⟩ := k v V' bs' hle hR
    refine ⟨[(id, .box b t' cells')], .v v, by simp [hb], by simp, fun s x hx => ?_, rfl, hK⟩
    show toVal (upd (del mem id) id (.box b t' cells')) s = some x
    rw [upd_del]
    cases s with
    | v y => exact hx
    | kb y => exact hx
    | own i o =>
      by_cases hi : i = id
      · subst hi
        simp only [toVal, hm] at hx
        simp only [toVal, upd_same]; exact hx
      · simp only [toVal, upd_ne _ _ hi]; exact hx
    | row i =>
      by_cases hi : i = id
      · subst hi
        simp only [toVal, hm] at hx
        cases hx
      · simp only [toVal, upd_ne _ _ hi]; exact hx

/-- a call that hands back a new box (a pointer to it), or a new row -/
theorem CallN.new (d : Nat) (hd : mem d = none) (h : Does P f args V [] R)
    (k : ∀ v V' bs', V.le V' → R v V' bs' → ∃ r s, bs' = [r] ∧ toVal (upd mem d r) s = some v ∧ K s V' (upd mem d r)) : CallN P f args V mem K :=
  CallN.gen [] (by simp) (bs := []) rfl h fun v V' bs' hle hR => by
    obtain ⟨r, s, hb, hs, hK⟩ := k v V' bs' hle hR
    refine ⟨[(d, r)], s, by simp [hb], by simp, fun t x hx => ?_, hs, hK⟩
    show toVal (upd mem d r) t = some x
    rw [← hx]
    exact toVal_of fun i hi => upd_ne _ _ (fun e => by
      subst e
      cases t with
      | v y => cases hi
      | kb y => cases hi
      | own j o => simp only [SV.name, Option.some.injEq] at hi; subst hi; simp [toVal, hd] at hx
      | row j => simp only [SV.name, Option.some.injEq] at hi; subst hi; simp [toVal, hd] at hx)
end

/-! ## loops -/
def envOf : List (Nat × SV) → Nat → Option SV
  | [] => fun _ => none
  | (k, s) :: l => upd (envOf l) k s
def St.of (env : List (Nat × SV)) (ms : List (Nat × Res)) : St := ⟨envOf env, memOf ms⟩

/-- a state knows these slots -/
def St.knows (st : St) (mem : Nat → Option Res) : List (Nat × SV) → Prop
  | [] => True
  | (k, s) :: l => (st.env k = some s ∧ (∃ v, toVal mem s = some v)) ∧ st.knows mem l
def St.holds (st : St) : List (Nat × Res) → Prop
  | [] => True
  | (i, r) :: l => st.mem i = some r ∧ st.holds l

theorem holds_get {st : St} : ∀ {ms : List (Nat × Res)}, st.holds ms → ∀ i r, memOf ms i = some r → st.mem i = some r
  | [], _, i, r, h => by cases h
  | (j, s) :: ms, hh, i, r, h => by
    unfold memOf at h
    by_cases hi : i = j
    · subst hi; rw [upd_same, Option.some.injEq] at h; subst h; exact hh.1
    · rw [upd_ne _ _ hi] at h; exact holds_get hh.2 i r h
theorem knows_get {st : St} {mem : Nat → Option Res} : ∀ {env : List (Nat × SV)}, st.knows mem env → ∀ k s, envOf env k = some s → st.env k = some s ∧ ∃ v, toVal mem s = some v
  | [], _, i, r, h => by cases h
  | (j, s) :: l, hh, i, r, h => by
    unfold envOf at h
    by_cases hi : i = j
    · subst hi; rw [upd_same, Option.some.injEq] at h; subst h; exact hh.1
    · rw [upd_ne _ _ hi] at h; exact knows_get hh.2 i r h

theorem weak_of {st : St} {V : View} {env : List (Nat × SV)} {ms : List (Nat × Res)} (he : st.knows (memOf ms) env) (hm : st.holds ms) : Weak (St.of env ms) st V := by
  intro w0 M V0 n a w h
  have hmem := holds_get hm
  refine ⟨h.defers, h.size, fun k s hk => ?_, ⟨h.mp.sub, fun i r hr => h.mp.ok i r (hmem i r hr), fun i j r r' b hij hi hj => h.mp.apart i j r r' b hij (hmem i r hi) (hmem j r' hj)⟩, h.kept, h.grows, ?_⟩
  · obtain ⟨h1, v, hv⟩ := knows_get he k s hk
    have h2 := h.env k s h1
    show toVal (memOf ms) s = _
    rw [hv, ← h2]
    cases s with
    | v x => exact hv.symm
    | kb x => exact hv.symm
    | own i o =>
      simp only [toVal] at hv ⊢
      split at hv
      · rename_i b t c hb
        rw [hmem i _ hb]; exact hv.symm
      · cases hv
    | row i =>
      simp only [toVal] at hv ⊢
      split at hv
      · rename_i x t sz k2 hb
        rw [hmem i _ hb]; exact hv.symm
      · cases hv
  · intro b ⟨i, r, hr, hb⟩
    exact h.new b ⟨i, r, hmem i r hr, hb⟩

/-- the rule for a loop: 'sh' is what is known at its head -/
theorem LoopN.mk' {σ : Type} (sh : σ → St) (inv : Nat → σ → View → Prop) {round : (Ex → St → View → Prop) → St → View → Prop} {K : Ex → St → View → Prop} {st : St} {V : View} (k : Nat) (x : σ)
    (hw : Weak (sh x) st V) (h0 : inv k x V)
    (hr : ∀ k x V, inv k x V → round (fun e st' V' => match e with | .normal => ∃ m st'', m < k ∧ Weak st'' st' V' ∧ ∃ y, st'' = sh y ∧ inv m y V' | e => K e st' V') (sh x) V) : LoopN round K st V :=
  ⟨⟨fun k st V => ∃ x, st = sh x ∧ inv k x V, ⟨k, sh x, hw, x, rfl, h0⟩, fun k st V ⟨x, hst, hi⟩ => by subst hst; exact hr k x V hi⟩⟩
end Go.X
