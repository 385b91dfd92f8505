/- One part of a proof: an evaluator of the model, shown right, and contracts that it yields. No condition beyond those that each theorem names. -/
import Derived.Test.YtenpginanhnkbaaXD10
namespace Go.X
open Go.RowKit
section
variable {P : Program} {ops : Array Oper}

/-- a state behind an operation is well formed again -/
theorem good_wf {o : Oper} {st : St} {u : Upd} {V V1 : View} {rdL rdR : List Nat} (hwf : WF st) (hg : Good o rdL rdR st.mem V u V1) : WF (u.app st) := by
  obtain ⟨_, hu⟩ := hg
  have hnone : ∀ s x d, toVal st.mem s = some x → st.mem d = none → s.name ≠ some d := fun s x d hx hm e => by
    cases s with
    | v y => cases e
    | kb y => cases e
    | own i o => simp only [SV.name, Option.some.injEq] at e; subst e; simp [toVal, hm] at hx
    | row i => simp only [SV.name, Option.some.injEq] at e; subst e; simp [toVal, hm] at hx
  have hput : ∀ (m : Nat → Option Res) (env : Nat → Option SV) (d : Option Nat) (s : SV), (∀ k s, env k = some s → ∃ v, toVal m s = some v) → (∃ v, toVal m s = some v) → WF ((⟨env, m⟩ : St).put d s) := fun m env d s h1 h2 k s' hk => by
    cases d with
    | none => exact h1 k s' hk
    | some d =>
      by_cases hkd : k = d
      · subst hkd
        simp only [St.put, upd_same, Option.some.injEq] at hk
        subst hk; exact h2
      · simp only [St.put, upd_ne _ _ hkd] at hk
        exact h1 k s' hk
  cases u with
  | put d s => exact hput st.mem st.env d s hwf hu.2
  | box d b =>
    obtain ⟨_, hm, b', t, c, rfl⟩ := hu
    intro k s hk
    by_cases hkd : k = d
    · subst hkd
      have : upd st.env k (.own k 0) k = some s := hk
      rw [upd_same, Option.some.injEq] at this; subst this
      exact ⟨.pointer (some ⟨b', 0, none⟩), by simp [Upd.app, toVal, upd_same]⟩
    · have : upd st.env d (.own d 0) k = some s := hk
      rw [upd_ne _ _ hkd] at this
      obtain ⟨v, hv⟩ := hwf k s this
      exact ⟨v, by rw [← hv]; exact toVal_of fun i hi => upd_ne _ _ (fun e => hnone s v d hv hm (by rw [hi, e]))⟩
  | mem m d s =>
    obtain ⟨_, hsame, _, hs, _⟩ := hu
    exact hput m st.env d s (fun k s hk => by obtain ⟨v, hv⟩ := hwf k s hk; exact ⟨v, hsame s v hv⟩) hs
  | row g d b =>
    obtain ⟨_, _, _, v0, t0, s0, k0, rfl⟩ := hu
    have hp : ∀ (env : Nat → Option SV) (mem : Nat → Option Res) (k : Nat), (∀ j s, env j = some s → ∃ v, toVal mem s = some v) → ∀ j s, purge env mem k j = some s → (∃ v, toVal (del mem k) s = some v) ∧ s.name ≠ some k := fun env mem k h j s hj => by
      obtain ⟨s', h1, h2⟩ := purge_some hj
      rcases h2 with ⟨rfl, h2⟩ | ⟨_, v, _, rfl⟩
      · obtain ⟨v, hv⟩ := h j s h1
        exact ⟨⟨v, by rw [← hv]; exact toVal_of fun i hi => del_ne _ (fun e => h2 (by rw [hi, e]))⟩, h2⟩
      · exact ⟨⟨v, rfl⟩, by simp [SV.name]⟩
    have fin : ∀ (env : Nat → Option SV) (mem : Nat → Option Res), (∀ j s, env j = some s → (∃ v, toVal (del mem d) s = some v) ∧ s.name ≠ some d) → WF ⟨upd env d (.row d), upd mem d (.row v0 t0 s0 k0)⟩ := fun env mem h k s hk => by
      by_cases hkd : k = d
      · subst hkd
        simp only [upd_same, Option.some.injEq] at hk; subst hk
        exact ⟨v0, by simp [toVal, upd_same]⟩
      · simp only [upd_ne _ _ hkd] at hk
        obtain ⟨⟨v, hv⟩, hn⟩ := h k s hk
        refine ⟨v, ?_⟩
        rw [← hv]
        refine toVal_of fun i hi => ?_
        have : i ≠ d := fun e => hn (by rw [hi, e])
        show upd mem d _ i = del mem d i
        rw [upd_ne _ _ this, del_ne _ this]
    cases g with
    | none => exact fin _ _ (hp _ _ d hwf)
    | some g => exact fin _ _ (hp _ _ d (fun j s hj => (hp _ _ g hwf j s hj).1))

theorem relOf_sub {o : Oper} : ∀ {l l' : List (Nat × Nat)}, (∀ x ∈ l, x ∈ l') → ∀ i ∈ relOf o l, i ∈ relOf o l'
  | [], _, _, i, hi => by cases hi
  | (j, id) :: l, l', h, i, hi => by
    unfold relOf at hi
    have hin : ∀ {l'' : List (Nat × Nat)}, (j, id) ∈ l'' → waits o j = false → id ∈ relOf o l'' := fun {l''} hm hw => by
      induction l'' with
      | nil => cases hm
      | cons y l'' ih =>
        obtain ⟨j2, id2⟩ := y
        unfold relOf
        rcases List.mem_cons.1 hm with he | hm
        · simp only [Prod.mk.injEq] at he
          obtain ⟨rfl, rfl⟩ := he
          rw [hw]; simp
        · split
          · exact ih hm
          · exact List.mem_cons_of_mem _ (ih hm)
    split at hi
    · exact relOf_sub (fun x hx => h x (by simp [hx])) i hi
    · rename_i hw
      rcases List.mem_cons.1 hi with rfl | hi
      · exact hin (h (j, i) (by simp)) hw
      · exact relOf_sub (fun x hx => h x (by simp [hx])) i hi
theorem mem_tag {i id : Nat} : ∀ {l : List Nat}, id ∈ l → (i, id) ∈ tag i l
  | [], h => by cases h
  | x :: l, h => by
    unfold tag
    rcases List.mem_cons.1 h with rfl | h
    · simp
    · exact List.mem_cons_of_mem _ (mem_tag h)
theorem relOf_tag {o : Oper} {i id : Nat} {l rd : List (Nat × Nat)} (hw : waits o i = false) (h : (i, id) ∈ l) : id ∈ relOf o (l ++ rd) := by
  have := relOf_sub (o := o) (l := [(i, id)]) (l' := l ++ rd) (fun x hx => by simp only [List.mem_singleton] at hx; subst hx; simp [h]) id (by simp [relOf, hw])
  exact this

theorem xseq_mono {K : St → View → Prop} : ∀ (L : Plan) (rdL rdR rdL' rdR' : List (Nat × Nat)) (st : St) (V : View), WF st → (∀ x ∈ rdL', x ∈ rdL) → (∀ x ∈ rdR', x ∈ rdR) → xseq P ops K L rdL rdR st V → xseq P ops K L rdL' rdR' st V
  | [], _, _, _, _, _, _, _, _, _, h => h
  | (i, cs) :: L, rdL, rdR, rdL', rdR', st, V, hwf, hL, hR, h => by
    unfold xseq at h ⊢
    split
    · rename_i ho; simp only [ho] at h
    · rename_i o ho
      simp only [ho] at h
      split
      · rename_i hc
        simp only [hc] at h
        refine act_good hwf (relOf_sub hL) (relOf_sub hR) (fun u V1 hg hk => ?_) h
        split at hk
        · exact xseq_mono L _ _ _ _ _ _ (good_wf hwf hg) (fun x hx => by
            rcases List.mem_append.1 hx with hx | hx
            · exact List.mem_append.2 (.inl hx)
            · exact List.mem_append.2 (.inr (hL x hx))) (fun x hx => by
            rcases List.mem_append.1 hx with hx | hx
            · exact List.mem_append.2 (.inl hx)
            · exact List.mem_append.2 (.inr (hR x hx))) hk
        · exact xseq_mono L _ _ _ _ _ _ (good_wf hwf hg) hL hR hk
      · rename_i hc; simp only [hc] at h; exact h

theorem chkList_mem {st : St} : ∀ {cs : List Nat}, chkList P ops st cs = true ↔ ∀ y ∈ cs, ∃ o, ops[y]? = some o ∧ chkLate P o st = true
  | [] => by simp [chkList]
  | y :: l => by
    unfold chkList
    cases ho : ops[y]? with
    | none => simp [ho]
    | some o =>
      simp only [List.mem_cons, forall_eq_or_imp, ho, Option.some.injEq, exists_eq_left']
      cases hc : chkLate P o st with
      | true => simp only [true_and]; exact chkList_mem (cs := l)
      | false => simp

/-- what a late operation needs is still there behind another one -/
theorem chkLate_app {y r : Oper} {st : St} {u : Upd} {V V1 : View} {rdL rdR : List Nat} (hl : isLate y = true) (hwf : WF st) (ha : ∀ d, r.dst = some d → d ∉ looks ops y) (hd : ∀ d, r.dst = some d → y.dst ≠ some d)
    (hg : Good r rdL rdR st.mem V u V1) (h : chkLate P y st = true) : chkLate P y (u.app st) = true := by
  have he : effOf P y (u.app st) = effOf P y st := late_eff hl (fun o ho => val_app hwf ha hg ho)
  unfold chkLate at *
  rw [he]
  have hm : ∀ d, y.dst = some d → st.mem d = none → (u.app st).mem d = none := fun d hyd hm => by
    have hrd : r.dst ≠ some d := fun e => hd d e hyd
    obtain ⟨_, hu⟩ := hg
    cases u with
    | put d2 s => rw [show ((Upd.put d2 s).app st).mem = st.mem from put_mem]; exact hm
    | box d2 b => show upd st.mem d2 b d = none; rw [upd_ne _ _ (fun e => hrd (by rw [hu.1, e]))]; exact hm
    | mem m d2 s => rw [show ((Upd.mem m d2 s).app st).mem = m from put_mem]; exact hu.2.2.2.2 d hm hrd
    | row g d2 b =>
      have hne : d ≠ d2 := fun e => hrd (by rw [hu.1, e])
      cases g with
      | none => show upd st.mem d2 b d = none; rw [upd_ne _ _ hne]; exact hm
      | some g =>
        show upd (del st.mem g) d2 b d = none
        rw [upd_ne _ _ hne]
        by_cases hg : d = g
        · subst hg; exact del_same _ _
        · rw [del_ne _ hg]; exact hm
  revert h
  generalize effOf P y st = e
  cases e <;> simp only <;> try exact id
  case box t c =>
    cases hyd : y.dst with
    | none => exact id
    | some d =>
      simp only
      cases hmd : st.mem d with
      | some z => intro h; cases h
      | none => rw [hm d hyd hmd]; exact id

/-- **an operation that may come now is pulled to the front** -/
theorem xseq_pull {K : St → View → Prop} {r : Nat} {or : Oper} (hor : ops[r]? = some or) : ∀ (L : Plan) (rdL rdR : List (Nat × Nat)) (st : St) (V : View), r ∈ L.map (·.1) → PlanOk ops L → (L.map (·.1)).Nodup → WF st →
    (∀ i ∈ L.map (·.1), trW (masks ops.toList []) r i = false) →
    xseq P ops K L rdL rdR st V → act P ops or (relOf or rdL) (relOf or rdR) st V (fun u V1 => xseq P ops K (eraseP r L) rdL rdR (u.app st) V1)
  | [], _, _, _, _, hr, _, _, _, _, _ => by simp at hr
  | (x, cs) :: L, rdL, rdR, st, V, hr, hp, hnd, hwf, hready, h => by
    obtain ⟨p1, ⟨ox, hox, p2⟩, p3, p4⟩ := hp
    have hnd' : x ∉ L.map (·.1) ∧ (L.map (·.1)).Nodup := by simpa using hnd
    unfold xseq at h
    simp only [hox] at h
    cases hc : chkList P ops st cs with
    | false => rw [hc] at h; exact h.no.elim
    | true =>
      rw [hc] at h
      simp only at h
      by_cases hx : x = r
      · subst hx
        rw [hox, Option.some.injEq] at hor
        subst hor
        rw [eraseP_cons_same]
        have hkeep : eraseP x L = L := by
          unfold eraseP
          have h1 : L.filter (fun y => !(y.1 == x)) = L := List.filter_eq_self.2 (fun y hy => by
            simp only [Bool.not_eq_true', beq_eq_false_iff_ne, ne_eq]
            exact fun e => hnd'.1 (List.mem_map.2 ⟨y, hy, e⟩))
          rw [h1]
          conv => rhs; rw [← List.map_id L]
          refine List.map_congr_left (fun y hy => ?_)
          have : y.2.filter (fun z => !(z == x)) = y.2 := List.filter_eq_self.2 (fun z hz => by
            simp only [Bool.not_eq_true', beq_eq_false_iff_ne, ne_eq]
            intro e
            -- what y checks stands behind y, so in L
            have : ∀ (L : Plan), PlanOk ops L → ∀ y ∈ L, ∀ z ∈ y.2, z ∈ L.map (·.1) := fun L => by
              induction L with
              | nil => intro _ y hy; cases hy
              | cons a L ih =>
                intro hpl y hy z hz
                obtain ⟨_, _, q3, q4⟩ := hpl
                rcases List.mem_cons.1 hy with rfl | hy
                · exact List.mem_cons_of_mem _ (q3 z hz).1
                · exact List.mem_cons_of_mem _ (ih q4 y hy z hz)
            exact hnd'.1 (e ▸ this L p4 y hy z hz))
          rw [this]; rfl
        rw [hkeep]
        refine act_good hwf (fun _ hi => hi) (fun _ hi => hi) (fun u V1 hg hk => ?_) h
        split at hk
        · exact xseq_mono L _ _ _ _ _ _ (good_wf hwf hg) (fun y hy => List.mem_append.2 (.inr hy)) (fun y hy => List.mem_append.2 (.inr hy)) hk
        · exact hk
      · have hrL : r ∈ L.map (·.1) := by
          rcases List.mem_cons.1 hr with h1 | h1
          · exact absurd h1.symm hx
          · exact h1
        rw [eraseP_cons hx]
        obtain ⟨ox', or', e1, e2, hw1, hpair⟩ := (p1 r hrL).get
        rw [hox, Option.some.injEq] at e1; subst e1
        rw [hor, Option.some.injEq] at e2; subst e2
        have hnw : trW (masks ops.toList []) r x = false := hready x (by simp)
        rcases hpair with hpair | ⟨hap, hkind⟩
        · rw [hnw] at hpair; cases hpair
        have hwr : waits or x = false := by
          cases hw : waits or x with
          | false => rfl
          | true =>
            -- a direct wait is a wait
            obtain ⟨rest, h1, h2, h3⟩ := masks_spec ops.toList []
            simp only [List.nil_append] at h1 h3
            obtain ⟨acc2, q1, q2⟩ := h3 r or (by simpa using hor)
            simp only [List.length_nil, Nat.zero_add] at q1 q2
            have : trW (masks ops.toList []) r x = true := by
              unfold trW
              rw [h1, q2]
              obtain ⟨e, he, hb, hon⟩ := waitsL_iff.1 hw
              have : ∀ (l : List Edge), e ∈ l → (maskL acc2 l).testBit x = true := fun l => by
                induction l with
                | nil => intro h; cases h
                | cons e' l ih =>
                  intro hm
                  unfold maskL
                  rcases List.mem_cons.1 hm with rfl | hm
                  · rw [hb]; simp [Nat.testBit_or, hon]
                  · cases bindsB e' <;> simp [Nat.testBit_or, ih hm]
              exact this _ he
            rw [this] at hnw; cases hnw
        -- first behind x
        have ih : ∀ u V1 rdL1 rdR1, Good ox (relOf ox rdL) (relOf ox rdR) st.mem V u V1 → xseq P ops K L rdL1 rdR1 (u.app st) V1 →
            act P ops or (relOf or rdL1) (relOf or rdR1) (u.app st) V1 (fun ur V2 => xseq P ops K (eraseP r L) rdL1 rdR1 (ur.app (u.app st)) V2) := fun u V1 rdL1 rdR1 hg hk =>
          xseq_pull hor L rdL1 rdR1 (u.app st) V1 hrL p4 hnd'.2 (good_wf hwf hg) (fun i hi => hready i (by simp [hi])) hk
        -- then ahead of it
        have hback : ∀ ur V1, Good or (relOf or rdL) (relOf or rdR) st.mem V ur V1 → chkList P ops (ur.app st) (cs.filter (fun y => !(y == r))) = true := fun ur V1 hg => by
          refine chkList_mem.2 (fun y hy => ?_)
          obtain ⟨hy1, hy2⟩ := List.mem_filter.1 hy
          have hyr : y ≠ r := by simpa using hy2
          obtain ⟨oy, hoy, hcy⟩ := (chkList_mem.1 hc) y hy1
          obtain ⟨hyL, oy', hoy', hly, hyw⟩ := p3 y hy1
          rw [hoy, Option.some.injEq] at hoy'; subst hoy'
          refine ⟨oy, hoy, chkLate_app (ops := ops) hly hwf ?_ ?_ hg hcy⟩
          all_goals
            have hpr : Apart ops or oy ∨ Apart ops oy or := by
              -- r and y stand both in L
              have : ∀ (L : Plan), PlanOk ops L → r ∈ L.map (·.1) → y ∈ L.map (·.1) → PairOk ops r y ∨ PairOk ops y r := fun L => by
                induction L with
                | nil => intro _ h; simp at h
                | cons a L ih =>
                  intro hpl h1 h2
                  obtain ⟨q1, _, _, q4⟩ := hpl
                  simp only [List.map_cons, List.mem_cons] at h1 h2
                  rcases h1 with h1 | h1
                  · rcases h2 with h2 | h2
                    · exact absurd (h2.trans h1.symm) hyr
                    · exact .inl (by rw [h1]; exact q1 y h2)
                  · rcases h2 with h2 | h2
                    · exact .inr (by rw [h2]; exact q1 r h1)
                    · exact ih q4 h1 h2
              rcases this L p4 hrL hyL with h1 | h1
              · obtain ⟨a1, a2, b1, b2, _, b3⟩ := h1.get
                rw [hor, Option.some.injEq] at b1; subst b1
                rw [hoy, Option.some.injEq] at b2; subst b2
                rcases b3 with b3 | b3
                · rw [hyw r hrL] at b3; cases b3
                · exact .inl b3.1
              · obtain ⟨a1, a2, b1, b2, _, b3⟩ := h1.get
                rw [hoy, Option.some.injEq] at b1; subst b1
                rw [hor, Option.some.injEq] at b2; subst b2
                rcases b3 with b3 | b3
                · rw [hready y (by simp [hyL])] at b3; cases b3
                · exact .inr b3.1
          · intro d hd; rcases hpr with hpr | hpr
            · exact hpr.a d hd
            · exact hpr.c d hd
          · intro d hd e; rcases hpr with hpr | hpr
            · exact hpr.b d hd e
            · exact hpr.b d e hd
        cases hq : isQuiet ox with
        | true =>
          rw [hq] at h
          have h1 := act_good (ops := ops) hwf (rdL' := relOf ox rdL) (rdR' := relOf ox rdR) (fun _ hi => hi) (fun _ hi => hi) (fun u V1 hg hk => ih u V1 _ _ hg hk) h
          have h2 := swap_quiet (K := fun st2 V2 => xseq P ops K (eraseP r L) (tag x (loadsOf ox st) ++ rdL) (tag x (rowsOf st (looks ops ox)) ++ rdR) st2 V2) (bL := relOf ox rdL) (bR := relOf ox rdR) hq hwf hap
            (relOf_sub (o := or) (fun y hy => List.mem_append.2 (.inr hy))) (fun i hi => relOf_tag hwr (mem_tag hi)) (relOf_sub (o := or) (fun y hy => List.mem_append.2 (.inr hy))) (fun i hi => relOf_tag hwr (mem_tag hi)) h1
          refine act_good hwf (fun _ hi => hi) (fun _ hi => hi) (fun ur V1 hg ⟨hlk2, hk⟩ => ?_) h2
          unfold xseq
          simp only [hox, hback ur V1 hg, hq]
          -- the names are those that x has met
          have e1 : loadsOf ox (ur.app st) = loadsOf ox st := by
            unfold loadsOf
            cases hop : ox.op <;> simp only
            case load ty a =>
              cases a with
              | tmp k => simp only [opd, hlk2.env k (mem_looks (by rw [hop]; simp [Op.operands]))]
              | const v => cases v <;> rfl
              | global g => rfl
              | func f => rfl
          have e2 : ∀ l : List Nat, (∀ t ∈ l, t ∈ looks ops ox) → rowsOf (ur.app st) l = rowsOf st l := fun l => by
            induction l with
            | nil => intro _; rfl
            | cons a l ihl =>
              intro hl
              unfold rowsOf
              rw [hlk2.env a (hl a (by simp)), ihl (fun t ht => hl t (by simp [ht]))]
          rw [e1, e2 _ (fun _ ht => ht)]
          exact hk
        | false =>
          rw [hq] at h
          rcases hkind with hkind | ⟨hlate, hgd, hal⟩
          · rw [hq] at hkind; cases hkind
          have h1 := act_good (ops := ops) hwf (rdL' := relOf ox rdL) (rdR' := relOf ox rdR) (fun _ hi => hi) (fun _ hi => hi) (fun u V1 hg hk => ih u V1 _ _ hg hk) h
          obtain ⟨oy, hoy, hcy⟩ := (chkList_mem.1 hc) r (p2 hq r hrL or hor hlate hnw)
          rw [hor, Option.some.injEq] at hoy; subst hoy
          have h2 := swap_late (K := fun st2 V2 => xseq P ops K (eraseP r L) rdL rdR st2 V2) (rdL := relOf or rdL) (rdR := relOf or rdR) hlate hgd hcy hwf hap hal h1
          refine act_good hwf (fun _ hi => hi) (fun _ hi => hi) (fun ur V1 hg hk => ?_) h2
          unfold xseq
          simp only [hox, hback ur V1 hg, hq]
          exact hk
end
end Go.X
