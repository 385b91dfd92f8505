/- One part of a proof: an evaluator of the model, shown right, and contracts that it yields. No condition beyond those that each theorem names. -/
import Derived.Test.YtenpginanhnkbaaXD4
namespace Go.X
open Go.RowKit
section
variable {P : Program} {ops : Array Oper}

theorem quietVal_from {o : Oper} {st : St} {V : View} {s : SV} (h : quietVal P ops o st V s) : From ops o st s := by
  have he := effOf_from (P := P) (ops := ops) (o := o) (st := st)
  have hq : qv P V s (effOf P o st) → From ops o st s := by
    generalize effOf P o st = e at *
    cases e with
    | val s' => intro h; cases h; exact he
    | pick c a b => intro h; simp only [qv] at h; subst h; cases c; exact he.2; exact he.1
    | ldv t b off n => rintro ⟨l, v, _, _, _, rfl⟩; exact From.v
    | idx base len i size => rintro ⟨b, off, _, _, _, rfl⟩; exact From.v
    | sem x => rintro ⟨y, _, rfl⟩; exact From.v
    | _ => intro h; exact h.elim
  unfold quietVal at h
  revert h
  generalize guardOf ops o st.env = g
  rcases g with _ | ⟨_ | b, w⟩
  · exact fun h => h.elim
  · cases w
    · intro h; cases h; exact From.v
    · exact hq
  · cases w <;> cases b <;> simp only [if_true, if_false, Bool.false_eq_true] <;> first | exact hq | (intro h; cases h; exact From.v)

structure Apart (ops : Array Oper) (x r : Oper) : Prop where
  a : ∀ d, x.dst = some d → d ∉ looks ops r
  b : ∀ d, x.dst = some d → r.dst ≠ some d
  c : ∀ d, r.dst = some d → d ∉ looks ops x

theorem put_env {st : St} {d : Option Nat} {s : SV} {t : Nat} (h : d ≠ some t) : (st.put d s).env t = st.env t := by
  cases d with
  | none => rfl
  | some d => exact upd_ne _ _ (fun e => h (by rw [e]))
theorem put_mem {st : St} {d : Option Nat} {s : SV} : (st.put d s).mem = st.mem := by cases d <;> rfl

theorem like_app {x r : Oper} {st : St} {u : Upd} {V V1 : View} {rdL rdR : List Nat} (hwf : WF st) (hap : Apart ops x r) (hL : ∀ i ∈ loadsOf x st, i ∈ rdL) (hR : ∀ i ∈ rowsOf st (looks ops x), i ∈ rdR)
    (hg : Good r rdL rdR st.mem V u V1) : Like ops x st (u.app st) := by
  have hload : ∀ (t : TypeId) (a : Operand) (id off : Nat), x.op = .load t a → opd st.env a = some (.own id off) → id ∈ rdL ∧ ∃ k ∈ looks ops x, st.env k = some (.own id off) := fun t a id off ho hs => by
    refine ⟨hL id (by unfold loadsOf; rw [ho]; simp only [hs]; simp), ?_⟩
    obtain ⟨k, rfl, hk⟩ := opd_own (i := id) hs rfl
    exact ⟨k, mem_looks (by rw [ho]; simp [Op.operands]), hk⟩
  obtain ⟨_, hu⟩ := hg
  cases u with
  | put d s =>
    obtain ⟨rfl, _⟩ := hu
    exact ⟨fun t ht => put_env (fun e => hap.c t e ht), fun t _ s' _ => by rw [show (Upd.put r.dst s).app st = st.put r.dst s from rfl, put_mem], fun _ _ _ _ _ _ => by rw [show (Upd.put r.dst s).app st = st.put r.dst s from rfl, put_mem]⟩
  | box d b =>
    obtain ⟨hd, hm, _⟩ := hu
    have hne : ∀ t ∈ looks ops x, ∀ s', st.env t = some s' → s'.name ≠ some d := fun t _ s' hs e => by
      obtain ⟨v, hv⟩ := hwf t s' hs
      cases s' with
      | v y => cases e
      | kb y => cases e
      | own i o => simp only [SV.name, Option.some.injEq] at e; subst e; simp [toVal, hm] at hv
      | row i => simp only [SV.name, Option.some.injEq] at e; subst e; simp [toVal, hm] at hv
    refine ⟨fun t ht => upd_ne _ _ (fun e => hap.c d hd (e ▸ ht)), fun t ht s' hs => toVal_of fun i hi => upd_ne _ _ (fun e => hne t ht s' hs (by rw [hi, e])), fun t a id off ho hs => ?_⟩
    obtain ⟨_, k, hk, hks⟩ := hload t a id off ho hs
    exact upd_ne _ _ (fun e => hne k hk _ hks (by simp [SV.name, e]))
  | mem m d s =>
    obtain ⟨rfl, hsame, hprot, _⟩ := hu
    refine ⟨fun t ht => put_env (st := ⟨st.env, m⟩) (fun e => hap.c t e ht), fun t _ s' hs => ?_, fun t a id off ho hs => ?_⟩
    · obtain ⟨v, hv⟩ := hwf t s' hs
      rw [show ((Upd.mem m r.dst s).app st).mem = m from put_mem, hv]
      exact hsame s' v hv
    · rw [show ((Upd.mem m r.dst s).app st).mem = m from put_mem]
      exact hprot id (hload t a id off ho hs).1
  | row g d b =>
    obtain ⟨hd, hgs, hmd, _⟩ := hu
    have hneg : ∀ t ∈ looks ops x, ∀ s', st.env t = some s' → ∀ i, g = some i → s'.name ≠ some i := fun t ht s' hs i hi e => by
      obtain ⟨hnot, v, ty, sz, k, hrow⟩ := hgs i hi
      obtain ⟨y, hy⟩ := hwf t s' hs
      cases s' with
      | v y => cases e
      | kb y => cases e
      | own j o => simp only [SV.name, Option.some.injEq] at e; subst e; simp [toVal, hrow] at hy
      | row j => simp only [SV.name, Option.some.injEq] at e; subst e; exact hnot (hR _ (mem_rowsOf ht hs))
    have hned : ∀ t ∈ looks ops x, ∀ s', st.env t = some s' → s'.name ≠ some d := fun t ht s' hs e => by
      rcases hmd with hmd | hmd
      · obtain ⟨v, hv⟩ := hwf t s' hs
        cases s' with
        | v y => cases e
        | kb y => cases e
        | own i o => simp only [SV.name, Option.some.injEq] at e; subst e; simp [toVal, hmd] at hv
        | row i => simp only [SV.name, Option.some.injEq] at e; subst e; simp [toVal, hmd] at hv
      · exact hneg t ht s' hs d hmd e
    have hnone : ∀ {env : Nat → Option SV} {mem : Nat → Option Res} {k t : Nat}, env t = none → purge env mem k t = none := fun h => by unfold purge; rw [h]
    cases g with
    | none =>
      refine ⟨fun t ht => ?_, fun t ht s' hs => toVal_of fun i hi => upd_ne _ _ (fun e => hned t ht s' hs (by rw [hi, e])), fun t a id off ho hs => ?_⟩
      · show upd (purge st.env st.mem d) d (.row d) t = _
        rw [upd_ne _ _ (show t ≠ d from fun e => hap.c d hd (by rw [← e]; exact ht))]
        cases hs : st.env t with
        | none => exact hnone hs
        | some s' => exact purge_keep hs (hned t ht s' hs)
      · obtain ⟨_, k, hk, hks⟩ := hload t a id off ho hs
        exact upd_ne _ _ (fun e => hned k hk _ hks (by simp [SV.name, e]))
    | some g =>
      have hmem : ∀ i, i ≠ g → i ≠ d → ((Upd.row (some g) d b).app st).mem i = st.mem i := fun i h1 h2 => by
        show upd (del st.mem g) d b i = _
        rw [upd_ne _ _ h2, del_ne _ h1]
      refine ⟨fun t ht => ?_, fun t ht s' hs => toVal_of fun i hi => hmem i (fun e => hneg t ht s' hs g rfl (by rw [hi, e])) (fun e => hned t ht s' hs (by rw [hi, e])), fun t a id off ho hs => ?_⟩
      · show upd (purge (purge st.env st.mem g) (del st.mem g) d) d (.row d) t = _
        rw [upd_ne _ _ (show t ≠ d from fun e => hap.c d hd (by rw [← e]; exact ht))]
        cases hs : st.env t with
        | none => exact hnone (hnone hs)
        | some s' => exact purge_keep (purge_keep hs (hneg t ht s' hs g rfl)) (hned t ht s' hs)
      · obtain ⟨_, k, hk, hks⟩ := hload t a id off ho hs
        exact hmem id (fun e => hneg k hk _ hks g rfl (by simp [SV.name, e])) (fun e => hned k hk _ hks (by simp [SV.name, e]))

theorem away_of {x r : Oper} {st : St} {u : Upd} {s : SV} {V V1 : View} {rdL rdR : List Nat} (hwf : WF st) (hR : ∀ i ∈ rowsOf st (looks ops x), i ∈ rdR) (hg : Good r rdL rdR st.mem V u V1) (hs : From ops x st s) : Away s st.mem u := by
  obtain ⟨_, hu⟩ := hg
  have hnm : ∀ d, st.mem d = none → s.name ≠ some d := fun d hm e => by
    obtain ⟨t, ht, s', hs', hn, _, _⟩ := hs d e
    obtain ⟨v, hv⟩ := hwf t s' hs'
    cases s' with
    | v y => cases hn
    | kb y => cases hn
    | own i o => simp only [SV.name, Option.some.injEq] at hn; subst hn; simp [toVal, hm] at hv
    | row i => simp only [SV.name, Option.some.injEq] at hn; subst hn; simp [toVal, hm] at hv
  cases u with
  | put d t => trivial
  | mem m d t => trivial
  | box d b => exact hnm d hu.2.1
  | row g d b =>
    obtain ⟨hd, hgs, hmd, _⟩ := hu
    have hneg : ∀ i, g = some i → s.name ≠ some i := fun i hi e => by
      obtain ⟨hnot, v, ty, sz, k, hrow⟩ := hgs i hi
      obtain ⟨t, ht, s', hs', hn, _, _⟩ := hs i e
      obtain ⟨y, hy⟩ := hwf t s' hs'
      cases s' with
      | v y => cases hn
      | kb y => cases hn
      | own j o => simp only [SV.name, Option.some.injEq] at hn; subst hn; simp [toVal, hrow] at hy
      | row j => simp only [SV.name, Option.some.injEq] at hn; subst hn; exact hnot (hR _ (mem_rowsOf ht hs'))
    refine ⟨?_, hneg⟩
    rcases hmd with hmd | hmd
    · exact hnm d hmd
    · exact hneg d hmd

/-- **(a) a quiet operation may come behind another one** -/
theorem swap_quiet {x r : Oper} {st : St} {V : View} {K : St → View → Prop} {rdL rdR rdL1 rdR1 aL aR bL bR : List Nat} (hq : isQuiet x = true) (hwf : WF st) (hap : Apart ops x r)
    (hL : ∀ i ∈ rdL, i ∈ rdL1) (hL2 : ∀ i ∈ loadsOf x st, i ∈ rdL1) (hR : ∀ i ∈ rdR, i ∈ rdR1) (hR2 : ∀ i ∈ rowsOf st (looks ops x), i ∈ rdR1)
    (h : act P ops x aL aR st V (fun ux V1 => act P ops r rdL1 rdR1 (ux.app st) V1 (fun ur V2 => K (ur.app (ux.app st)) V2))) :
    act P ops r rdL rdR st V (fun ur V1 => Like ops x st (ur.app st) ∧ act P ops x bL bR (ur.app st) V1 (fun ux V2 => K (ux.app (ur.app st)) V2)) := by
  obtain ⟨s, hs, hr⟩ := (act_quiet hq).1 h
  have hlk : Like ops r ((Upd.put x.dst s).app st) st := ⟨fun t ht => (put_env (st := st) (fun e => hap.a t e ht)).symm, fun t _ s' _ => by rw [show ((Upd.put x.dst s).app st).mem = st.mem from put_mem], fun _ _ _ _ _ _ => by rw [show ((Upd.put x.dst s).app st).mem = st.mem from put_mem]⟩
  have hr' := act_like hlk (show st.mem = ((Upd.put x.dst s).app st).mem from put_mem.symm) hr
  refine act_good hwf hL hR (fun u V1 hg hk => ⟨like_app hwf hap hL2 hR2 hg, (act_quiet hq).2 ⟨s, quietVal_like (like_app hwf hap hL2 hR2 hg) hg.1 hs, ?_⟩⟩) hr'
  have hcm : u.app (st.put x.dst s) = (u.app st).put x.dst s := by
    refine app_put (dr := r.dst) hap.b ?_ (away_of hwf hR2 hg (quietVal_from hs))
    obtain ⟨_, hu⟩ := hg
    cases u with
    | put d t => exact hu.1
    | box d b => exact hu.1.symm
    | mem m d t => exact hu.1
    | row g d b => exact hu.1.symm
  rw [← show ((u.app st).put x.dst s) = (Upd.put x.dst s).app (u.app st) from rfl, ← hcm]
  exact hk
end
end Go.X
