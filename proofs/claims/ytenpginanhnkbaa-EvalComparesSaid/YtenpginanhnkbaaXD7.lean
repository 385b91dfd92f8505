/- One part of a proof: an evaluator of the model, shown right, and contracts that it yields. No condition beyond those that each theorem names. -/
import Derived.Test.YtenpginanhnkbaaXD6
namespace Go.X
open Go.RowKit
section
variable {P : Program} {ops : Array Oper}

/-- a late operation may come now -/
def chkLate (P : Program) (r : Oper) (st : St) : Bool := match effOf P r st with
  | .box _ _ => (match r.dst with | some d => (match st.mem d with | none => true | some _ => false) | none => false)
  | .lit _ _ _ => true
  | _ => false

def isApp (o : Oper) : Bool := match o.op with
  | .call c => (match c.callee with | .builtin .append => true | _ => false)
  | _ => false
def isLit (o : Oper) : Bool := match o.op with | .buildSlice .. => true | _ => false

theorem effOf_notApp {o : Oper} {st : St} (h : isApp o = false) : ∀ s e z b y, effOf P o st ≠ .app s e z b y := by
  intro s e z b y
  obtain ⟨dst, op, type, pos, after, guard⟩ := o
  cases op
  case call c =>
    obtain ⟨callee, args, argTypes⟩ := c
    cases callee with
    | value f => simp only [effOf]; repeat' split
                 all_goals (intro h; cases h)
    | invoke r m => simp only [effOf]; intro h; cases h
    | builtin b =>
      cases b <;> simp only [isApp] at h <;> first | (cases h; done) | (simp only [effOf, pureVal]; repeat' split
                                                                        all_goals (intro h; cases h))
  all_goals
    simp only [effOf, pureVal]
    repeat' split
    all_goals (intro h; cases h)

theorem effOf_lit {o : Oper} {st : St} {e : TypeId} {len : Nat} {cells : List Value} (h : effOf P o st = .lit e len cells) : isLit o = true := by
  obtain ⟨dst, op, type, pos, after, guard⟩ := o
  cases op
  case buildSlice => rfl
  case call c =>
    obtain ⟨callee, args, argTypes⟩ := c
    revert h
    cases callee with
    | value f => simp only [effOf]; repeat' split
                 all_goals (intro h; cases h)
    | invoke r m => simp only [effOf]; intro h; cases h
    | builtin b =>
      cases b <;> simp only [effOf, pureVal] <;> repeat' split
      all_goals (intro h; cases h)
  all_goals
    revert h
    simp only [effOf, pureVal]
    repeat' split
    all_goals (intro h; cases h)

/-- the values that a late operation looks at stay -/
theorem val_app {x r : Oper} {st : St} {u : Upd} {V V1 : View} {rdL rdR : List Nat} (hwf : WF st) (hap : ∀ d, x.dst = some d → d ∉ looks ops r) (hg : Good x rdL rdR st.mem V u V1) {o : Operand} (ho : o ∈ r.op.operands) :
    (u.app st).val o = st.val o := by
  cases o with
  | const v => cases v <;> rfl
  | global g => rfl
  | func f => rfl
  | tmp t =>
    have ht := mem_looks (ops := ops) ho
    have hne : ∀ d, x.dst = some d → t ≠ d := fun d hd e => hap d hd (e ▸ ht)
    obtain ⟨_, hu⟩ := hg
    cases hs : st.env t with
    | none =>
      have h0 : (u.app st).env t = none := by
        cases u with
        | put d s => obtain ⟨rfl, _⟩ := hu; show (st.put x.dst s).env t = none; rw [put_env (fun e => hne t e rfl)]; exact hs
        | box d b => show upd st.env d _ t = none; rw [upd_ne _ _ (hne d hu.1)]; exact hs
        | mem m d s => obtain ⟨rfl, _⟩ := hu; show ((⟨st.env, m⟩ : St).put x.dst s).env t = none; rw [put_env (fun e => hne t e rfl)]; exact hs
        | row g d b =>
          have hp : ∀ {env : Nat → Option SV} {mem : Nat → Option Res} {k : Nat}, env t = none → purge env mem k t = none := fun h => by unfold purge; rw [h]
          cases g with
          | none => show upd (purge st.env st.mem d) d _ t = none; rw [upd_ne _ _ (hne d hu.1)]; exact hp hs
          | some g => show upd (purge (purge st.env st.mem g) (del st.mem g) d) d _ t = none; rw [upd_ne _ _ (hne d hu.1)]; exact hp (hp hs)
      simp only [St.val, opd, h0, hs]
    | some s' =>
      obtain ⟨v, hv⟩ := hwf t s' hs
      have hold : st.val (.tmp t) = some v := by simp only [St.val, opd, hs]; exact hv
      rw [hold]
      have fin : ∀ (st2 : St) s2, st2.env t = some s2 → toVal st2.mem s2 = some v → st2.val (.tmp t) = some v := fun st2 s2 h1 h2 => by simp only [St.val, opd, h1]; exact h2
      cases u with
      | put d s =>
        obtain ⟨rfl, _⟩ := hu
        refine fin _ s' (by show (st.put x.dst s).env t = _; rw [put_env (fun e => hne t e rfl)]; exact hs) ?_
        rw [show ((Upd.put x.dst s).app st).mem = st.mem from put_mem]; exact hv
      | box d b =>
        refine fin _ s' (by show upd st.env d _ t = _; rw [upd_ne _ _ (hne d hu.1)]; exact hs) ?_
        rw [← hv]
        refine toVal_of fun i hi => upd_ne _ _ (fun e => ?_)
        subst e
        cases s' with
        | v y => cases hi
        | kb y => cases hi
        | own j o => simp only [SV.name, Option.some.injEq] at hi; subst hi; simp [toVal, hu.2.1] at hv
        | row j => simp only [SV.name, Option.some.injEq] at hi; subst hi; simp [toVal, hu.2.1] at hv
      | mem m d s =>
        obtain ⟨rfl, hsame, _⟩ := hu
        refine fin _ s' (by show ((⟨st.env, m⟩ : St).put x.dst s).env t = _; rw [put_env (fun e => hne t e rfl)]; exact hs) ?_
        rw [show ((Upd.mem m x.dst s).app st).mem = m from put_mem]; exact hsame s' v hv
      | row g d b =>
        have hp : ∀ (env : Nat → Option SV) (mem : Nat → Option Res) (k : Nat) (s3 : SV), env t = some s3 → toVal mem s3 = some v → ∃ s4, purge env mem k t = some s4 ∧ toVal (del mem k) s4 = some v ∧ s4.name ≠ some k := fun env mem k s3 h1 h2 => by
          by_cases hn : s3.name = some k
          · refine ⟨.v v, ?_, rfl, by simp [SV.name]⟩
            unfold purge; rw [h1]
            cases s3 with
            | v y => cases hn
            | kb y => cases hn
            | own i o => simp only [SV.name, Option.some.injEq] at hn; subst hn; simp [demote, Nat.beq_refl, h2]
            | row i => simp only [SV.name, Option.some.injEq] at hn; subst hn; simp [demote, Nat.beq_refl, h2]
          · refine ⟨s3, purge_keep h1 hn, ?_, hn⟩
            rw [← h2]; exact toVal_of fun i hi => del_ne _ (fun e => hn (by rw [hi, e]))
        cases g with
        | none =>
          obtain ⟨s4, h4, h5, h6⟩ := hp st.env st.mem d s' hs hv
          refine fin _ s4 (by show upd (purge st.env st.mem d) d _ t = _; rw [upd_ne _ _ (hne d hu.1)]; exact h4) ?_
          rw [← h5]
          exact toVal_of fun i hi => by
            have : i ≠ d := fun e => h6 (by rw [hi, e])
            show upd st.mem d b i = del st.mem d i
            rw [upd_ne _ _ this, del_ne _ this]
        | some g =>
          obtain ⟨s4, h4, h5, _⟩ := hp st.env st.mem g s' hs hv
          obtain ⟨s5, h7, h8, h9⟩ := hp (purge st.env st.mem g) (del st.mem g) d s4 h4 h5
          refine fin _ s5 (by show upd (purge (purge st.env st.mem g) (del st.mem g) d) d _ t = _; rw [upd_ne _ _ (hne d hu.1)]; exact h7) ?_
          rw [← h8]
          exact toVal_of fun i hi => by
            have : i ≠ d := fun e => h9 (by rw [hi, e])
            show upd (del st.mem g) d b i = del (del st.mem g) d i
            rw [upd_ne _ _ this, del_ne _ this]

theorem parts_val {st st' : St} : ∀ {l : List (Nat × Operand)}, (∀ x ∈ l, st'.val x.2 = st.val x.2) → st'.parts l = st.parts l
  | [], _ => rfl
  | (i, x) :: l, h => by
    simp only [St.parts, h (i, x) (by simp), parts_val (l := l) (fun y hy => h y (by simp [hy]))]

theorem late_eff {r : Oper} {st st' : St} (hl : isLate r = true) (h : ∀ o ∈ r.op.operands, st'.val o = st.val o) : effOf P r st' = effOf P r st := by
  obtain ⟨dst, op, type, pos, after, guard⟩ := r
  cases op <;> simp only [isLate] at hl <;> try (exact absurd hl (by decide))
  case box t x => simp only [effOf, h x (by simp [Op.operands])]
  case alloc t => rfl
  case buildSlice t len ps =>
    have e := parts_val (st := st) (st' := st') (l := ps.toList) (fun x hx => h x.2 (by simp only [Op.operands]; simp; exact ⟨x.1, by simpa using hx⟩))
    simp only [effOf, e]

/-! ### a box that comes ahead -/
theorem dQ_box {x : Oper} {e : Eff} {aL aR : List Nat} {st : St} {V : View} {K1 : Upd → View → Prop} {K : St → View → Prop} {d blk : Nat} {t : TypeId} {cells : List Value} (hd : st.mem d = none) (hxd : x.dst ≠ some d)
    (hblk : ∀ o, V blk o = none) (hna : ∀ s e' z b y, e ≠ .app s e' z b y)
    (hK1 : ∀ u V1, K1 u V1 → ((u.app st).mem d = none → (∀ o, V1 blk o = none) → K ((Upd.box d (.box blk t cells)).app (u.app st)) V1) ∧ ((u.app st).mem d = none ∨ False))
    (h : dQ P x e aL aR st.mem V K1) :
    dQ P x e aL aR (upd st.mem d (.box blk t cells)) V (fun u V1 => K (u.app ((Upd.box d (.box blk t cells)).app st)) V1) := by
  have hput : ∀ s, (Upd.box d (.box blk t cells)).app (st.put x.dst s) = (Upd.put x.dst s).app ((Upd.box d (.box blk t cells)).app st) := fun s => by
    cases hx : x.dst with
    | none => rfl
    | some y => simp only [Upd.app, St.put]; rw [upd_comm _ _ _ (fun e => hxd (by rw [hx, e]))]
  have kput : ∀ s, K1 (.put x.dst s) V → K ((Upd.put x.dst s).app ((Upd.box d (.box blk t cells)).app st)) V := fun s hk => by
    rw [← hput]
    exact (hK1 _ _ hk).1 (by rw [show ((Upd.put x.dst s).app st).mem = st.mem from put_mem]; exact hd) hblk
  cases e with
  | val s => exact kput _ h
  | pick c s u => exact ⟨fun hc => kput _ (h.yes hc), fun hc => kput _ (h.no hc)⟩
  | ldv ty b off n =>
    obtain ⟨l, h1, h2, h3⟩ := h.get
    refine ⟨⟨l, h1, h2, ?_⟩⟩
    split at h3
    · exact kput _ h3
    · exact h3
  | idx base len i size => obtain ⟨b, off, h1, h2, h3, h4⟩ := h.get; exact ⟨⟨b, off, h1, h2, h3, kput _ h4⟩⟩
  | sem s => obtain ⟨y, h1, h3⟩ := h.get; exact ⟨⟨y, h1, kput _ h3⟩⟩
  | box ty cs =>
    simp only [dQ] at h ⊢
    cases hx : x.dst with
    | none => rw [hx] at h; exact h.no.elim
    | some y =>
      rw [hx] at h
      have hyd : y ≠ d := fun e => hxd (by rw [hx, e])
      simp only [upd_ne _ _ hyd]
      simp only at h
      cases hm : st.mem y with
      | some r => rw [hm] at h; exact h.no.elim
      | none =>
        rw [hm] at h
        simp only at h ⊢
        intro b2 hb2
        have := (hK1 _ _ (h b2 hb2)).1 (by show upd st.mem y _ d = none; rw [upd_ne _ _ (Ne.symm hyd)]; exact hd) hblk
        have e : (Upd.box d (.box blk t cells)).app ((Upd.box y (.box b2 ty cs)).app st) = (Upd.box y (.box b2 ty cs)).app ((Upd.box d (.box blk t cells)).app st) := by
          simp only [Upd.app]; rw [upd_comm _ _ _ hyd, upd_comm _ _ _ hyd]
        rwa [e] at this
  | lit ty len cs =>
    intro b hb
    have hb0 : LitOk V st.mem b cs := ⟨hb.has, fun hc i r hr => hb.free hc i r (by rw [upd_ne _ _ (fun e => by subst e; rw [hd] at hr; cases hr)]; exact hr)⟩
    rw [← hput]
    refine (hK1 _ _ (h b hb0)).1 (by rw [show ((Upd.put x.dst _).app st).mem = st.mem from put_mem]; exact hd) (fun o => ?_)
    by_cases hc : cs = []
    · subst hc; rw [addU_nil]; exact hblk o
    · rw [addU_ne (fun e => hb.free hc d _ (upd_same _ _ _) (by simp [Res.blk, e]))]; exact hblk o
  | sto id off cs =>
    simp only [dQ] at h ⊢
    cases hm : st.mem id with
    | none => rw [hm] at h; exact h.no.elim
    | some r =>
      have hid : id ≠ d := fun e => by subst e; rw [hd] at hm; cases hm
      rw [upd_ne _ _ hid, hm]
      rw [hm] at h
      cases r with
      | row v ty s k => exact h.no.elim
      | box b ty old =>
        simp only at h ⊢
        split at h
        · have := (hK1 _ _ h).1 (by rw [show ((Upd.mem _ x.dst _).app st).mem = _ from put_mem]; show upd st.mem id _ d = none; rw [upd_ne _ _ (Ne.symm hid)]; exact hd) hblk
          have e : (Upd.box d (.box blk t cells)).app ((Upd.mem (upd st.mem id (.box b ty (setAt old off cs))) x.dst (.v undef)).app st) =
              (Upd.mem (upd (upd st.mem d (.box blk t cells)) id (.box b ty (setAt old off cs))) x.dst (.v undef)).app ((Upd.box d (.box blk t cells)).app st) := by
            cases hx : x.dst with
            | none => simp only [Upd.app, St.put]; rw [upd_comm _ _ _ hid]
            | some y => simp only [Upd.app, St.put]; rw [upd_comm _ _ _ hid, upd_comm _ _ _ (fun e => hxd (by rw [hx, e]))]
          rwa [e] at this
        · exact h.no.elim
  | call f args =>
    refine CallN.frameBox hd h fun s V' mem' hV' hk => ?_
    have hk2 := hK1 _ _ hk.go
    have hmd : mem' d = none := by
      rcases hk2.2 with h1 | h1
      · rwa [show ((Upd.mem mem' x.dst s).app st).mem = mem' from put_mem] at h1
      · exact h1.elim
    refine ⟨hmd, fun i hi => ?_, fun i hi hne => ?_, ?_⟩
    · by_cases hid : i = d
      · subst hid; rw [upd_same, upd_same]
      · rw [upd_ne _ _ hid, upd_ne _ _ hid]; exact hk.same i hi
    · by_cases hid : i = d
      · subst hid; rw [upd_same] at hi; cases hi
      · rw [upd_ne _ _ hid] at hi ⊢; exact hk.fresh i hi hne
    · have := hk2.1 (by rw [show ((Upd.mem mem' x.dst s).app st).mem = mem' from put_mem]; exact hmd) hV'
      have e : (Upd.box d (.box blk t cells)).app ((Upd.mem mem' x.dst s).app st) = (Upd.mem (upd mem' d (.box blk t cells)) x.dst s).app ((Upd.box d (.box blk t cells)).app st) := by
        cases hx : x.dst with
        | none => rfl
        | some y => simp only [Upd.app, St.put]; rw [upd_comm _ _ _ (fun e => hxd (by rw [hx, e]))]
      rwa [e] at this
  | app s e size bytes y => exact absurd rfl (hna _ _ _ _ _)
  | bad => exact h.no.elim
end
end Go.X
