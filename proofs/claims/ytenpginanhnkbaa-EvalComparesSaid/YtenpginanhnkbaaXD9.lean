/- One part of a proof: an evaluator of the model, shown right, and contracts that it yields. No condition beyond those that each theorem names. -/
import Derived.Test.YtenpginanhnkbaaXD8
namespace Go.X
open Go.RowKit
section
variable {P : Program} {ops : Array Oper}

theorem mem_looks_of {o : Oper} {t : Nat} (h : t ∈ looks ops o) (hg : o.guard = none) : Operand.tmp t ∈ o.op.operands := by
  unfold looks at h
  rw [hg] at h
  simp only [List.append_nil, List.mem_filterMap] at h
  obtain ⟨x, hx, he⟩ := h
  cases x with
  | tmp k => simp only [Option.some.injEq] at he; subst he; simpa using hx
  | _ => cases he

theorem act_noguard {r : Oper} {rdL rdR : List Nat} {st : St} {V : View} {K : Upd → View → Prop} (hg : r.guard = none) : act P ops r rdL rdR st V K = dQ P r (effOf P r st) rdL rdR st.mem V K := by
  unfold act guardOf; rw [hg]
theorem dQ_box_intro {r : Oper} {t : TypeId} {cells : List Value} {rdL rdR : List Nat} {mem : Nat → Option Res} {V : View} {K : Upd → View → Prop} {d : Nat} (hd : r.dst = some d) (hm : mem d = none)
    (h : ∀ blk, (∀ o, V blk o = none) → K (.box d (.box blk t cells)) V) : dQ P r (.box t cells) rdL rdR mem V K := by
  simp only [dQ, hd, hm]; exact h
theorem dQ_box_elim {r : Oper} {t : TypeId} {cells : List Value} {rdL rdR : List Nat} {mem : Nat → Option Res} {V : View} {K : Upd → View → Prop} {d : Nat} (hd : r.dst = some d)
    (h : dQ P r (.box t cells) rdL rdR mem V K) : mem d = none ∧ ∀ blk, (∀ o, V blk o = none) → K (.box d (.box blk t cells)) V := by
  simp only [dQ, hd] at h
  cases hm : mem d with
  | some y => rw [hm] at h; exact h.no.elim
  | none => rw [hm] at h; exact ⟨rfl, h⟩

theorem effOf_lit_notbox {o : Oper} {st : St} (h : isLit o = true) : ∀ t c, effOf P o st ≠ .box t c := by
  obtain ⟨dst, op, type, pos, after, guard⟩ := o
  cases op <;> simp only [isLit] at h <;> try (exact absurd h (by decide))
  intro t c
  simp only [effOf]
  repeat' split
  all_goals (intro h; cases h)

/-- **(b) a late operation may come ahead of another one** -/
theorem swap_late {x r : Oper} {st : St} {V : View} {K : St → View → Prop} {rdL rdR rdL1 rdR1 aL aR : List Nat} (hl : isLate r = true) (hgd : r.guard = none) (hchk : chkLate P r st = true) (hwf : WF st) (hap : Apart ops x r)
    (hna : isApp x = true → isLit r = true)
    (h : act P ops x aL aR st V (fun ux V1 => act P ops r rdL1 rdR1 (ux.app st) V1 (fun ur V2 => K (ur.app (ux.app st)) V2))) :
    act P ops r rdL rdR st V (fun ur V1 => act P ops x aL aR (ur.app st) V1 (fun ux V2 => K (ux.app (ur.app st)) V2)) := by
  -- behind x the late operation does what it would have done
  have h1 : act P ops x aL aR st V (fun ux V1 => dQ P r (effOf P r st) rdL1 rdR1 (ux.app st).mem V1 (fun ur V2 => K (ur.app (ux.app st)) V2)) := by
    refine act_good hwf (fun _ hi => hi) (fun _ hi => hi) (fun u V1 hg hk => ?_) h
    have he : effOf P r (u.app st) = effOf P r st := late_eff hl (fun o ho => val_app hwf hap.a hg ho)
    rw [act_noguard hgd] at hk
    rwa [he] at hk
  unfold chkLate at hchk
  rw [act_noguard hgd]
  generalize he : effOf P r st = e at *
  cases e <;> simp only at hchk <;> try (exact absurd hchk (by decide))
  case box t cells =>
    cases hd : r.dst with
    | none => rw [hd] at hchk; cases hchk
    | some d =>
      rw [hd] at hchk
      simp only at hchk
      cases hm : st.mem d with
      | some y => rw [hm] at hchk; cases hchk
      | none =>
        refine dQ_box_intro hd hm fun blk hblk => ?_
        have hxd : x.dst ≠ some d := fun e => hap.b d e hd
        -- x looks at nothing of it
        have hlike : Like ops x st ((Upd.box d (.box blk t cells)).app st) :=
          like_app (r := r) (V := V) (V1 := V) (rdL := loadsOf x st) (rdR := rowsOf st (looks ops x)) hwf hap (fun _ hi => hi) (fun _ hi => hi) ⟨View.le_refl _, hd, hm, _, _, _, rfl⟩
        have hxna : isApp x = false := by
          cases ha : isApp x with
          | false => rfl
          | true =>
            exact absurd he (effOf_lit_notbox (hna ha) t cells)
        have hdq : dQ P x (effOf P x st) aL aR st.mem V (fun ux V1 => dQ P r (.box t cells) rdL1 rdR1 (ux.app st).mem V1 (fun ur V2 => K (ur.app (ux.app st)) V2)) →
            dQ P x (effOf P x st) aL aR ((Upd.box d (.box blk t cells)).app st).mem V (fun ux V2 => K (ux.app ((Upd.box d (.box blk t cells)).app st)) V2) := fun hq => by
          refine dQ_box (K1 := fun ux V1 => dQ P r (.box t cells) rdL1 rdR1 (ux.app st).mem V1 (fun ur V2 => K (ur.app (ux.app st)) V2)) hm hxd hblk (fun s e' z b y => effOf_notApp hxna s e' z b y) (fun u V1 hk => ?_) hq
          obtain ⟨hmu, hk⟩ := dQ_box_elim hd hk
          exact ⟨fun _ hf => hk blk hf, .inl hmu⟩
        have hskip : (dQ P r (.box t cells) rdL1 rdR1 ((Upd.put x.dst (.v undef)).app st).mem V (fun ur V2 => K (ur.app ((Upd.put x.dst (.v undef)).app st)) V2)) →
            K ((Upd.put x.dst (.v undef)).app ((Upd.box d (.box blk t cells)).app st)) V := fun hk => by
          have := (dQ_box_elim hd hk).2 blk hblk
          have e : (Upd.box d (.box blk t cells)).app ((Upd.put x.dst (.v undef)).app st) = (Upd.put x.dst (.v undef)).app ((Upd.box d (.box blk t cells)).app st) := by
            cases hx : x.dst with
            | none => rfl
            | some y => simp only [Upd.app, St.put]; rw [upd_comm _ _ _ (fun e => hxd (by rw [hx, e]))]
          rwa [e] at this
        unfold act at h1
        unfold act
        rw [hlike.guard, hlike.effOf]
        revert h1
        generalize guardOf ops x st.env = g
        rcases g with _ | ⟨_ | b, w⟩
        · exact fun h1 => ⟨h1.no⟩
        · cases w
          · exact hskip
          · exact hdq
        · cases w
          · exact fun h1 => ⟨fun hb => hskip (h1.yes hb), fun hb => hdq (h1.no hb)⟩
          · exact fun h1 => ⟨fun hb => hdq (h1.yes hb), fun hb => hskip (h1.no hb)⟩
  case lit te len cells =>
    show ∀ b : Nat, LitOk V st.mem b cells → act P ops x aL aR ((Upd.put r.dst (.v (.slice (some ⟨b, 0, none⟩) len len))).app st) (V.addU b cells) _
    intro b hb
    have hlike : Like ops x st (st.put r.dst (.v (.slice (some ⟨b, 0, none⟩) len len))) :=
      ⟨fun t ht => put_env (fun e => hap.c t e ht), fun t _ s' _ => by rw [put_mem], fun _ _ _ _ _ _ => by rw [put_mem]⟩
    have hdq : dQ P x (effOf P x st) aL aR st.mem V (fun ux V1 => dQ P r (.lit te len cells) rdL1 rdR1 (ux.app st).mem V1 (fun ur V2 => K (ur.app (ux.app st)) V2)) →
        dQ P x (effOf P x st) aL aR st.mem (V.addU b cells) (fun ux V2 => K (ux.app (st.put r.dst (.v (.slice (some ⟨b, 0, none⟩) len len)))) V2) := fun hq =>
      dQ_lit (K1 := fun ux V1 => dQ P r (.lit te len cells) rdL1 rdR1 (ux.app st).mem V1 (fun ur V2 => K (ur.app (ux.app st)) V2)) rfl (fun d hd e => hap.b d e hd) hb (fun u V1 hk hlit => hk b hlit) hq
    have hskip : dQ P r (.lit te len cells) rdL1 rdR1 ((Upd.put x.dst (.v undef)).app st).mem V (fun ur V2 => K (ur.app ((Upd.put x.dst (.v undef)).app st)) V2) →
        K ((Upd.put x.dst (.v undef)).app (st.put r.dst (.v (.slice (some ⟨b, 0, none⟩) len len)))) (V.addU b cells) := fun hk => by
      have hk2 : K ((Upd.put r.dst (.v (.slice (some ⟨b, 0, none⟩) len len))).app ((Upd.put x.dst (.v undef)).app st)) (V.addU b cells) := hk b (by rw [show ((Upd.put x.dst (.v undef)).app st).mem = st.mem from put_mem]; exact hb)
      have e : (Upd.put r.dst (.v (.slice (some ⟨b, 0, none⟩) len len))).app ((Upd.put x.dst (.v undef)).app st) = (Upd.put x.dst (.v undef)).app (st.put r.dst (.v (.slice (some ⟨b, 0, none⟩) len len))) := by
        cases hx : x.dst with
        | none => rfl
        | some y =>
          cases hd : r.dst with
          | none => rfl
          | some d => simp only [Upd.app, St.put]; rw [upd_comm _ _ _ (fun e => hap.b y hx (by rw [hd, e]))]
      rwa [e] at hk2
    unfold act at h1
    show act P ops x aL aR (st.put r.dst (.v (.slice (some ⟨b, 0, none⟩) len len))) (V.addU b cells) _
    unfold act
    rw [hlike.guard, hlike.effOf, show (st.put r.dst (.v (.slice (some ⟨b, 0, none⟩) len len))).mem = st.mem from put_mem]
    revert h1
    generalize guardOf ops x st.env = g
    rcases g with _ | ⟨_ | c, w⟩
    · exact fun h1 => ⟨h1.no⟩
    · cases w
      · exact hskip
      · exact hdq
    · cases w
      · exact fun h1 => ⟨fun hb => hskip (h1.yes hb), fun hb => hdq (h1.no hb)⟩
      · exact fun h1 => ⟨fun hb => hdq (h1.yes hb), fun hb => hskip (h1.no hb)⟩
end
end Go.X
