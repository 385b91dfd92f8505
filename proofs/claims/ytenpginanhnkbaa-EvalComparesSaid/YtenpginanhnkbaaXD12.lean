/- One part of a proof: an evaluator of the model, shown right, and contracts that it yields. No condition beyond those that each theorem names. -/
import Derived.Test.YtenpginanhnkbaaXD11
namespace Go.X
open Go.RowKit
section
variable {P : Program} {ops : Array Oper} {w0 : World} {M : Nat → Prop} {V0 : View} {n : Nat} {st : St} {V : View} {a : Act} {w : World}

theorem addU_add (h : Sub V w) (cells : List Value) : V.addU w.heap.size cells = V.add w.heap.size cells := by
  funext k o
  unfold View.addU View.add
  by_cases hk : k = w.heap.size
  · subst hk; rw [newBlk_none h o]
  · simp only [hk, if_false]; cases V k o <;> rfl

/-- the model runs what the evaluator says -/
theorem dQ_sound {o : Oper} {rdL rdR : List Nat} {K : Upd → View → Prop} {next : Act → World → Prop} {Q : Exit → Act → World → Prop} (h : Inv w0 M V0 n st V a w) (hx : dQ P o (effOf P o st) rdL rdR st.mem V K)
    (hd : ∀ d, o.dst = some d → d < n) (hK : ∀ u V' a' w', Inv w0 M V0 n (u.app st) V' a' w' → K u V' → next a' w') : o.wp P a w next Q := by
  have hs := effOf_sound (P := P) h o
  have hput : ∀ s v, toVal st.mem s = some v → Inv w0 M V0 n ((Upd.put o.dst s).app st) V (a.put o.dst v) w := fun s v hv => h.put hd hv
  unfold Oper.wp
  generalize effOf P o st = e at hx hs
  cases e with
  | val s =>
    obtain ⟨v, hv, hr⟩ := hs
    rw [hr]
    exact hK _ _ _ _ (hput s v hv) hx
  | pick c s t =>
    obtain ⟨v1, v2, h1, h2, hr⟩ := hs
    rw [hr]
    cases c with
    | true => exact hK _ _ _ _ (hput _ _ h1) (hx.yes rfl)
    | false => exact hK _ _ _ _ (hput _ _ h2) (hx.no rfl)
  | ldv t b off k =>
    obtain ⟨l, hl, hV, hv⟩ := hx.get
    split at hv
    · rename_i v hav
      rw [hs l v hl hV hav]
      exact hK _ _ _ _ (hput _ _ rfl) hv
    · exact hv.no.elim
  | idx base len i size =>
    obtain ⟨b, off, hb, h0, hl, hk⟩ := hx.get
    rw [hs b off hb h0 hl]
    exact hK _ _ _ _ (hput _ _ rfl) hk
  | sem s =>
    obtain ⟨v, hv, hk⟩ := hx.get
    rw [hs v hv]
    exact hK _ _ _ _ (hput _ _ rfl) hk
  | box t cells =>
    simp only [EffSem] at hs
    rw [hs]
    cases hdd : o.dst with
    | none => simp only [dQ, hdd] at hx; exact hx.no.elim
    | some d =>
      obtain ⟨hm, hx⟩ := dQ_box_elim hdd hx
      simp only [Oper.upon, hdd]
      have hi := h.newBox (hd d hdd) t cells
      have e : st.newBox d (.box w.heap.size t cells) = (Upd.box d (.box w.heap.size t cells)).app st := by unfold St.newBox; rw [hm]; rfl
      rw [e] at hi
      exact hK _ _ _ _ hi (hx _ (newBlk_none h.mp.sub))
  | lit e len cells =>
    simp only [EffSem] at hs
    rw [hs]
    have hi := h.newRow hd e cells len
    have hl : LitOk V st.mem w.heap.size cells := ⟨by rw [addU_add h.mp.sub]; exact View.add_has, fun _ i r hr hb => absurd (blk_lt (h.mp.ok i r hr) hb) (Nat.lt_irrefl _)⟩
    have := hx _ hl
    rw [addU_add h.mp.sub] at this
    exact hK (.put o.dst (.v (.slice (some ⟨w.heap.size, 0, none⟩) len len))) _ _ _ hi this
  | sto id off cells =>
    simp only [dQ] at hx
    split at hx
    · rename_i b t old hm
      split at hx
      · rename_i hle _
        rw [hs b t old hm (Nat.le_of_ble_eq_true hle)]
        exact hK (.mem _ o.dst (.v undef)) _ _ _ ((h.store hm).put hd rfl) hx
      · exact hx.no.elim
    · exact hx.no.elim
  | call f args =>
    simp only [EffSem] at hs
    rw [hs]
    refine (hx.run w h.mp).mono fun e w' ⟨v, s, V', mem', he, hv, hKs, hsame, hp, hk, hg, hn⟩ => ?_
    subst he
    exact hK (.mem mem' o.dst s) _ _ _ ((h.called hsame hp hk hg hn).put hd hv) hKs.go
  | app s e size bytes x =>
    obtain ⟨t, i, z, vs, hvs, ht, hi, hz, rfl, rfl, hzs, hsz, hr⟩ := hs
    simp only [dQ] at hx
    split at hx
    · rename_i d hdd
      have hdn := hd d hdd
      rw [hr]
      split at hx
      · split at hx
        · rename_i id _
          split at hx
          · rename_i v ty sz k hm
            split at hx
            · rename_i hty hszz
              have hty := Nat.eq_of_beq_eq_true hty
              have hszz := Nat.eq_of_beq_eq_true hszz
              subst hty; subst hszz
              obtain ⟨xs, news, m, hxs, hxl, hxx, hnews, hnl, h1, h63, hby, hKn⟩ := hx.get
              simp only [toVal, hm, Option.some.injEq] at hvs
              subst hvs
              have hok := h.mp.ok id _ hm
              obtain ⟨v', w', hrun, hA⟩ := run_appended (P := P) (ty := o.type) ht hi hz hzs hsz hok h.mp.sub hxs hxl hxx hnews hnl h1 h63 hby
              have hf := h.forget id
              obtain ⟨V', hle, hc, hsl, hinv, hok', hfr, hf1, hf2⟩ := hf.appended hok (fun g hg => ⟨fun i' r' hr' hb => by
                have hr' : del st.mem id i' = some r' := hr'
                have hne : i' ≠ id := fun e => by subst e; rw [del_same] at hr'; cases hr'
                rw [del_ne _ hne] at hr'
                exact h.mp.apart id i' _ r' g (Ne.symm hne) hm hr' hg hb, h.new g ⟨id, _, hm, hg⟩⟩) hxs hxl hnl hA
              rw [hrun]
              simp only [Result.andThen_ok, Oper.upon, hdd]
              have hadd := hinv.addRow hdn hok' (fun g hg => ⟨fun i' r' _ hr' => (hfr g hg).1 i' r' hr', (hfr g hg).2⟩)
              exact hK (.row (some id) d (.row v' ty i.size (k + m))) _ _ _ hadd (hKn v' V' hle hc hsl ⟨hf1, hf2, fun i' r' hr' hne g hg => (hfr g hg).1 i' r' (by
                show del st.mem id i' = some r'
                rw [del_ne _ (fun e => hne (by rw [e]))]; exact hr')⟩)
            · exact hx.no.elim
          · exact hx.no.elim
        · rename_i base _
          obtain ⟨xs, news, m, hxs, hxl, hxx, hnews, hnl, h1, h63, hby, hKn⟩ := hx.get
          simp only [toVal, Option.some.injEq] at hvs
          subst hvs
          have hok : (Res.row (.slice base 0 0) e i.size 0).ok w V := .inl ⟨base, rfl, rfl⟩
          obtain ⟨v', w', hrun, hA⟩ := run_appended (P := P) (ty := o.type) ht hi hz hzs hsz hok h.mp.sub hxs hxl hxx hnews hnl h1 h63 hby
          obtain ⟨V', hle, hc, hsl, hinv, hok', hfr, hf1, hf2⟩ := h.appended hok (fun g hg => by cases base <;> simp [rowBlk] at hg) hxs hxl hnl hA
          rw [hrun]
          simp only [Result.andThen_ok, Oper.upon, hdd]
          exact hK (.row none d (.row v' e i.size (0 + m))) _ _ _ (hinv.addRow hdn hok' (fun g hg => ⟨fun i' r' _ hr' => (hfr g hg).1 i' r' hr', (hfr g hg).2⟩)) (hKn v' V' hle hc hsl ⟨hf1, hf2, fun i' r' hr' _ g hg => (hfr g hg).1 i' r' hr'⟩)
        · exact hx.no.elim
      · exact hx.no.elim
    · exact hx.no.elim
  | bad => exact hx.no.elim

theorem getD_bool' {l : Array Value} {d : Nat} {b : Bool} (h : l.getD d undef = .bool b) : l[d]? = some (.bool b) := by
  rw [Array.getD_eq_getD_getElem?] at h
  cases hl : l[d]? with
  | none => rw [hl] at h; cases h
  | some v => rw [hl] at h; simp only [Option.getD_some] at h; rw [h]

theorem act_sound {i : Nat} {o : Oper} (ho : ops[i]? = some o) {rdL rdR : List Nat} {K : Upd → View → Prop} {next : Act → World → Prop} {Q : Exit → Act → World → Prop} (h : Inv w0 M V0 n st V a w) (hx : act P ops o rdL rdR st V K)
    (hd : ∀ d, o.dst = some d → d < n) (hK : ∀ u V' a' w', Inv w0 M V0 n (u.app st) V' a' w' → K u V' → next a' w') : wpOp P ops Q i next a w := by
  unfold wpOp
  rw [ho]
  have hrun : dQ P o (effOf P o st) rdL rdR st.mem V K → o.wp P a w next Q := fun hx => dQ_sound h hx hd hK
  have hskip : K (.put o.dst (.v undef)) V → next (a.put o.dst undef) w := fun hx => hK (.put o.dst (.v undef)) _ _ _ (h.put hd rfl) hx
  unfold act guardOf at hx
  cases hg : o.guard with
  | none =>
    rw [hg] at hx
    simp only
    rw [if_pos (by simp [Region.wanted, hg])]
    exact .inl (hrun hx)
  | some jw =>
    obtain ⟨j, want⟩ := jw
    rw [hg] at hx
    simp only at hx ⊢
    cases hj : dstOf ops j with
    | none => rw [hj] at hx; exact hx.no.elim
    | some d =>
      rw [hj] at hx
      simp only at hx
      have hw : ∀ b, a.tmps.getD d undef = .bool b → Region.wanted o (yielded ops a.tmps) = (b == want) := fun b hb => by
        have hy : yielded ops a.tmps j = some b := by
          unfold dstOf at hj
          split at hj
          · rename_i o2 ho2
            simp [yielded, ho2, hj, getD_bool' hb]
          · cases hj
        simp only [Region.wanted, hg, hy]
        cases b <;> cases want <;> rfl
      cases he : st.env d with
      | none => rw [he] at hx; exact hx.no.elim
      | some s =>
        rw [he] at hx
        have hv := h.env d s he
        cases s with
        | kb b =>
          have hb : a.tmps.getD d undef = .bool b := (Option.some.inj hv).symm
          rw [hw b hb]
          cases b <;> cases want <;> simp only at hx
          · rw [if_pos (by rfl)]; exact .inl (hrun hx)
          · rw [if_neg (by decide)]; exact hskip hx
          · rw [if_neg (by decide)]; exact hskip hx
          · rw [if_pos (by rfl)]; exact .inl (hrun hx)
        | v x =>
          cases x with
          | bool b =>
            have hb : a.tmps.getD d undef = .bool b := (Option.some.inj hv).symm
            rw [hw b hb]
            cases want <;> simp only at hx <;> cases b
            · rw [if_pos (by rfl)]; exact .inl (hrun (hx.no rfl))
            · rw [if_neg (by decide)]; exact hskip (hx.yes rfl)
            · rw [if_neg (by decide)]; exact hskip (hx.no rfl)
            · rw [if_pos (by rfl)]; exact .inl (hrun (hx.yes rfl))
          | tuple l =>
            have hv : a.tmps.getD d undef = .tuple l := (Option.some.inj hv).symm
            have hy : yielded ops a.tmps j = none := by
              unfold dstOf at hj
              split at hj
              · rename_i o2 ho2
                unfold yielded
                simp only [ho2, Option.bind_some, hj]
                rw [Array.getD_eq_getD_getElem?] at hv
                cases hl : a.tmps[d]? with
                | none => rfl
                | some v => rw [hl, Option.getD_some] at hv; subst hv; rfl
              · cases hj
            rw [if_neg (by simp [Region.wanted, hg, hy])]
            exact hskip hx
          | _ => exact hx.no.elim
        | own i o => exact hx.no.elim
        | row i => exact hx.no.elim

theorem dst_lt_of_opsOk {l : List Oper} (h : ∀ o ∈ l, ∀ d, o.dst = some d → d < n) {i : Nat} {o : Oper} (ho : l[i]? = some o) : ∀ d, o.dst = some d → d < n := h o (List.mem_of_getElem? ho)

/-- whatever order is drawn -/
theorem xseq_any {K : St → View → Prop} {Q : Exit → Act → World → Prop} (hK : ∀ st V a w, Inv w0 M V0 n st V a w → K st V → Q .normal a w) (hdst : ∀ o ∈ ops.toList, ∀ d, o.dst = some d → d < n)
    (hin : ∀ (i : Nat) (o : Oper) (z : Nat), ops[i]? = some o → waits o z = true → z < ops.size) (hp0 : ∀ (i : Nat) (o : Oper), ops[i]? = some o → waits o i = false) :
    ∀ (k : Nat) (L : Plan) (listed : Array Bool) (st : St) (V : View) (a : Act) (w : World), L.length = k → listed.size = ops.size → PlanOk ops L → (L.map (·.1)).Nodup →
      (∀ i, i < ops.size → (listed.getD i true = false ↔ i ∈ L.map (·.1))) → (∀ i ∈ L.map (·.1), i < ops.size) →
      (∀ i o z, i < ops.size → listed.getD i false = true → ops[i]? = some o → waits o z = true → listed.getD z false = true) →
      Inv w0 M V0 n st V a w → xseq P ops K L [] [] st V → wpAny P .any ops Q k listed a w
  | k, L, listed, st, V, a, w, hlen, hsz, hp, hnd, hls, hlt, hcl, h, hx => by
    have hget : ∀ i, i < ops.size → listed.getD i true = listed.getD i false := fun i hi => by
      have : i < listed.size := by omega
      simp [this]
    have hready : ∀ i ∈ Region.ready .any ops listed, i ∈ L.map (·.1) ∧ ∃ o, ops[i]? = some o ∧ ∀ z, waits o z = true → listed.getD z false = true := fun i hi => by
      obtain ⟨h1, o, ho, hall⟩ := mem_ready.1 hi
      have hi' : i < ops.size := (Array.getElem?_eq_some_iff.1 ho).1
      refine ⟨(hls i hi').1 h1, o, ho, fun z hz => ?_⟩
      obtain ⟨e, he, hb, hon⟩ := waitsL_iff.1 hz
      rw [← hon]
      exact hall e (by simpa using he) (by rw [← bindsB_eq]; exact hb)
    cases L with
    | nil =>
      simp only [List.length_nil] at hlen
      subst hlen
      have h0 : Region.ready .any ops listed = [] := by
        cases hr : Region.ready .any ops listed with
        | nil => rfl
        | cons i l => have := (hready i (by rw [hr]; simp)).1; simp at this
      exact ⟨h0, hK st V a w h hx⟩
    | cons x L =>
      obtain ⟨x, cs⟩ := x
      cases k with
      | zero => simp at hlen
      | succ k =>
        -- the plan's first may come
        have hfirst : x ∈ Region.ready .any ops listed := by
          obtain ⟨p1, ⟨ox, hox, _⟩, _, _⟩ := hp
          have hxlt := hlt x (by simp)
          refine mem_ready.2 ⟨(hls x hxlt).2 (by simp), ox, hox, fun e he hb => ?_⟩
          have hw : waits ox e.on = true := waitsL_iff.2 ⟨e, by simpa using he, by rw [bindsB_eq]; exact hb, rfl⟩
          have hz := hin x ox e.on hox hw
          rw [← hget _ hz]
          cases hl : listed.getD e.on true with
          | true => rfl
          | false =>
            have hm := (hls e.on hz).1 hl
            simp only [List.map_cons, List.mem_cons] at hm
            rcases hm with hm | hm
            · -- it would wait for itself
              rw [hm, hp0 x ox hox] at hw
              cases hw
            · obtain ⟨ox', oy, e1, e2, hw1, _⟩ := (p1 e.on hm).get
              rw [hox, Option.some.injEq] at e1; subst e1
              rw [hw] at hw1; cases hw1
        refine ⟨fun h0 => (by rw [h0] at hfirst; cases hfirst), fun i hi => ?_⟩
        obtain ⟨hiL, o, ho, hwz⟩ := hready i hi
        have hi' : i < ops.size := (Array.getElem?_eq_some_iff.1 ho).1
        have hclosed : ∀ z ∈ ((x, cs) :: L).map (·.1), trW (masks ops.toList []) i z = false := fun z hz => by
          cases ht : trW (masks ops.toList []) i z with
          | false => rfl
          | true =>
            have := trW_closed (ops := ops) (C := fun z => listed.getD z false = true) (fun a o z ha hoa hwa => hcl a o z (Array.getElem?_eq_some_iff.1 hoa).1 ha hoa hwa) i z
              (fun o2 z2 ho2 hw2 => by rw [ho, Option.some.injEq] at ho2; subst ho2; exact hwz z2 hw2) ht
            have hzlt := hlt z hz
            have h1 := (hls z hzlt).2 hz
            rw [hget z hzlt, this] at h1; cases h1
        have hpull := xseq_pull ho ((x, cs) :: L) [] [] st V hiL hp hnd h.wf hclosed hx
        refine act_sound ho h hpull (hdst o (by
          have := List.mem_of_getElem? (l := ops.toList) (i := i) (a := o) (by simpa using ho)
          exact this)) (fun u V' a' w' h' hk => ?_)
        have hkeys : ∀ y, y ∈ (eraseP i ((x, cs) :: L)).map (·.1) ↔ y ∈ ((x, cs) :: L).map (·.1) ∧ y ≠ i := fun y => eraseP_keys
        refine xseq_any hK hdst hin hp0 k (eraseP i ((x, cs) :: L)) (listed.setIfInBounds i true) _ V' a' w' ?_ (by simp [hsz]) (planOk_erase hp) ?_ ?_ (fun y hy => hlt y ((hkeys y).1 hy).1) ?_ h' hk
        · -- one less
          have : ∀ (L : Plan), (L.map (·.1)).Nodup → i ∈ L.map (·.1) → (eraseP i L).length + 1 = L.length := fun L => by
            induction L with
            | nil => intro _ h; simp at h
            | cons b L ihL =>
              intro hnd2 hm
              obtain ⟨b, bc⟩ := b
              simp only [List.map_cons, List.nodup_cons] at hnd2
              by_cases hb : b = i
              · subst hb
                rw [eraseP_cons_same]
                have : (eraseP b L).length = L.length := by
                  unfold eraseP
                  rw [List.length_map, List.filter_eq_self.2 (fun y hy => by
                    simp only [Bool.not_eq_true', beq_eq_false_iff_ne, ne_eq]
                    exact fun e => hnd2.1 (List.mem_map.2 ⟨y, hy, e⟩))]
                rw [this]; rfl
              · rw [eraseP_cons hb]
                have hm' : i ∈ L.map (·.1) := by
                  rcases List.mem_cons.1 hm with h1 | h1
                  · exact absurd h1.symm hb
                  · exact h1
                simp only [List.length_cons]
                rw [ihL hnd2.2 hm']
          have := this _ hnd hiL
          omega
        · unfold eraseP
          rw [List.map_map]
          exact hnd.sublist ((List.filter_sublist (l := (x, cs) :: L)).map _)
        · intro y hy
          rw [hkeys]
          by_cases hyi : y = i
          · subst hyi
            simp [hsz, hi']
          · rw [getD_set_ne true (Ne.symm hyi), hls y hy]
            exact ⟨fun h => ⟨h, hyi⟩, fun h => h.1⟩
        · intro y oy z hy hly hoy hwy
          by_cases hyi : y = i
          · subst hyi
            rw [ho, Option.some.injEq] at hoy; subst hoy
            exact getD_set_true (hwz z hwy)
          · rw [getD_set_ne false (Ne.symm hyi)] at hly
            exact getD_set_true (hcl y oy z hy hly hoy hwy)
end
end Go.X
