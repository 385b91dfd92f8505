/- One part of a proof: an evaluator of the model, shown right, and contracts that it yields. No condition beyond those that each theorem names. -/
import Derived.Test.YtenpginanhnkbaaX7
namespace Go.X
open Go.RowKit

/-- memory by names -/
def memOf : List (Nat × Res) → Nat → Option Res
  | [] => fun _ => none
  | (i, r) :: l => upd (memOf l) i r

theorem memOf_mem : ∀ {ms : List (Nat × Res)} {i : Nat} {r : Res}, memOf ms i = some r → (i, r) ∈ ms
  | [], i, r, h => by cases h
  | (j, s) :: ms, i, r, h => by
    unfold memOf at h
    by_cases hi : i = j
    · subst hi; rw [upd_same, Option.some.injEq] at h; subst h; simp
    · rw [upd_ne _ _ hi] at h; exact List.mem_cons_of_mem _ (memOf_mem h)

theorem pre_memOf {V : View} {ms : List (Nat × Res)} {w : World} (h : Pre V (ms.map (·.2)) w) : MPre (memOf ms) V w := by
  refine ⟨h.sub, fun i r hr => ?_, fun i j r r' b hij hi hj hb => ?_⟩
  · obtain ⟨k, hk⟩ := List.mem_iff_getElem?.1 (memOf_mem hr)
    exact h.ok k r (by simp [hk])
  · obtain ⟨k, hk⟩ := List.mem_iff_getElem?.1 (memOf_mem hi)
    obtain ⟨k', hk'⟩ := List.mem_iff_getElem?.1 (memOf_mem hj)
    refine h.apart k k' r r' b (fun e => ?_) (by simp [hk]) (by simp [hk']) hb
    subst e
    rw [hk] at hk'
    simp only [Option.some.injEq, Prod.mk.injEq] at hk'
    exact hij hk'.1

section
variable {P : Program} {w0 : World} {M : Nat → Prop} {V0 : View} {n : Nat}

theorem initEnv_get : ∀ (l : List SV) (k m : Nat), initEnv l k m = if k ≤ m then l[m - k]? else none
  | [], k, m => by simp [initEnv]
  | s :: l, k, m => by
    unfold initEnv
    by_cases h : m = k
    · subst h; simp [upd_same]
    · rw [upd_ne _ _ h, initEnv_get l (k + 1) m]
      by_cases hk : k ≤ m
      · rw [if_pos (by omega), if_pos hk, show m - k = (m - (k + 1)) + 1 by omega, List.getElem?_cons_succ]
      · rw [if_neg (by omega), if_neg hk]

theorem toVals_get {mem : Nat → Option Res} : ∀ {l : List SV} {vs : List Value}, toVals mem l = some vs → ∀ (i : Nat) (s : SV), l[i]? = some s → ∃ v, toVal mem s = some v ∧ vs[i]? = some v
  | [], vs, _, i, s, hs => by simp at hs
  | x :: l, vs, h, i, s, hs => by
    unfold toVals at h
    split at h
    · rename_i v vs' hv hvs
      simp only [Option.some.injEq] at h; subst h
      cases i with
      | zero => simp only [List.getElem?_cons_zero, Option.some.injEq] at hs; subst hs; exact ⟨v, hv, rfl⟩
      | succ i => exact toVals_get hvs i s (by simpa using hs)
    · cases h
theorem toVals_length {mem : Nat → Option Res} : ∀ {l : List SV} {vs : List Value}, toVals mem l = some vs → vs.length = l.length
  | [], vs, h => by unfold toVals at h; simp only [Option.some.injEq] at h; subst h; rfl
  | x :: l, vs, h => by
    unfold toVals at h
    split at h
    · rename_i v vs' hv hvs
      simp only [Option.some.injEq] at h; subst h
      simp [toVals_length hvs]
    · cases h

theorem inv_init {args : List SV} {vs : List Value} {mem : Nat → Option Res} {V : View} {w : World} (hp : MPre mem V w) (ha : toVals mem args = some vs) (hn : args.length ≤ n) :
    Inv w (blksM mem) V n ⟨initEnv args 0, mem⟩ V { tmps := vs.toArray ++ Array.replicate (n - vs.toArray.size) undef, defers := [] } w := by
  have hl := toVals_length ha
  refine ⟨rfl, by simp [hl]; omega, fun k s hk => ?_, hp, Kept.refl _ _, ⟨View.le_refl _, fun _ _ _ h => .inl h⟩, fun b hb => .inl hb⟩
  simp only [initEnv_get, Nat.zero_le, if_true, Nat.sub_zero] at hk
  obtain ⟨v, hv, hv'⟩ := toVals_get ha k s hk
  rw [hv]
  congr 1
  rw [Array.getD_eq_getD_getElem?, Array.getElem?_append_left (by
    have := (List.getElem?_eq_some_iff.1 hv').1
    simpa using this)]
  simp [hv']

/-- one result, read -/
def resSem (tmps : Array Value) : ResultVar → Sem Value
  | .tmp t => pure (tmps.getD t undef)
  | .cell x t => do loadVar t (← asAddr (tmps.getD x undef))

theorem readRes_sound {st : St} {V : View} {a : Act} {w : World} (h : Inv w0 M V0 n st V a w) {r : ResultVar} {s : SV} (hr : readRes P st r = some s) :
    ∃ v, toVal st.mem s = some v ∧ (resSem a.tmps r).run P w = .ok v w := by
  cases r with
  | tmp t => exact ⟨_, h.env t s hr, rfl⟩
  | cell x t =>
    simp only [readRes] at hr
    split at hr
    · rename_i id off hx
      split at hr
      · rename_i b ty cells z hm hz
        split at hr
        · rename_i hl
          split at hr
          · rename_i v hv
            simp only [Option.some.injEq] at hr; subst hr
            refine ⟨v, rfl, ?_⟩
            have hl' := Nat.eq_of_beq_eq_true hl
            have hg := (h.boxAt hm).1
            have := run_loadVar (P := P) (w := w) (b := b) (off := off) hz hl' (fun i y hy => by
              rw [cell_box hg]
              rw [List.getElem?_take] at hy
              split at hy
              · rwa [List.getElem?_drop] at hy
              · cases hy) hv
            have he := h.env x _ hx
            simp only [toVal, hm, Option.some.injEq] at he
            simp only [resSem]
            rw [← he]
            simp [asAddr, this]
          · cases hr
        · cases hr
      · cases hr
    · cases hr

theorem readAll_sound {st : St} {V : View} {a : Act} {w : World} (h : Inv w0 M V0 n st V a w) : ∀ {rs : List ResultVar} {l : List SV}, readAll P st rs = some l →
    ∃ vs, toVals st.mem l = some vs ∧ (rs.mapM (resSem a.tmps)).run P w = .ok vs w
  | [], l, hr => by simp only [readAll, Option.some.injEq] at hr; subst hr; exact ⟨[], rfl, rfl⟩
  | r :: rs, l, hr => by
    simp only [readAll] at hr
    split at hr
    · rename_i s ss hs hss
      simp only [Option.some.injEq] at hr; subst hr
      obtain ⟨v, hv, hrun⟩ := readRes_sound h hs
      obtain ⟨vs, hvs, hruns⟩ := readAll_sound h hss
      refine ⟨v :: vs, by simp [toVals, hv, hvs], ?_⟩
      rw [List.mapM_cons, Sem.run_bind, hrun]
      simp only [Result.andThen_ok, Sem.run_bind, hruns]
      rfl
    · cases hr

theorem results_sound {fn : Func} {st : St} {V : View} {a : Act} {w : World} (h : Inv w0 M V0 n st V a w) {l : List SV} (hr : readAll P st fn.results.toList = some l) :
    ∃ vs, toVals st.mem l = some vs ∧ (results fn a.tmps).run P w = .ok (packVals vs) w := by
  obtain ⟨vs, hvs, hrun⟩ := readAll_sound h hr
  refine ⟨vs, hvs, ?_⟩
  have hr' : results fn a.tmps = (do let vs ← fn.results.mapM (resSem a.tmps); pure (if h : vs.size = 1 then vs[0] else .tuple vs)) := by
    unfold results
    congr 1
  rw [hr', Array.mapM_eq_mapM_toList, map_eq_pure_bind, bind_assoc]
  simp only [pure_bind]
  rw [Sem.run_bind, hrun]
  simp only [Result.andThen_ok, Sem.run_pure]
  match vs with
  | [] => rfl
  | [v] => rfl
  | _ :: _ :: _ => rfl

/-- what stands in a function's head -/
def fnOk (fn : Func) (k : Nat) : Bool := match fn.body with
  | some c => (match Nat.ble k fn.ntmps with | true => codeOk fn.ntmps c | false => false)
  | none => false

/-- **A CONTRACT, OUT OF THE EVALUATOR'S WORD.** -/
theorem does_of_xfun {f : FuncId} {fn : Func} {args : List SV} {vs : List Value} {ms : List (Nat × Res)} {V : View} {R : Value → View → List Res → Prop}
    (hf : P.funcs[f]? = some fn) (hok : fnOk fn args.length = true) (ha : toVals (memOf ms) args = some vs) (hx : xfun P fn args (memOf ms) V R) : Does P f vs V (ms.map (·.2)) R := by
  intro w hp
  unfold xfun at hx
  unfold fnOk at hok
  split at hx
  · rename_i c hb
    simp only [hb] at hok
    split at hok
    · rename_i hle
      have hle := Nat.le_of_ble_eq_true hle
      refine calls_of_wp hf hb ?_
      have hblk : ∀ b, blksM (memOf ms) b → blksOf (ms.map (·.2)) b := by
        intro b ⟨i, r, hr, hb⟩
        exact ⟨r, List.mem_map.2 ⟨(i, r), memOf_mem hr, rfl⟩, hb⟩
      have key : ∀ st V' a w', Inv w (blksM (memOf ms)) V fn.ntmps st V' a w' →
          (match readAll P st fn.results.toList with
            | some l => (match toVals st.mem l with
              | some vs => RetN (packVals vs) st.mem V' R
              | none => False)
            | none => False) →
          a.defers = [] ∧ ∃ v, (results fn a.tmps).run P w' = .ok v w' ∧ ∃ v1 V1 bs', Ending.returned v = .returned v1 ∧ R v1 V1 bs' ∧ Pre V1 bs' w' ∧ Kept (blksOf (ms.map (·.2))) w w' ∧ Grows (blksOf (ms.map (·.2))) w.heap.size V V1 ∧
            ∀ b, blksOf bs' b → blksOf (ms.map (·.2)) b ∨ w.heap.size ≤ b := by
        intro st V' a w' h hk
        refine ⟨h.defers, ?_⟩
        split at hk
        · rename_i l hl
          obtain ⟨vs, hvs, hrun⟩ := results_sound h hl
          rw [hvs] at hk
          obtain ⟨ids, hnd, bs, hids, hR⟩ := hk.get
          have hget : ∀ (i : Nat) (r : Res), bs[i]? = some r → ∃ k, ids[i]? = some k ∧ st.mem k = some r := by
            intro i r hi
            have := congrArg (fun l => l[i]?) hids
            simp only [List.getElem?_map, hi, Option.map_some] at this
            cases hk : ids[i]? with
            | none => rw [hk] at this; cases this
            | some k => rw [hk] at this; exact ⟨k, rfl, by simpa using this⟩
          refine ⟨_, hrun, _, V', bs, rfl, hR, ⟨h.mp.sub, fun i r hi => ?_, fun i j r r' b hij hi hj hb => ?_⟩, ?_, ?_, ?_⟩
          · obtain ⟨k, _, hm⟩ := hget i r hi; exact h.mp.ok k r hm
          · obtain ⟨k, hk1, hm⟩ := hget i r hi
            obtain ⟨k', hk2, hm'⟩ := hget j r' hj
            refine h.mp.apart k k' r r' b (fun e => ?_) hm hm' hb
            subst e
            exact hij ((List.getElem?_inj (List.getElem?_eq_some_iff.1 hk1).1 hnd).1 (hk1.trans hk2.symm))
          · exact ⟨h.kept.os, h.kept.tape, h.kept.output, h.kept.size, fun k hk hm => h.kept.block k hk (fun hb => hm (hblk k hb))⟩
          · refine ⟨h.grows.1, fun b o v hv => ?_⟩
            rcases h.grows.2 b o v hv with h1 | h1 | h1
            · exact .inl h1
            · exact .inr (.inl h1)
            · exact .inr (.inr (hblk b h1))
          · intro b ⟨r, hr, hb⟩
            obtain ⟨i, hi⟩ := List.mem_iff_getElem?.1 hr
            obtain ⟨k, _, hm⟩ := hget i r hi
            rcases h.new b ⟨k, r, hm, hb⟩ with h1 | h1
            · exact .inl (hblk b h1)
            · exact .inr h1
        · exact hk.elim
      refine xcode_sound (P := P) (w0 := w) (M := blksM (memOf ms)) (V0 := V) c _ _ (fun e st V' a w' h hk => ?_) _ V _ w hok (inv_init (pre_memOf hp) ha hle) hx
      cases e with
      | normal => exact key st V' a w' h hk
      | ret => exact key st V' a w' h hk
      | exit i => exact hk.elim
    · cases hok
  · exact hx.elim
end
end Go.X
