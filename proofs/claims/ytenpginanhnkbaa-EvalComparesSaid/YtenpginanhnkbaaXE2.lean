/- One part of a proof: an evaluator of the model, shown right, and contracts that it yields. No condition beyond those that each theorem names. -/
import Derived.Test.YtenpginanhnkbaaXE1
namespace Go.X
open Go.RowKit

abbrev Plans := List (Nat × Plan)
def planAt (id : Nat) : Plans → Option Plan
  | [] => none
  | (i, L) :: l => match Nat.beq i id with | true => some L | false => planAt id l

/-- the evaluator, with a plan for each region that draws -/
def ycode (P : Program) (pl : Plans) : Code → (Ex → St → View → Prop) → St → View → Prop
  | .skip, K, st, V => K .normal st V
  | .region _ ops false, K, st, V => xops P ops (K .normal) ops.toList st V
  | .region id ops true, K, st, V => match planAt id pl with
    | some L => xseq P ops (K .normal) L [] [] st V
    | none => False
  | .seq a b, K, st, V => ycode P pl a (fun e st V => match e with | .normal => ycode P pl b K st V | .ret => K .ret st V | .exit i => K (.exit i) st V) st V
  | .cond c a b, K, st, V => match opd st.env c with
    | some (.kb true) => ycode P pl a K st V
    | some (.kb false) => ycode P pl b K st V
    | some (.v (.bool c)) => Br c (ycode P pl a K st V) (ycode P pl b K st V)
    | _ => False
  | .block id b, K, st, V => ycode P pl b (fun e st V => match e with
      | .exit id' => (match Nat.beq id' id with | true => K .normal st V | false => K (.exit id') st V)
      | .normal => K .normal st V
      | .ret => K .ret st V) st V
  | .loop b, K, st, V => LoopN (ycode P pl b) K st V
  | .exit id, K, st, V => K (.exit id) st V
  | .ret, K, st, V => K .ret st V
  | _, _, _, _ => False

def yfun (P : Program) (pl : Plans) (fn : Func) (args : List SV) (mem : Nat → Option Res) (V : View) (R : Value → View → List Res → Prop) : Prop :=
  match fn.body with
  | some c => ycode P pl c (fun e st V => match e with
      | .exit _ => False
      | _ => match readAll P st fn.results.toList with
        | some l => (match toVals st.mem l with
          | some vs => RetN (packVals vs) st.mem V R
          | none => False)
        | none => False) ⟨initEnv args 0, mem⟩ V
  | none => False

def ycodeOk (pl : Plans) (n : Nat) : Code → Bool
  | .region _ ops false => opsOk n ops.toList
  | .region id ops true => match planAt id pl with
    | some L => (match planOkB ops L with | true => opsOk n ops.toList | false => false)
    | none => false
  | .seq a b => match ycodeOk pl n a with | true => ycodeOk pl n b | false => false
  | .cond _ a b => match ycodeOk pl n a with | true => ycodeOk pl n b | false => false
  | .block _ b => ycodeOk pl n b
  | .loop b => ycodeOk pl n b
  | _ => true

section
variable {P : Program} {w0 : World} {M : Nat → Prop} {V0 : View} {n : Nat}
theorem ycode_sound {pl : Plans} (hm : P.follows .mixedOrders = true) : ∀ (c : Code) (K : Ex → St → View → Prop) (Q : Exit → Act → World → Prop), (∀ e st V a w, Inv w0 M V0 n st V a w → K e st V → Q (exOf e) a w) →
    ∀ (st : St) (V : View) (a : Act) (w : World), ycodeOk pl n c = true → Inv w0 M V0 n st V a w → ycode P pl c K st V → c.wp P Q a w
  | .skip, K, Q, hK, st, V, a, w, _, h, hx => wp_skip (hK _ _ _ _ _ h hx)
  | .region id ops false, K, Q, hK, st, V, a, w, hok, h, hx =>
    wp_region_list (xops_sound (fun st V a w h hx => hK _ _ _ _ _ h hx) ops.toList st V a w (opsOk_spec hok) h hx)
  | .region id ops true, K, Q, hK, st, V, a, w, hok, h, hx => by
    unfold ycodeOk at hok
    unfold ycode at hx
    split at hok
    · rename_i L hL
      rw [hL] at hx
      split at hok
      · rename_i hp
        exact draw_sound hm hp hok (fun st V a w h hx => hK .normal _ _ _ _ h hx) h hx
      · cases hok
    · cases hok
  | .seq x y, K, Q, hK, st, V, a, w, hok, h, hx => by
    unfold ycodeOk at hok
    split at hok
    · rename_i hok1
      refine wp_seq (ycode_sound hm x _ _ (fun e st V a w h hx => ?_) st V a w hok1 h hx)
      cases e with
      | normal => exact ycode_sound hm y K Q hK st V a w hok h hx
      | ret => exact hK .ret _ _ _ _ h hx
      | exit i => exact hK (.exit i) _ _ _ _ h hx
    · cases hok
  | .cond c x y, K, Q, hK, st, V, a, w, hok, h, hx => by
    unfold ycodeOk at hok
    split at hok
    · rename_i hok1
      unfold ycode at hx
      split at hx
      · rename_i hc; exact wp_cond_true (h.kb hc) (ycode_sound hm x K Q hK st V a w hok1 h hx)
      · rename_i hc; exact wp_cond_false (h.kb hc) (ycode_sound hm y K Q hK st V a w hok h hx)
      · rename_i b hc
        refine wp_cond (h.v hc) ?_
        cases b
        · exact ycode_sound hm y K Q hK st V a w hok h (hx.no rfl)
        · exact ycode_sound hm x K Q hK st V a w hok1 h (hx.yes rfl)
      · exact hx.elim
    · cases hok
  | .block id x, K, Q, hK, st, V, a, w, hok, h, hx => by
    refine wp_block (ycode_sound hm x _ _ (fun e st V a w h2 hx2 => ?_) st V a w hok h (show ycode P pl (.block id x) K st V from hx))
    cases e with
    | normal => exact hK .normal _ _ _ _ h2 hx2
    | ret => exact hK .ret _ _ _ _ h2 hx2
    | exit i =>
      cases hi : Nat.beq i id with
      | true =>
        simp only [hi] at hx2
        have := Nat.eq_of_beq_eq_true hi
        subst this
        simp only [exOf, Exit.inBlock, if_true]
        exact hK .normal _ _ _ _ h2 hx2
      | false =>
        simp only [hi] at hx2
        have hne : i ≠ id := fun e => by subst e; rw [Nat.beq_refl] at hi; cases hi
        simp only [exOf, Exit.inBlock, if_neg hne]
        exact hK (.exit i) _ _ _ _ h2 hx2
  | .loop x, K, Q, hK, st, V, a, w, hok, h, hx => by
    obtain ⟨I, ⟨k, st1, hw, hk⟩, hround⟩ := hx.get
    refine wp_loop (fun a w => ∃ k, LoopJ w0 M V0 n I k a w) (leastOf (LoopJ w0 M V0 n I)) ⟨k, st1, V, hk, hw _ _ _ _ _ _ h⟩ fun a w hJ => ?_
    obtain ⟨st, V, hI, h⟩ := leastOf_spec hJ
    refine ycode_sound hm x _ _ (fun e st V a' w' h hx => ?_) st V a w hok h (hround _ st V hI)
    cases e with
    | normal =>
      obtain ⟨m, st2, hm, hw2, hI'⟩ := hx
      have h2 := hw2 _ _ _ _ _ _ h
      exact ⟨⟨m, st2, V, hI', h2⟩, Nat.lt_of_le_of_lt (leastOf_le ⟨st2, V, hI', h2⟩) hm⟩
    | ret => exact hK .ret _ _ _ _ h hx
    | exit i => exact hK (.exit i) _ _ _ _ h hx
  | .exit id, K, Q, hK, st, V, a, w, _, h, hx => wp_exit (hK _ _ _ _ _ h hx)
  | .ret, K, Q, hK, st, V, a, w, _, h, hx => wp_ret (hK _ _ _ _ _ h hx)
  | .rangeFunc .., K, Q, hK, st, V, a, w, _, h, hx => hx.elim
  | .scope _, K, Q, hK, st, V, a, w, _, h, hx => hx.elim
  | .label _, K, Q, hK, st, V, a, w, _, h, hx => hx.elim
  | .goto _, K, Q, hK, st, V, a, w, _, h, hx => hx.elim
  | .refuse _, K, Q, hK, st, V, a, w, _, h, hx => hx.elim
/-- what stands in a function's head -/
def yfnOk (pl : Plans) (fn : Func) (k : Nat) : Bool := match fn.body with
  | some c => (match Nat.ble k fn.ntmps with | true => ycodeOk pl fn.ntmps c | false => false)
  | none => false

/-- **A CONTRACT, OUT OF THE EVALUATOR'S WORD.** -/
theorem does_of_yfun (pl : Plans) (hm : P.follows .mixedOrders = true) {f : FuncId} {fn : Func} {args : List SV} {vs : List Value} {ms : List (Nat × Res)} {V : View} {R : Value → View → List Res → Prop}
    (hf : P.funcs[f]? = some fn) (hok : yfnOk pl fn args.length = true) (ha : toVals (memOf ms) args = some vs) (hx : yfun P pl fn args (memOf ms) V R) : Does P f vs V (ms.map (·.2)) R := by
  intro w hp
  unfold yfun at hx
  unfold yfnOk at hok
  split at hx
  · rename_i c hb
    simp only [hb] at hok
    split at hok
    · rename_i hle
      have hle := Nat.le_of_ble_eq_true hle
      refine calls_of_wp hf hb ?_
      have hblk : ∀ b, blksM (memOf ms) b → blksOf (ms.map (·.2)) b := by
        intro b ⟨i, r, hr, hb⟩
        exact ⟨r, List.mem_map.2 ⟨(i, r), memOf_mem hr, rfl⟩, hb⟩
      have key : ∀ st V' a w', Inv w (blksM (memOf ms)) V fn.ntmps st V' a w' →
          (match readAll P st fn.results.toList with
            | some l => (match toVals st.mem l with
              | some vs => RetN (packVals vs) st.mem V' R
              | none => False)
            | none => False) →
          a.defers = [] ∧ ∃ v, (results fn a.tmps).run P w' = .ok v w' ∧ ∃ v1 V1 bs', Ending.returned v = .returned v1 ∧ R v1 V1 bs' ∧ Pre V1 bs' w' ∧ Kept (blksOf (ms.map (·.2))) w w' ∧ Grows (blksOf (ms.map (·.2))) w.heap.size V V1 ∧
            ∀ b, blksOf bs' b → blksOf (ms.map (·.2)) b ∨ w.heap.size ≤ b := by
        intro st V' a w' h hk
        refine ⟨h.defers, ?_⟩
        split at hk
        · rename_i l hl
          obtain ⟨vs, hvs, hrun⟩ := results_sound h hl
          rw [hvs] at hk
          obtain ⟨ids, hnd, bs, hids, hR⟩ := hk.get
          have hget : ∀ (i : Nat) (r : Res), bs[i]? = some r → ∃ k, ids[i]? = some k ∧ st.mem k = some r := by
            intro i r hi
            have := congrArg (fun l => l[i]?) hids
            simp only [List.getElem?_map, hi, Option.map_some] at this
            cases hk : ids[i]? with
            | none => rw [hk] at this; cases this
            | some k => rw [hk] at this; exact ⟨k, rfl, by simpa using this⟩
          refine ⟨_, hrun, _, V', bs, rfl, hR, ⟨h.mp.sub, fun i r hi => ?_, fun i j r r' b hij hi hj hb => ?_⟩, ?_, ?_, ?_⟩
          · obtain ⟨k, _, hm⟩ := hget i r hi; exact h.mp.ok k r hm
          · obtain ⟨k, hk1, hm⟩ := hget i r hi
            obtain ⟨k', hk2, hm'⟩ := hget j r' hj
            refine h.mp.apart k k' r r' b (fun e => ?_) hm hm' hb
            subst e
            exact hij ((List.getElem?_inj (List.getElem?_eq_some_iff.1 hk1).1 hnd).1 (hk1.trans hk2.symm))
          · exact ⟨h.kept.os, h.kept.tape, h.kept.output, h.kept.size, fun k hk hm => h.kept.block k hk (fun hb => hm (hblk k hb))⟩
          · refine ⟨h.grows.1, fun b o v hv => ?_⟩
            rcases h.grows.2 b o v hv with h1 | h1 | h1
            · exact .inl h1
            · exact .inr (.inl h1)
            · exact .inr (.inr (hblk b h1))
          · intro b ⟨r, hr, hb⟩
            obtain ⟨i, hi⟩ := List.mem_iff_getElem?.1 hr
            obtain ⟨k, _, hm⟩ := hget i r hi
            rcases h.new b ⟨k, r, hm, hb⟩ with h1 | h1
            · exact .inl (hblk b h1)
            · exact .inr h1
        · exact hk.elim
      refine ycode_sound hm (P := P) (w0 := w) (M := blksM (memOf ms)) (V0 := V) c _ _ (fun e st V' a w' h hk => ?_) _ V _ w hok (inv_init (pre_memOf hp) ha hle) hx
      cases e with
      | normal => exact key st V' a w' h hk
      | ret => exact key st V' a w' h hk
      | exit i => exact hk.elim
    · cases hok
  · exact hx.elim
end
end Go.X
