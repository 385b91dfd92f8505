/- One part of a proof: an evaluator of the model, shown right, and contracts that it yields. No condition beyond those that each theorem names. -/
import Derived.Test.YtenpginanhnkbaaX6c
namespace Go.X
open Go.RowKit

def opsOk (n : Nat) : List Oper → Bool
  | [] => true
  | o :: l => match o.dst with | some d => (match Nat.blt d n with | true => opsOk n l | false => false) | none => opsOk n l
def codeOk (n : Nat) : Code → Bool
  | .region _ ops _ => opsOk n ops.toList
  | .seq a b => match codeOk n a with | true => codeOk n b | false => false
  | .cond _ a b => match codeOk n a with | true => codeOk n b | false => false
  | .block _ b => codeOk n b
  | .loop b => codeOk n b
  | _ => true

theorem opsOk_spec {n : Nat} : ∀ {l : List Oper}, opsOk n l = true → ∀ o ∈ l, ∀ d, o.dst = some d → d < n
  | [], _, o, ho, _, _ => by cases ho
  | x :: l, h, o, ho, d, hd => by
    unfold opsOk at h
    rcases List.mem_cons.1 ho with rfl | ho
    · rw [hd] at h
      simp only at h
      split at h
      · rename_i hb
        have hb : Nat.ble (d + 1) n = true := hb
        exact Nat.le_of_ble_eq_true hb
      · cases h
    · refine opsOk_spec (l := l) ?_ o ho d hd
      split at h
      · split at h
        · exact h
        · cases h
      · exact h

def exOf : Ex → Exit
  | .normal => .normal
  | .ret => .ret
  | .exit i => .exit i

section
variable {P : Program} {w0 : World} {M : Nat → Prop} {V0 : View} {n : Nat}

theorem getD_bool {l : Array Value} {d : Nat} {b : Bool} (h : l.getD d undef = .bool b) : l[d]? = some (.bool b) := by
  rw [Array.getD_eq_getD_getElem?] at h
  cases hl : l[d]? with
  | none => rw [hl] at h; cases h
  | some v => rw [hl] at h; simp only [Option.getD_some] at h; rw [h]

theorem yielded_of {ops : Array Oper} {a : Act} {j d : Nat} {b : Bool} (hd : dstOf ops j = some d) (hv : a.tmps.getD d undef = .bool b) :
    yielded ops a.tmps j = some b := by
  unfold dstOf at hd
  split at hd
  · rename_i o ho
    simp [yielded, ho, hd, getD_bool hv]
  · cases hd

theorem Inv.known {st : St} {V : View} {a : Act} {w : World} (h : Inv w0 M V0 n st V a w) {d : Nat} {b : Bool} (hd : st.env d = some (.v (.bool b))) :
    Inv w0 M V0 n ⟨upd st.env d (.kb b), st.mem⟩ V a w := by
  refine ⟨h.defers, h.size, fun k s hk => ?_, h.mp, h.kept, h.grows, h.new⟩
  by_cases hkd : k = d
  · subst hkd
    simp only [upd_same, Option.some.injEq] at hk
    subst hk
    have := h.env k _ hd
    exact this
  · simp only [upd_ne _ _ hkd] at hk
    exact h.env k s hk

theorem Inv.skip {st : St} {V : View} {a : Act} {w : World} (h : Inv w0 M V0 n st V a w) {o : Oper} (hd : ∀ d, o.dst = some d → d < n) : Inv w0 M V0 n (st.put o.dst (.v undef)) V (a.put o.dst undef) w := h.put hd rfl

theorem xops_sound {ops : Array Oper} {K : St → View → Prop} {Q : Exit → Act → World → Prop} (hK : ∀ st V a w, Inv w0 M V0 n st V a w → K st V → Q .normal a w) :
    ∀ (l : List Oper) (st : St) (V : View) (a : Act) (w : World), (∀ o ∈ l, ∀ d, o.dst = some d → d < n) → Inv w0 M V0 n st V a w → xops P ops K l st V → wpList P ops Q l a w
  | [], st, V, a, w, _, h, hx => hK st V a w h hx
  | o :: l, st, V, a, w, hl, h, hx => by
    have ih := xops_sound (ops := ops) (K := K) (Q := Q) hK l
    have hd := hl o (by simp)
    have hl' : ∀ o ∈ l, ∀ d, o.dst = some d → d < n := fun x hx => hl x (by simp [hx])
    refine wpList_step fun Kw hKw => ?_
    have step : ∀ (st : St), Inv w0 M V0 n st V a w → xop P o st V (xops P ops K l) → o.wp P a w Kw Q := fun st h hx =>
      xop_sound h hx hd (fun st' V' a' w' h' hx' => hKw a' w' (ih st' V' a' w' hl' h' hx'))
    have pass : ∀ (st : St), Inv w0 M V0 n st V a w → xops P ops K l (st.put o.dst (.v undef)) V → Kw (a.put o.dst undef) w := fun st h hx => hKw _ _ (ih _ _ _ _ hl' (h.skip hd) hx)
    unfold xops at hx
    split at hx
    · rename_i hg
      rw [if_pos (by simp [Region.wanted, hg])]
      exact step st h hx
    · rename_i j want hg
      split at hx
      · exact hx.no.elim
      · rename_i d hjd
        have hw : ∀ b, a.tmps.getD d undef = .bool b → Region.wanted o (yielded ops a.tmps) = (b == want) := fun b hb => by
          simp only [Region.wanted, hg, yielded_of hjd hb]
          cases b <;> cases want <;> rfl
        split at hx
        · rename_i b hb
          have hv : a.tmps.getD d undef = .bool b := by have := h.env d _ hb; exact (Option.some.inj this).symm
          rw [hw b hv]
          cases b <;> cases want <;> simp only at hx
          · rw [if_pos (by rfl)]; exact step st h hx
          · rw [if_neg (by decide)]; exact pass st h hx
          · rw [if_neg (by decide)]; exact pass st h hx
          · rw [if_pos (by rfl)]; exact step st h hx
        · rename_i b hb
          have hv : a.tmps.getD d undef = .bool b := by have := h.env d _ hb; exact (Option.some.inj this).symm
          rw [hw b hv]
          have hk := h.known hb
          cases b
          · have hx := hx.no rfl
            cases want <;> simp only at hx
            · rw [if_pos (by rfl)]; exact step _ hk hx
            · rw [if_neg (by decide)]; exact pass _ hk hx
          · have hx := hx.yes rfl
            cases want <;> simp only at hx
            · rw [if_neg (by decide)]; exact pass _ hk hx
            · rw [if_pos (by rfl)]; exact step _ hk hx
        · rename_i l hb
          have hv : a.tmps.getD d undef = .tuple l := by have := h.env d _ hb; exact (Option.some.inj this).symm
          have hy : yielded ops a.tmps j = none := by
            unfold dstOf at hjd
            split at hjd
            · rename_i o2 ho2
              unfold yielded
              simp only [ho2, Option.bind_some, hjd]
              rw [Array.getD_eq_getD_getElem?] at hv
              cases hl : a.tmps[d]? with
              | none => rfl
              | some v => rw [hl, Option.getD_some] at hv; subst hv; rfl
            · cases hjd
          rw [if_neg (by simp [Region.wanted, hg, hy])]
          exact pass st h hx
        · exact hx.no.elim

theorem exists_least {p : Nat → Prop} (h : ∃ k, p k) : ∃ k, p k ∧ ∀ m, p m → k ≤ m := by
  obtain ⟨k, hk⟩ := h
  induction k using Nat.strongRecOn with
  | _ k ih =>
    by_cases hx : ∃ m, m < k ∧ p m
    · obtain ⟨m, hm, hp⟩ := hx; exact ih m hm hp
    · exact ⟨k, hk, fun m hm => by
        rcases Nat.lt_or_ge m k with h | h
        · exact absurd ⟨m, h, hm⟩ hx
        · exact h⟩

open Classical in
noncomputable def leastOf (J : Nat → Act → World → Prop) (a : Act) (w : World) : Nat := if h : ∃ k, J k a w then Classical.choose (exists_least h) else 0
theorem leastOf_spec {J : Nat → Act → World → Prop} {a : Act} {w : World} (h : ∃ k, J k a w) : J (leastOf J a w) a w := by
  unfold leastOf; rw [dif_pos h]; exact (Classical.choose_spec (exists_least h)).1
theorem leastOf_le {J : Nat → Act → World → Prop} {a : Act} {w : World} {m : Nat} (h : J m a w) : leastOf J a w ≤ m := by
  unfold leastOf; rw [dif_pos ⟨m, h⟩]; exact (Classical.choose_spec (exists_least ⟨m, h⟩)).2 m h
def LoopJ (w0 : World) (M : Nat → Prop) (V0 : View) (n : Nat) (I : Nat → St → View → Prop) (k : Nat) (a : Act) (w : World) : Prop := ∃ st V, I k st V ∧ Inv w0 M V0 n st V a w

theorem xcode_sound : ∀ (c : Code) (K : Ex → St → View → Prop) (Q : Exit → Act → World → Prop), (∀ e st V a w, Inv w0 M V0 n st V a w → K e st V → Q (exOf e) a w) →
    ∀ (st : St) (V : View) (a : Act) (w : World), codeOk n c = true → Inv w0 M V0 n st V a w → xcode P c K st V → c.wp P Q a w
  | .skip, K, Q, hK, st, V, a, w, _, h, hx => wp_skip (hK _ _ _ _ _ h hx)
  | .region id ops false, K, Q, hK, st, V, a, w, hok, h, hx =>
    wp_region_list (xops_sound (fun st V a w h hx => hK _ _ _ _ _ h hx) ops.toList st V a w (opsOk_spec hok) h hx)
  | .region id ops true, K, Q, hK, st, V, a, w, hok, h, hx => by simp only [xcode] at hx
  | .seq x y, K, Q, hK, st, V, a, w, hok, h, hx => by
    unfold codeOk at hok
    split at hok
    · rename_i hok1
      refine wp_seq (xcode_sound x _ _ (fun e st V a w h hx => ?_) st V a w hok1 h hx)
      cases e with
      | normal => exact xcode_sound y K Q hK st V a w hok h hx
      | ret => exact hK .ret _ _ _ _ h hx
      | exit i => exact hK (.exit i) _ _ _ _ h hx
    · cases hok
  | .cond c x y, K, Q, hK, st, V, a, w, hok, h, hx => by
    unfold codeOk at hok
    split at hok
    · rename_i hok1
      unfold xcode at hx
      split at hx
      · rename_i hc; exact wp_cond_true (h.kb hc) (xcode_sound x K Q hK st V a w hok1 h hx)
      · rename_i hc; exact wp_cond_false (h.kb hc) (xcode_sound y K Q hK st V a w hok h hx)
      · rename_i b hc
        refine wp_cond (h.v hc) ?_
        cases b
        · exact xcode_sound y K Q hK st V a w hok h (hx.no rfl)
        · exact xcode_sound x K Q hK st V a w hok1 h (hx.yes rfl)
      · exact hx.elim
    · cases hok
  | .block id x, K, Q, hK, st, V, a, w, hok, h, hx => by
    refine wp_block (xcode_sound x _ _ (fun e st V a w h2 hx2 => ?_) st V a w hok h (show xcode P (.block id x) K st V from hx))
    cases e with
    | normal => exact hK .normal _ _ _ _ h2 hx2
    | ret => exact hK .ret _ _ _ _ h2 hx2
    | exit i =>
      cases hi : Nat.beq i id with
      | true =>
        simp only [hi] at hx2
        have := Nat.eq_of_beq_eq_true hi
        subst this
        simp only [exOf, Exit.inBlock, if_true]
        exact hK .normal _ _ _ _ h2 hx2
      | false =>
        simp only [hi] at hx2
        have hne : i ≠ id := fun e => by subst e; rw [Nat.beq_refl] at hi; cases hi
        simp only [exOf, Exit.inBlock, if_neg hne]
        exact hK (.exit i) _ _ _ _ h2 hx2
  | .loop x, K, Q, hK, st, V, a, w, hok, h, hx => by
    obtain ⟨I, ⟨k, st1, hw, hk⟩, hround⟩ := hx.get
    refine wp_loop (fun a w => ∃ k, LoopJ w0 M V0 n I k a w) (leastOf (LoopJ w0 M V0 n I)) ⟨k, st1, V, hk, hw _ _ _ _ _ _ h⟩ fun a w hJ => ?_
    obtain ⟨st, V, hI, h⟩ := leastOf_spec hJ
    refine xcode_sound x _ _ (fun e st V a' w' h hx => ?_) st V a w hok h (hround _ st V hI)
    cases e with
    | normal =>
      obtain ⟨m, st2, hm, hw2, hI'⟩ := hx
      have h2 := hw2 _ _ _ _ _ _ h
      exact ⟨⟨m, st2, V, hI', h2⟩, Nat.lt_of_le_of_lt (leastOf_le ⟨st2, V, hI', h2⟩) hm⟩
    | ret => exact hK .ret _ _ _ _ h hx
    | exit i => exact hK (.exit i) _ _ _ _ h hx
  | .exit id, K, Q, hK, st, V, a, w, _, h, hx => wp_exit (hK _ _ _ _ _ h hx)
  | .ret, K, Q, hK, st, V, a, w, _, h, hx => wp_ret (hK _ _ _ _ _ h hx)
  | .rangeFunc .., K, Q, hK, st, V, a, w, _, h, hx => hx.elim
  | .scope _, K, Q, hK, st, V, a, w, _, h, hx => hx.elim
  | .label _, K, Q, hK, st, V, a, w, _, h, hx => hx.elim
  | .goto _, K, Q, hK, st, V, a, w, _, h, hx => hx.elim
  | .refuse _, K, Q, hK, st, V, a, w, _, h, hx => hx.elim
end
end Go.X
