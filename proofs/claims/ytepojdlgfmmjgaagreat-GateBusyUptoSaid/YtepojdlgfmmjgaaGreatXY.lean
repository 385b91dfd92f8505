/- One part of a proof: an evaluator of the model, shown right, and contracts that it yields. No condition beyond those that each theorem names. -/
import Derived.Test.YtepojdlgfmmjgaaGreatXZ
set_option linter.unusedSimpArgs false
set_option linter.unusedVariables false
set_option linter.unusedSectionVars false
set_option linter.deprecated false
section
namespace Go.X
section
variable {P : Program}
theorem CallN.lend (id : Nat) {f : FuncId} {args : List Value} {V : View} {mem : Nat → Option Res} {K : SV → View → (Nat → Option Res) → Prop} {b : Nat} {t : TypeId} {cells : List Value} (hm : mem id = some (.box b t cells))
  (hx : V.le (V.add b cells) → CallN P f args (V.add b cells) (del mem id) (fun s _ mem' => (∃ x, s = .v x) ∧ mem' = del mem id ∧ K s V mem)) : CallN P f args V mem K := by
 refine ⟨fun w hw => ?_⟩
 have hbox : Res.ok w V (.box b t cells) := hw.ok id _ hm
 obtain ⟨hcells, hnone⟩ := hbox
 have hle : V.le (V.add b cells) := View.add_le hnone
 have hdel : ∀ i r, del mem id i = some r → i ≠ id ∧ mem i = some r := fun i r hi => by
  by_cases h : i = id
  ·subst h; simp [del] at hi
  ·exact ⟨h, by rwa [del_ne _ h] at hi⟩
 have hfree : ∀ i r, del mem id i = some r → r.blk ≠ some b := fun i r hi hb => by
  obtain ⟨h1, h2⟩ := hdel i r hi
  exact hw.apart i id r _ b h1 h2 hm hb rfl
 have hpre : MPre (del mem id) (V.add b cells) w := by
  refine ⟨fun b' o v hv => ?_, fun i r hi => ?_, fun i j r r' b' hij hi hj => hw.apart i j r r' b' hij (hdel i r hi).2 (hdel j r' hj).2⟩
  ·unfold View.add at hv
   split at hv
   ·rename_i he
    subst he
    rw [cell_box hcells]; exact hv
   ·exact hw.sub b' o v hv
  ·obtain ⟨h1, h2⟩ := hdel i r hi
   refine (hw.ok i r h2).keep (fun _ _ => rfl) fun b' hb' o hn => ?_
   have : b' ≠ b := fun e => hfree i r hi (by rw [hb', e])
   unfold View.add
   rw [if_neg this]; exact hn
 refine ((hx hle).run w hpre).mono fun e w' ⟨v, s, V', mem', he, hv, ⟨⟨x, hs⟩, hmem, hK⟩, hsame, hp, hk, hg, hnew⟩ => ?_
 subst hs
 subst hmem
 have hVV : V.le V' := View.le_trans hle hg.1
 have hblt : b < w.heap.size := by
  have := (Array.getElem?_eq_some_iff.1 hcells).1
  exact this
 have hbk : w'.heap[b]? = w.heap[b]? := hk.block b hblt (fun ⟨i, r, hi, hb⟩ => hfree i r hi hb)
 refine ⟨v, .v x, V, mem, he, hv, hK, fun _ _ h => h, ⟨fun b' o u hu => hp.sub b' o u (hVV b' o u hu), fun i r hi => ?_, hw.apart⟩, ?_, ⟨View.le_refl _, fun b' o u hu => .inl hu⟩, fun b' hb' => .inl hb'⟩
 ·by_cases hid : i = id
  ·subst hid
   rw [hm, Option.some.injEq] at hi
   subst hi
   exact ⟨by rw [hbk]; exact hcells, hnone⟩
  ·have h2 := hp.ok i r (by rw [del_ne _ hid]; exact hi)
   have down : ∀ b' o, V' b' o = none → V b' o = none := fun b' o hn => by
    cases hv2 : V b' o with
    | none => rfl
    | some u => rw [hVV b' o u hv2] at hn; cases hn
   refine h2.keep (fun _ _ => rfl) fun b' _ o hn => down b' o hn
 ·exact ⟨hk.os, hk.tape, hk.output, hk.drawn, hk.size, fun k hk1 hk2 => hk.block k hk1 (fun ⟨i, r, hi, hb⟩ => hk2 ⟨i, r, (hdel i r hi).2, hb⟩), hk.thaw⟩
end
theorem AppN.toR {V : View} {mem : Nat → Option Res} {g : Option Nat} {v : Value} {n size bytes m cap : Nat} {base : Option Addr} {K : Value → Nat → View → Prop} (n' : Nat) (hn' : n + m = n') (xs news : List Value) (hx : V.cells v xs) (hxl : xs.length = n * size)
  (hn : m = 0 ∨ V.cells (.slice base m cap) news) (hnl : news.length = m * size) (h1 : allOne news = true) (hm : n' ≤ 10000000) (hb : bytes ≤ 100000)
  (k : ∀ base cap V', V.le V' → V'.cells (.slice base n' cap) (xs ++ news) → n' ≤ cap → K (.slice base n' cap) n' V') : AppN V mem g v n size bytes (.slice base m cap) K := by
 subst hn'
 refine ⟨⟨xs, news, m, hx, hxl, ⟨_, _, rfl⟩, hn, hnl, allOne_spec h1, Nat.le_trans hm (by decide), ?_, fun v' V' hle hc hv' _ => ?_⟩⟩
 ·exact Nat.le_trans (Nat.mul_le_mul hm hb) (by decide)
 ·obtain ⟨base', cap', rfl, hcap⟩ := hv'
  exact k base' cap' V' hle hc hcap
theorem AppN.toc {V : View} {mem : Nat → Option Res} {g : Option Nat} {v : Value} {n size bytes m cap : Nat} {base : Option Addr} {K : Value → Nat → View → Prop} (n' : Nat) (hn' : n + m = n') (xs news : List Value) (hx : V.cells v xs) (hxl : xs.length = n * size)
  (hn : V.cells (.slice base m cap) news) (hnl : news.length = m * size) (h1 : allOne news = true) (hm : n' ≤ 10000000) (hb : bytes ≤ 100000)
  (k : ∀ base cap V', V.le V' → V'.cells (.slice base n' cap) (xs ++ news) → n' ≤ cap → K (.slice base n' cap) n' V') : AppN V mem g v n size bytes (.slice base m cap) K := by
 subst hn'
 refine ⟨⟨xs, news, m, hx, hxl, ⟨_, _, rfl⟩, .inr hn, hnl, allOne_spec h1, Nat.le_trans hm (by decide), ?_, fun v' V' hle hc hv' _ => ?_⟩⟩
 ·exact Nat.le_trans (Nat.mul_le_mul hm hb) (by decide)
 ·obtain ⟨base', cap', rfl, hcap⟩ := hv'
  exact k base' cap' V' hle hc hcap
def swapN (a b n : Nat) : Nat := match Nat.beq n a with
 | true => b
 | false => (match Nat.beq n b with | true => a | false => n)
theorem swapN_eq (a b n : Nat) : swapN a b n = if n = a then b else if n = b then a else n := by
 unfold swapN
 by_cases h : n = a
 ·subst h; simp [Nat.beq_refl]
 ·have h1 : Nat.beq n a = false := by
   cases hb : Nat.beq n a with
   | false => rfl
   | true => exact absurd (Nat.eq_of_beq_eq_true hb) h
  rw [h1, if_neg h]
  by_cases k : n = b
  ·subst k; simp [Nat.beq_refl]
  ·have h2 : Nat.beq n b = false := by
    cases hb : Nat.beq n b with
    | false => rfl
    | true => exact absurd (Nat.eq_of_beq_eq_true hb) k
   simp only [h2]; rw [if_neg k]
theorem swapN_inj {a b i j : Nat} (h : swapN a b i = swapN a b j) : i = j := by
 rw [swapN_eq, swapN_eq] at h
 split at h <;> split at h <;> (try split at h) <;> (try split at h) <;> omega
def St.keepsR (st : St) (ρ : Nat → Nat) : List (Nat × Res) → Prop
 | [] => True
 | (i, r) :: l => (st.mem (ρ i) = some r ∨ r.free) ∧ st.keepsR ρ l
theorem keepsR_get {st : St} {ρ : Nat → Nat} : ∀ {ms : List (Nat × Res)}, st.keepsR ρ ms → ∀ i r, memOf ms i = some r → st.mem (ρ i) = some r ∨ r.free
 | [], _, i, r, h => by cases h
 | (j, s) :: ms, hh, i, r, h => by
  unfold memOf at h
  by_cases hi : i = j
  ·subst hi; rw [upd_same, Option.some.injEq] at h; subst h; exact hh.1
  ·rw [upd_ne _ _ hi] at h; exact keepsR_get hh.2 i r h
theorem keepsR_nil {st : St} {ρ : Nat → Nat} : st.keepsR ρ [] := trivial
theorem keepsR_cons {st : St} {ρ : Nat → Nat} {i : Nat} {r : Res} {l : List (Nat × Res)} (h1 : st.mem (ρ i) = some r) (h : st.keepsR ρ l) : st.keepsR ρ ((i, r) :: l) := ⟨.inl h1, h⟩
theorem keepsR_free {st : St} {ρ : Nat → Nat} {i : Nat} {base : Option Addr} {t : TypeId} {z : Nat} {l : List (Nat × Res)} (h : st.keepsR ρ l) : st.keepsR ρ ((i, .row (.slice base 0 0) t z 0) :: l) := ⟨.inr ⟨base, t, z, rfl⟩, h⟩
theorem weak_genR {st : St} {V : View} {env : List (Nat × SV)} {ms : List (Nat × Res)} {ρ : Nat → Nat} (hρ : ∀ i j, ρ i = ρ j → i = j) (he : st.sees (memOf ms) env) (hm : st.keepsR ρ ms) : Weak (St.of env ms) st V := by
 intro w0 M V0 n a w h
 have hmem := keepsR_get hm
 refine ⟨h.defers, h.size, fun k s hk => ?_, ⟨h.mp.sub, fun i r hr => ?_, fun i j r r' b hij hi hj hb hb' => ?_⟩, h.kept, h.grows, ?_⟩
 ·obtain ⟨s0, v, h1, h2, h3⟩ := sees_get he k s hk
  have := h.env k s0 h1
  rw [h2] at this
  show toVal (memOf ms) s = _
  rw [h3]; exact this
 ·rcases hmem i r hr with h1 | h1
  ·exact h.mp.ok _ r h1
  ·exact free_ok h1 w V
 ·rcases hmem i r hi with h1 | h1
  ·rcases hmem j r' hj with h2 | h2
   ·exact h.mp.apart _ _ r r' b (fun e => hij (hρ _ _ e)) h1 h2 hb hb'
   ·rw [free_blk h2] at hb'; cases hb'
  ·rw [free_blk h1] at hb; cases hb
 ·intro b ⟨i, r, hr, hb⟩
  rcases hmem i r hr with h1 | h1
  ·exact h.new b ⟨_, r, h1, hb⟩
  ·rw [free_blk h1] at hb; cases hb
def backToR {σ : Type} (env : σ → List (Nat × SV)) (ms : σ → List (Nat × Res)) (inv : Nat → σ → View → Prop) (k : Nat) (K : Ex → St → View → Prop) : Ex → St → View → Prop
 | .normal, st', V' => ∃ a b m y, m < k ∧ st'.sees (memOf (ms y)) (env y) ∧ st'.keepsR (swapN a b) (ms y) ∧ inv m y V'
 | .ret, st', V' => K .ret st' V'
 | .exit i, st', V' => K (.exit i) st' V'
theorem loopzR {P : Program} {pl : Plans} {c : Code} {σ : Type} (env : σ → List (Nat × SV)) (ms : σ → List (Nat × Res)) (inv : Nat → σ → View → Prop) {K : Ex → St → View → Prop} {st : St} {V : View} (k : Nat) (x : σ)
  (he : st.sees (memOf (ms x)) (env x)) (hm : st.keeps (ms x)) (h0 : inv k x V)
  (hr : ∀ k x V, inv k x V → zcode P pl c (backToR env ms inv k K) (St.of (env x) (ms x)) V) : LoopN (zcode P pl c) K st V := by
 rw [zcode_eq] at hr ⊢
 refine LoopN.mk' (fun x => St.of (env x) (ms x)) inv k x (weak_gen he hm) h0 fun k x V hi => ycode_mono c (fun e st' V' hk => ?_) _ _ (hr k x V hi)
 cases e with
 | normal =>
  obtain ⟨a, b, m, y, hm, h1, h2, h3⟩ := hk
  exact ⟨m, _, hm, weak_genR (fun _ _ h => swapN_inj h) h1 h2, y, rfl, h3⟩
 | ret => exact hk
 | exit i => exact hk
end Go.X
end
