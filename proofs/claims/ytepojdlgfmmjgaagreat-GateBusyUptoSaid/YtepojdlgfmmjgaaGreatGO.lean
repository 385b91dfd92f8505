/- One part of a proof: an evaluator of the model, shown right, and contracts that it yields. No condition beyond those that each theorem names. -/
import Derived.Test.YtepojdlgfmmjgaaGreatGH
import Derived.Test.YtepojdlgfmmjgaaGreatJD
set_option linter.unusedSimpArgs false
set_option linter.unusedVariables false
set_option linter.unusedSectionVars false
set_option linter.deprecated false
section
namespace Go.Z
open Go.X Go.RowKit Go.Proofs Go.Proofs.LB
set_option maxRecDepth 100000
noncomputable section
def heapG : Heap := (Tr.ins .nil 1 (some (.lab true 0))).ins 3 (some (.lab true 1))
section
variable {σ : Nat → Nat → Value} [SigOk σ]
end
inductive GArg (W : World) (l : List Int) : Value → Option (Nat × Nat) → Option (Nat × Nat) → Prop
 | nil (h : l = []) : GArg W l (.slice none 0 0) none none
 | row {b off cap : Nat} {cs : Array Value} {t : TypeId} {fr : Nat × Nat} (h : W.heap[b]? = some (.cells cs t fr)) (hc : ∀ (i : Nat) (x : Int), l[i]? = some x → cs[off + i]? = some (.int .u16 x)) :
  GArg W l (.slice (some ⟨b, off, none⟩) l.length cap) (some (b, cap)) (some (b, off))
theorem garg_of {W : World} {m : Nat} {v : Value} {l : List Int} (h : ArgOf W m v l) : ∃ p q, GArg W l v p q := by
 cases h with
 | nil => exact ⟨none, none, .nil rfl⟩
 | some h hc => exact ⟨_, _, .row h hc⟩
theorem GArg.lt {W : World} {l : List Int} {v : Value} {p q : Option (Nat × Nat)} (h : GArg W l v p q) : (∀ b c, p = some (b, c) → b < W.heap.size) ∧ ∀ b c, q = some (b, c) → b < W.heap.size := by
 cases h with
 | nil _ => exact ⟨fun _ _ h => (by cases h), fun _ _ h => (by cases h)⟩
 | row h hc =>
  have := (Array.getElem?_eq_some_iff.1 h).1
  exact ⟨fun _ _ e => (by cases e; exact this), fun _ _ e => (by cases e; exact this)⟩
theorem GArg.rep {σ : Nat → Nat → Value} {ρ : Ren} {W : World} {l : List Int} {v : Value} {p q : Option (Nat × Nat)} (h : GArg W l v p q) {n g : Nat} (hg : gtags σ g = l) (hp : ρ n = p) (hq : ρ (n + 1) = q) : Rep σ ρ (gval n g) v := by
 have hlen : l.length = glen σ g := by rw [← hg, gtags_len]
 cases h with
 | nil h0 =>
  subst h0
  have h1 := Rep.gs (σ := σ) (ρ := ρ) (n := n) (g := g) (c := 0) (base := none) (.inl hlen.symm)
  rw [← hlen] at h1
  exact h1
 | row h hc =>
  rw [hlen]
  exact .gs (.inr ⟨_, _, rfl, hp, hq⟩)
theorem GArg.obj {σ : Nat → Nat → Value} {ρ : Ren} {W : World} {l : List Int} {v : Value} {p q : Option (Nat × Nat)} (h : GArg W l v p q) {g b c : Nat} (hg : gtags σ g = l) (hn : ∀ x ∈ l, 0 ≤ x ∧ x < 65536) (hq : q = some (b, c)) : ObjRel σ ρ W.heap[b]? c (.lab true g) := by
 cases h with
 | nil _ => cases hq
 | row h hc =>
  cases hq
  exact ⟨_, _, _, h, by rw [hg]; exact hc, by rw [hg]; exact hn⟩
def ren4 (p0 q0 p1 q1 : Option (Nat × Nat)) : Ren := fun k => match k with
 | 0 => p0
 | 1 => q0
 | 2 => p1
 | 3 => q1
 | _ => none
theorem heapG_get {n : Nat} {o : HO} (h : heapG.get n = some o) : (n = 1 ∧ o = .lab true 0) ∨ (n = 3 ∧ o = .lab true 1) := by
 unfold heapG at h
 rcases Heap.ins_get h with h | ⟨_, h⟩
 ·exact .inr h
 ·rcases Heap.ins_get h with h | ⟨_, h⟩
  ·exact .inl h
  ·rw [Tr.get_nil] at h; cases h
theorem startG {σ : Nat → Nat → Value} {W : World} {l0 l1 : List Int} {v0 v1 : Value} {p0 q0 p1 q1 : Option (Nat × Nat)} (h0 : GArg W l0 v0 p0 q0) (h1 : GArg W l1 v1 p1 q1) (e0 : gtags σ 0 = l0) (e1 : gtags σ 1 = l1) (n0 : ∀ x ∈ l0, 0 ≤ x ∧ x < 65536) (n1 : ∀ x ∈ l1, 0 ≤ x ∧ x < 65536) :
  Fresh (ren4 p0 q0 p1 q1) 4 ∧ Rep σ (ren4 p0 q0 p1 q1) (gval 0 0) v0 ∧ Rep σ (ren4 p0 q0 p1 q1) (gval 2 1) v1 ∧ WI σ W heapG (ren4 p0 q0 p1 q1) W := by
 have hlt : ∀ n b c, ren4 p0 q0 p1 q1 n = some (b, c) → b < W.heap.size ∧ n < 4 := fun n b c hn => by
  match n with
  | 0 => exact ⟨h0.lt.1 b c hn, by omega⟩
  | 1 => exact ⟨h0.lt.2 b c hn, by omega⟩
  | 2 => exact ⟨h1.lt.1 b c hn, by omega⟩
  | 3 => exact ⟨h1.lt.2 b c hn, by omega⟩
  | n + 4 => cases hn
 have hdead : ∀ n, ¬ Live heapG n := fun n ⟨o, ho, hl⟩ => by
  rcases heapG_get ho with ⟨_, rfl⟩ | ⟨_, rfl⟩ <;> cases hl
 refine ⟨fun n x hn => (hlt n x.1 x.2 hn).2, h0.rep e0 rfl rfl, h1.rep e1 rfl rfl, fun n b c o hn ho => ?_, fun n b c hn => (hlt n b c hn).1, fun n m b c c' _ _ l _ => absurd l (hdead n), fun n b c _ l => absurd l (hdead n), fun n b c o hn _ _ => (hlt n b c hn).1, KeptZ.refl W⟩
 rcases heapG_get ho with ⟨rfl, rfl⟩ | ⟨rfl, rfl⟩
 ·exact h0.obj e0 n0 hn
 ·exact h1.obj e1 n1 hn
end
def ghosts (a c n : List Int) (g : Nat) : List Int := match g with
 | 0 => a
 | 1 => c
 | 2 => n
 | _ => []
theorem ghosts_ok {a c n : List Int} (h0 : GhL a) (h1 : GhL c) (h2 : GhL n) : ∀ g, GhL (ghosts a c n g)
 | 0 => h0
 | 1 => h1
 | 2 => h2
 | _ + 3 => ⟨fun x hx => (by cases hx), Nat.zero_le _⟩
end Go.Z
end
