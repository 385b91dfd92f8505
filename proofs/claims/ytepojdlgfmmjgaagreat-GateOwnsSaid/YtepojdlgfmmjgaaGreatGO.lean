/- One part of a proof: an evaluator of the model, shown right, and contracts that it yields. No condition beyond those that each theorem names. -/
import Derived.Test.YtepojdlgfmmjgaaGreatGH
import Derived.Test.YtepojdlgfmmjgaaGreatJD
set_option linter.unusedSimpArgs false
set_option linter.unusedVariables false
set_option linter.unusedSectionVars false
set_option linter.deprecated false
section
namespace Go.Z
open Go.X Go.RowKit Go.Proofs Go.Proofs.LB
set_option maxRecDepth 100000
noncomputable section
def heapG : Heap := (Tr.ins .nil 1 (some (.lab true 0))).ins 3 (some (.lab true 1))
def normT (r : Nat) (g : Nat) : Option Nat := match g, r with
 | 1, 0 => some 2
 | _, _ => none
def ownT (r : Nat) (a b : Nat) : Option Nat := match a, b with
 | 0, 1 => some r
 | _, _ => none
def labT (g : Nat) : Bool := Nat.beq g 0
def primO (r : Nat) (f : FuncId) : Option Prim := match f with
 | 7 => some fBegun
 | 8 => some (mayG labT)
 | 185 => some (ownG (ownT r))
 | 16 => some (ownG (ownT r))
 | 187 => some (normG (normT r))
 | 34 => some (orP cloneG (runP envS 20 34))
 | 108 => some (orP cloneG (runP envS 20 108))
 | f => primS f
@[reducible] def envO (r : Nat) : Env := { P := Tryz.prog, ext := extT, prim := primO r }
def ownsQ (r : Nat) : Bool := says (runV (envO r) mkT 80 4 [gval 0 0, gval 2 1] heapG 4) (.bool true)
theorem owns0 : ownsQ 0 = true := by kernel_rfl
theorem owns7 : ownsQ 7 = true := by kernel_rfl
theorem owns17 : ownsQ 17 = true := by kernel_rfl
section
variable {σ : Nat → Nat → Value} [SigOk σ]
structure OwnHyp (σ : Nat → Nat → Value) (r : Nat) : Prop where
 may : Rising (gtags σ 0) ∧ (gtags σ 0).length ≤ 8
 own : ownE (gtags σ 0) (normL (gtags σ 1)) = r
 norm : r = 0 → normL (gtags σ 1) = gtags σ 2 ∧ (gtags σ 2).length ≤ 8
theorem primO_ok {r : Nat} (H : OwnHyp σ r) (g : FuncId) (f : Prim) (hg : primO r g = some f) : PrimOk σ g f := by
 unfold primO at hg
 have hown : ∀ a b q, ownT r a b = some q → ownE (gtags σ a) (normL (gtags σ b)) = q := fun a b q h => by
  unfold ownT at h
  split at h
  ·cases h; exact H.own
  ·cases h
 split at hg
 ·cases hg; exact begun_ok
 ·cases hg
  exact mayG_ok fun g h => by
   have := Nat.eq_of_beq_eq_true h
   subst this
   exact H.may
 ·cases hg; exact ownmay_ok hown
 ·cases hg; exact rown_ok hown
 ·cases hg
  exact normG_ok fun g g2 h => by
   unfold normT at h
   split at h
   ·cases h; exact H.norm rfl
   ·cases h
 ·cases hg; exact orP_ok (cloneG_of cloneL_calls) (runP_ok envS_ok rfl)
 ·cases hg; exact orP_ok (cloneG_of clone_calls) (runP_ok envS_ok rfl)
 ·exact primS_ok _ f hg
theorem envO_ok {r : Nat} (H : OwnHyp σ r) : EnvOk (envO r) σ := ⟨extT_ok, primO_ok H, LB.mixed⟩
end
inductive GArg (W : World) (l : List Int) : Value → Option (Nat × Nat) → Option (Nat × Nat) → Prop
 | nil (h : l = []) : GArg W l (.slice none 0 0) none none
 | row {b off cap : Nat} {cs : Array Value} {t : TypeId} {fr : Nat × Nat} (h : W.heap[b]? = some (.cells cs t fr)) (hc : ∀ (i : Nat) (x : Int), l[i]? = some x → cs[off + i]? = some (.int .u16 x)) :
  GArg W l (.slice (some ⟨b, off, none⟩) l.length cap) (some (b, cap)) (some (b, off))
theorem garg_of {W : World} {m : Nat} {v : Value} {l : List Int} (h : ArgOf W m v l) : ∃ p q, GArg W l v p q := by
 cases h with
 | nil => exact ⟨none, none, .nil rfl⟩
 | some h hc => exact ⟨_, _, .row h hc⟩
theorem GArg.lt {W : World} {l : List Int} {v : Value} {p q : Option (Nat × Nat)} (h : GArg W l v p q) : (∀ b c, p = some (b, c) → b < W.heap.size) ∧ ∀ b c, q = some (b, c) → b < W.heap.size := by
 cases h with
 | nil _ => exact ⟨fun _ _ h => (by cases h), fun _ _ h => (by cases h)⟩
 | row h hc =>
  have := (Array.getElem?_eq_some_iff.1 h).1
  exact ⟨fun _ _ e => (by cases e; exact this), fun _ _ e => (by cases e; exact this)⟩
theorem GArg.rep {σ : Nat → Nat → Value} {ρ : Ren} {W : World} {l : List Int} {v : Value} {p q : Option (Nat × Nat)} (h : GArg W l v p q) {n g : Nat} (hg : gtags σ g = l) (hp : ρ n = p) (hq : ρ (n + 1) = q) : Rep σ ρ (gval n g) v := by
 have hlen : l.length = glen σ g := by rw [← hg, gtags_len]
 cases h with
 | nil h0 =>
  subst h0
  have h1 := Rep.gs (σ := σ) (ρ := ρ) (n := n) (g := g) (c := 0) (base := none) (.inl hlen.symm)
  rw [← hlen] at h1
  exact h1
 | row h hc =>
  rw [hlen]
  exact .gs (.inr ⟨_, _, rfl, hp, hq⟩)
theorem GArg.obj {σ : Nat → Nat → Value} {ρ : Ren} {W : World} {l : List Int} {v : Value} {p q : Option (Nat × Nat)} (h : GArg W l v p q) {g b c : Nat} (hg : gtags σ g = l) (hn : ∀ x ∈ l, 0 ≤ x ∧ x < 65536) (hq : q = some (b, c)) : ObjRel σ ρ W.heap[b]? c (.lab true g) := by
 cases h with
 | nil _ => cases hq
 | row h hc =>
  cases hq
  exact ⟨_, _, _, h, by rw [hg]; exact hc, by rw [hg]; exact hn⟩
def ren4 (p0 q0 p1 q1 : Option (Nat × Nat)) : Ren := fun k => match k with
 | 0 => p0
 | 1 => q0
 | 2 => p1
 | 3 => q1
 | _ => none
theorem heapG_get {n : Nat} {o : HO} (h : heapG.get n = some o) : (n = 1 ∧ o = .lab true 0) ∨ (n = 3 ∧ o = .lab true 1) := by
 unfold heapG at h
 rcases Heap.ins_get h with h | ⟨_, h⟩
 ·exact .inr h
 ·rcases Heap.ins_get h with h | ⟨_, h⟩
  ·exact .inl h
  ·rw [Tr.get_nil] at h; cases h
theorem startG {σ : Nat → Nat → Value} {W : World} {l0 l1 : List Int} {v0 v1 : Value} {p0 q0 p1 q1 : Option (Nat × Nat)} (h0 : GArg W l0 v0 p0 q0) (h1 : GArg W l1 v1 p1 q1) (e0 : gtags σ 0 = l0) (e1 : gtags σ 1 = l1) (n0 : ∀ x ∈ l0, 0 ≤ x ∧ x < 65536) (n1 : ∀ x ∈ l1, 0 ≤ x ∧ x < 65536) :
  Fresh (ren4 p0 q0 p1 q1) 4 ∧ Rep σ (ren4 p0 q0 p1 q1) (gval 0 0) v0 ∧ Rep σ (ren4 p0 q0 p1 q1) (gval 2 1) v1 ∧ WI σ W heapG (ren4 p0 q0 p1 q1) W := by
 have hlt : ∀ n b c, ren4 p0 q0 p1 q1 n = some (b, c) → b < W.heap.size ∧ n < 4 := fun n b c hn => by
  match n with
  | 0 => exact ⟨h0.lt.1 b c hn, by omega⟩
  | 1 => exact ⟨h0.lt.2 b c hn, by omega⟩
  | 2 => exact ⟨h1.lt.1 b c hn, by omega⟩
  | 3 => exact ⟨h1.lt.2 b c hn, by omega⟩
  | n + 4 => cases hn
 have hdead : ∀ n, ¬ Live heapG n := fun n ⟨o, ho, hl⟩ => by
  rcases heapG_get ho with ⟨_, rfl⟩ | ⟨_, rfl⟩ <;> cases hl
 refine ⟨fun n x hn => (hlt n x.1 x.2 hn).2, h0.rep e0 rfl rfl, h1.rep e1 rfl rfl, fun n b c o hn ho => ?_, fun n b c hn => (hlt n b c hn).1, fun n m b c c' _ _ l _ => absurd l (hdead n), fun n b c _ l => absurd l (hdead n), fun n b c o hn _ _ => (hlt n b c hn).1, KeptZ.refl W⟩
 rcases heapG_get ho with ⟨rfl, rfl⟩ | ⟨rfl, rfl⟩
 ·exact h0.obj e0 n0 hn
 ·exact h1.obj e1 n1 hn
end
def ghosts (a c n : List Int) (g : Nat) : List Int := match g with
 | 0 => a
 | 1 => c
 | 2 => n
 | _ => []
theorem ghosts_ok {a c n : List Int} (h0 : GhL a) (h1 : GhL c) (h2 : GhL n) : ∀ g, GhL (ghosts a c n g)
 | 0 => h0
 | 1 => h1
 | 2 => h2
 | _ + 3 => ⟨fun x hx => (by cases hx), Nat.zero_le _⟩
theorem ownE_cases (o n : List Int) : ownE o n = (0 : Nat) ∧ n.length ≤ 8 ∨ ownE o n = (7 : Nat) ∨ ownE o n = (17 : Nat) := by
 unfold ownE
 split
 ·exact .inr (.inl rfl)
 ·split
  ·exact .inl ⟨rfl, by omega⟩
  ·exact .inr (.inr rfl)
theorem owns_yes {a c : Lab} {W : World} {m n : Nat} (ha : a.at (viewOf W)) (qa : ArgOf W m a.slice a.l) (hc : c.at (viewOf W)) (qc : ArgOf W n c.slice c.l) (hA : Rising a.l ∧ a.l.length ≤ 8) (hC : c.l.length ≤ 40) :
  Calls Tryz.prog 4 #[a.slice, c.slice] W fun e w' => e = .returned (.bool true) ∧ Below W.heap.size W w' := by
 obtain ⟨p0, q0, g0⟩ := garg_of qa
 obtain ⟨p1, q1, g1⟩ := garg_of qc
 have hN := normL_ok c.l
 have hNn := hN.num hc.num
 have hNl := normL_len c.l
 have hG := ghosts_ok (a := a.l) (c := c.l) (n := normL c.l) ⟨ha.num, by omega⟩ ⟨hc.num, hC⟩ ⟨hNn, by omega⟩
 haveI := sigG_ok (up := []) (G := ghosts a.l c.l (normL c.l)) rising_nil (fun x hx => (by cases hx)) (Nat.zero_le _) hG
 have e0 : gtags (sigG [] (ghosts a.l c.l (normL c.l))) 0 = a.l := gtags_eq hG 0
 have e1 : gtags (sigG [] (ghosts a.l c.l (normL c.l))) 1 = c.l := gtags_eq hG 1
 have e2 : gtags (sigG [] (ghosts a.l c.l (normL c.l))) 2 = normL c.l := gtags_eq hG 2
 obtain ⟨hf, r0, r1, hw⟩ := startG g0 g1 e0 e1 ha.num hc.num
 have main : ∀ r : Nat, ownE a.l (normL c.l) = r → (r = 0 → (normL c.l).length ≤ 8) → ownsQ r = true → Calls Tryz.prog 4 #[a.slice, c.slice] W fun e w' => e = .returned (.bool true) ∧ KeptZ W w' := fun r hr h8 hq =>
  calls_of_run_at (envO_ok (σ := sigG [] (ghosts a.l c.l (normL c.l))) (r := r) ⟨by rw [e0]; exact hA, by rw [e0, e1]; exact hr, fun h => by rw [e1, e2]; exact ⟨rfl, h8 h⟩⟩) (d := 80) (v := .bool true) rfl (says_le (runV_le (E := envO r) stT 80 4 _ _ 4) hq) hf (.cons r0 (.cons r1 .nil)) hw
 have fin : Calls Tryz.prog 4 #[a.slice, c.slice] W fun e w' => e = .returned (.bool true) ∧ KeptZ W w' := by
  rcases ownE_cases a.l (normL c.l) with ⟨h, h8⟩ | h | h
  ·exact main 0 h (fun _ => h8) owns0
  ·exact main 7 h (fun e => by cases e) owns7
  ·exact main 17 h (fun e => by cases e) owns17
 exact fin.mono fun e W' ⟨he, hz⟩ => ⟨he, ⟨hz.os, hz.tape, hz.output, hz.size, hz.block⟩⟩
set_option maxHeartbeats 2000000 in
theorem owns_not1 {a c : Lab} {w : World} (h : a.at (viewOf w)) (hA : ¬ (Rising a.l ∧ a.l.length ≤ 8)) : Calls Tryz.prog 4 #[a.slice, c.slice] w fun e w' => e = .returned (.bool true) ∧ Below w.heap.size w w' := by
 have hb := (begun_calls w).mono (R' := fun e w1 => e = .returned (.bool true) ∧ Calls Tryz.prog 8 #[a.slice] w1 fun e w2 => e = .returned (.bool false) ∧ Aside (Below w.heap.size w w2)) fun e w1 ⟨he, hB1⟩ => ⟨he, (may_calls (p := false) (lab_below h hB1) (by simp only [Bool.false_eq_true, false_iff]; exact hA)).mono fun e w2 ⟨he, hB2⟩ => ⟨he, below_both hB1 hB2⟩⟩
 simp only [Lab.slice] at hb ⊢
 go_enter Tryz.func4, Tryz.ntmps4
 go_wp2_with (first
  | (go_at_call 7; refine hb.mono ?_; rintro e w1 ⟨rfl, h1⟩)
  | (go_at_call 8; refine h1.mono ?_; rintro e w2 ⟨rfl, h2⟩))
 go_ret
 exact ⟨rfl, h2.out⟩
set_option maxHeartbeats 2000000 in
theorem owns_not2 {a c : Lab} {w : World} (h : a.at (viewOf w)) (hA : Rising a.l ∧ a.l.length ≤ 8) (hC : 40 < c.l.length) : Calls Tryz.prog 4 #[a.slice, c.slice] w fun e w' => e = .returned (.bool true) ∧ Below w.heap.size w w' := by
 have hb := (begun_calls w).mono (R' := fun e w1 => e = .returned (.bool true) ∧ Calls Tryz.prog 8 #[a.slice] w1 fun e w2 => e = .returned (.bool true) ∧ Aside (Below w.heap.size w w2)) fun e w1 ⟨he, hB1⟩ => ⟨he, (may_calls (p := true) (lab_below h hB1) (by simp [hA])).mono fun e w2 ⟨he, hB2⟩ => ⟨he, below_both hB1 hB2⟩⟩
 obtain ⟨cb, cc, cl⟩ := c
 have hC : 40 < cl.length := hC
 have hC2 : decide ((40 : Int) < (cl.length : Int)) = true := decide_eq_true (by omega)
 simp only [Lab.slice] at hb ⊢
 go_enter Tryz.func4, Tryz.ntmps4
 go_wp2_with (first
  | (go_at_call 7; refine hb.mono ?_; rintro e w1 ⟨rfl, h1⟩)
  | (go_at_call 8; refine h1.mono ?_; rintro e w2 ⟨rfl, h2⟩))
 go_ret
 exact ⟨rfl, h2.out⟩
theorem owns_said {a c : Lab} {W : World} {m n : Nat} (ha : a.at (viewOf W)) (qa : ArgOf W m a.slice a.l) (hc : c.at (viewOf W)) (qc : ArgOf W n c.slice c.l) : Calls Tryz.prog 4 #[a.slice, c.slice] W fun e w' => e = .returned (.bool true) ∧ Below W.heap.size W w' := by
 by_cases hA : Rising a.l ∧ a.l.length ≤ 8
 ·by_cases hC : c.l.length ≤ 40
  ·exact owns_yes ha qa hc qc hA hC
  ·exact owns_not2 ha hA (by omega)
 ·exact owns_not1 ha hA
end Go.Z
end
