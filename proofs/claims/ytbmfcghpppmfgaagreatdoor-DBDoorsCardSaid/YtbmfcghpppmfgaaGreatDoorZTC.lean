/- One part of a proof: an evaluator of the model, shown right, and contracts that it yields. No condition beyond those that each theorem names. -/
import Derived.Test.YtbmfcghpppmfgaaGreatDoorZEA
section
set_option linter.unusedSimpArgs false
set_option linter.unusedVariables false
set_option linter.unusedSectionVars false
set_option linter.deprecated false
namespace Go.Z
open Go.X Go.RowKit Go.Proofs Go.Proofs.LB
set_option linter.unusedSectionVars false
set_option linter.unusedVariables false
set_option maxRecDepth 100000
noncomputable section
def symL (g : Nat) : Nat → Nat → List Value
 | 0, _ => []
 | n + 1, p => .complex .f64 (g * 16 + p) 0 :: symL g n (p + 1)
/-- lengths: 0 is nil -/
def labV (n : Nat) : Nat → Value
 | 0 => .slice none 0 0
 | m + 1 => .complex .f32 n m
def cellsA (m : Nat) : List Value := symL (16 + (m - 1)) (m - 1) 0
def heapA (A : List Value) : Heap := Tr.ins .nil 1 (some (.ro A))
theorem reps {σ : Nat → Nat → Value} {ρ : Ren} : ∀ {A : List Value} {l : List Int}, RepTs σ A l → RepL σ ρ A (l.map (Value.int .u16))
 | _, _, .nil => .nil
 | _, _, .cons a r => by
  refine .cons ?_ (reps r)
  cases a with
  | lit _ => exact .plain rfl
  | @sym i t e _ =>
   have := Rep.sym (σ := σ) (ρ := ρ) (i := i) (j := 0) (by rw [e]; rfl)
   rwa [e] at this
inductive ArgOf (W : World) : Nat → Value → List Int → Prop
 | nil : ArgOf W 0 (.slice none 0 0) []
 | some {b off cap : Nat} {cs : Array Value} {t : TypeId} {fr : Nat × Nat} {l : List Int} (h : W.heap[b]? = some (.cells cs t fr)) (hc : ∀ (i : Nat) (x : Int), l[i]? = some x → cs[off + i]? = some (.int .u16 x)) :
  ArgOf W (l.length + 1) (.slice (some ⟨b, off, none⟩) l.length cap) l
def ren2 (p0 p1 : Option (Nat × Nat)) : Ren := fun k => match k with
 | 0 => p0
 | 1 => p1
 | _ => none
theorem heapA_get {A : List Value} {n : Nat} {o : HO} (h : (heapA A).get n = some o) : n = 1 ∧ o = .ro A := by
 unfold heapA at h
 rcases Heap.ins_get h with h | ⟨_, h⟩
 ·exact h
 ·rw [Tr.get_nil] at h; cases h
theorem wi2 {σ : Nat → Nat → Value} {W : World} {A : List Value} {p0 p1 : Option (Nat × Nat)} (h0 : ∀ b c, p0 = some (b, c) → b < W.heap.size) (h1 : ∀ b c, p1 = some (b, c) → b < W.heap.size ∧ ObjRel σ (ren2 p0 p1) W.heap[b]? c (.ro A)) : WI σ W (heapA A) (ren2 p0 p1) W ∧ Fresh (ren2 p0 p1) 2 := by
 have hlt : ∀ n b c, ren2 p0 p1 n = some (b, c) → b < W.heap.size ∧ n < 2 := fun n b c hn => by
  match n with
  | 0 => exact ⟨h0 b c hn, by omega⟩
  | 1 => exact ⟨(h1 b c hn).1, by omega⟩
  | n + 2 => cases hn
 have hdead : ∀ n, ¬ Live (heapA A) n := fun n ⟨o, ho, hl⟩ => by
  obtain ⟨_, rfl⟩ := heapA_get ho
  cases hl
 refine ⟨⟨fun n b c o hn ho => ?_, fun n b c hn => (hlt n b c hn).1, fun n m b c c' _ _ l _ => absurd l (hdead n), fun n b c _ l => absurd l (hdead n), fun n b c l hn _ => (hlt n b c hn).1, KeptZ.refl W⟩, fun n x hn => (hlt n x.1 x.2 hn).2⟩
 obtain ⟨rfl, rfl⟩ := heapA_get ho
 exact (h1 b c hn).2
theorem ro_rel {σ : Nat → Nat → Value} {ρ : Ren} {W : World} {b off : Nat} {cs : Array Value} {t : TypeId} {fr : Nat × Nat} {A : List Value} {l : List Int} (h : W.heap[b]? = some (.cells cs t fr)) (hc : ∀ (i : Nat) (x : Int), l[i]? = some x → cs[off + i]? = some (.int .u16 x)) (hA : RepTs σ A l) :
  ObjRel σ ρ W.heap[b]? off (.ro A) := ⟨l.map (Value.int .u16), cs, t, fr, h, reps hA, fun i v hv => by
 rw [List.getElem?_map] at hv
 cases hx : l[i]? with
 | none => rw [hx] at hv; cases hv
 | some x => rw [hx] at hv; cases hv; exact hc i x hx⟩
theorem rising_lt {l : List Int} (h : Rising l) : ∀ (d i : Nat) (x y : Int), l[i]? = some x → l[i + d + 1]? = some y → x < y
 | 0, i, x, y, hx, hy => h i x y hx hy
 | d + 1, i, x, y, hx, hy => by
  have hlt : i + d + 1 < l.length := by have := (List.getElem?_eq_some_iff.1 hy).1; omega
  have h1 := rising_lt h d i x _ hx (List.getElem?_eq_getElem hlt)
  have h2 := h (i + d + 1) _ y (List.getElem?_eq_getElem hlt) hy
  omega
structure Tags (l : List Int) : Prop where
 rise : Rising l
 num : ∀ x ∈ l, 0 ≤ x ∧ x < 65536
 len : l.length ≤ 8
def tagAt (l : List Int) (i : Nat) : Nat := (l.getD i 0).toNat
theorem tagAt_eq {l : List Int} (h : Tags l) {i : Nat} {x : Int} (hx : l[i]? = some x) : (tagAt l i : Int) = x := by
 have := (h.num x (List.mem_of_getElem? hx)).1
 unfold tagAt
 rw [List.getD_eq_getElem?_getD, hx]
 simp
 omega
theorem tagAt_lt {l : List Int} (h : Tags l) (i : Nat) : tagAt l i < 65536 := by
 cases hx : l[i]? with
 | none => unfold tagAt; rw [List.getD_eq_getElem?_getD, hx]; simp
 | some x =>
  have h1 := tagAt_eq h hx
  have := (h.num x (List.mem_of_getElem? hx)).2
  omega
theorem tagAt_rise {l : List Int} (h : Tags l) {i j : Nat} (hij : i < j) (hj : j < l.length) : tagAt l i < tagAt l j := by
 have h1 := List.getElem?_eq_getElem (show i < l.length by omega)
 have h2 := List.getElem?_eq_getElem hj
 have e1 := tagAt_eq h h1
 have e2 := tagAt_eq h h2
 obtain ⟨d, rfl⟩ : ∃ d, j = i + d + 1 := ⟨j - i - 1, by omega⟩
 have := rising_lt h.rise d i _ _ h1 h2
 omega
def Tof (a c : List Int) (i : Nat) : Nat := if i / 16 = 16 + a.length then tagAt a (i % 16) else if i / 16 = 32 + c.length then tagAt c (i % 16) else i % 16
def Kof (k : Int) (i : Nat) : Int := if i = 784 then k else (i % 16 : Nat)
def sigOf (a c : List Int) (k : Int) (i j : Nat) : Value := sval (Tof a c i) (Kof k i) j
theorem sigOf_ok {a c : List Int} {k : Int} (ha : Tags a) (hc : Tags c) (hk : -9223372036854775808 ≤ k ∧ k < 9223372036854775808) : SigOk (sigOf a c k) := ⟨Tof a c, Kof k, fun i => by
  unfold Tof
  split
  ·exact tagAt_lt ha _
  ·split
   ·exact tagAt_lt hc _
   ·omega, fun i => by
  unfold Kof
  split
  ·exact hk
  ·omega, fun _ _ => rfl, fun i j h1 h2 h3 => by
  have hla := ha.len
  have hlc := hc.len
  constructor
  ·unfold Tof
   rw [← h1]
   split
   ·exact tagAt_rise ha h2 (by omega)
   ·split
    ·exact tagAt_rise hc h2 (by omega)
    ·exact h2
  ·unfold Kof
   rw [if_neg (by omega), if_neg (by omega)]
   omega, fun i h h2 => by
  have e1 : Kof k i = ((i % 16 : Nat) : Int) := by unfold Kof; rw [if_neg (by omega)]
  have e2 : Kof k (mate i) = ((mate i % 16 : Nat) : Int) := by
   unfold Kof
   rw [if_neg]
   unfold mate
   split <;> omega
  rw [e1, e2]
  unfold mate xor1
  split <;> split <;> omega⟩
theorem symL_reps {σ : Nat → Nat → Value} {g : Nat} : ∀ (l : List Int) (p : Nat), (∀ (j : Nat) (x : Int), l[j]? = some x → σ (g * 16 + (p + j)) 0 = .int .u16 x ∧ 0 ≤ x ∧ x < 65536) → RepTs σ (symL g l.length p) l
 | [], _, _ => .nil
 | x :: l, p, h => by
  refine .cons ?_ (symL_reps l (p + 1) fun j y hj => ?_)
  ·obtain ⟨h1, h2⟩ := h 0 x rfl
   exact .sym h1 h2
  ·have := h (j + 1) y (by simpa using hj)
   rwa [show p + (j + 1) = p + 1 + j by omega] at this
theorem start1 {σ : Nat → Nat → Value} {W : World} {m : Nat} {u : Value} {a : List Int} {A : List Value} (ha : ArgOf W m u a) (hA : RepTs σ A a) :
  ∃ ρ, Fresh ρ 2 ∧ Rep σ ρ (labV 0 m) u ∧ WI σ W (heapA A) ρ W := by
 have lt : ∀ {b : Nat} {o : Obj}, W.heap[b]? = some o → b < W.heap.size := fun h => (Array.getElem?_eq_some_iff.1 h).1
 cases ha with
 | nil =>
  obtain ⟨h1, h2⟩ := wi2 (σ := σ) (W := W) (A := A) (p0 := none) (p1 := none) (fun _ _ h => by cases h) (fun _ _ h => by cases h)
  exact ⟨_, h2, .plain rfl, h1⟩
 | @some b off cap cs t fr _ h hc =>
  obtain ⟨h1, h2⟩ := wi2 (σ := σ) (W := W) (A := A) (p0 := some (b, cap)) (p1 := some (b, off)) (fun _ _ e => by cases e; exact lt h) (fun _ _ e => by cases e; exact ⟨lt h, ro_rel h hc hA⟩)
  exact ⟨_, h2, .fs rfl rfl, h1⟩
theorem ArgOf.len' {W : World} {m : Nat} {v : Value} {l : List Int} (h : ArgOf W m v l) : m - 1 = l.length ∧ (m = 0 → l = []) := by
 cases h with
 | nil => exact ⟨rfl, fun _ => rfl⟩
 | some _ _ => exact ⟨rfl, fun e => by cases e⟩
theorem tags_nil : Tags [] := by
 refine ⟨fun i x y h => ?_, fun x h => ?_, Nat.zero_le _⟩
 ·simp at h
 ·simp at h
end
end Go.Z
end
