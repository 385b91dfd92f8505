/- One part of a proof: an evaluator of the model, shown right, and contracts that it yields. No condition beyond those that each theorem names. -/
import Derived.Test.YtijfpknflhdemaaGreatQA
section
set_option linter.unusedSimpArgs false
set_option linter.unusedVariables false
set_option linter.unusedSectionVars false
set_option linter.deprecated false
/-! # KeysBelow: where its runs begin -/
namespace Go.Z
open Go.X Go.RowKit Go.Proofs Go.Proofs.LB
set_option linter.unusedSectionVars false
set_option maxRecDepth 100000
noncomputable section

theorem reps {σ : Nat → Nat → Value} {ρ : Ren} : ∀ {A : List Value} {l : List Int}, RepTs σ A l → RepL σ ρ A (l.map (Value.int .u16))
  | _, _, .nil => .nil
  | _, _, .cons a r => by
    refine .cons ?_ (reps r)
    cases a with
    | lit _ => exact .plain rfl
    | @sym i t e _ =>
      have := Rep.sym (σ := σ) (ρ := ρ) (i := i) (j := 0) (by rw [e]; rfl)
      rwa [e] at this
theorem RepT.uniq {σ : Nat → Nat → Value} {x : Value} {a b : Int} (h : RepT σ x a) (k : RepT σ x b) : a = b := by
  cases h with
  | lit _ => cases k; rfl
  | sym e _ =>
    cases k with
    | sym e' _ => rw [e] at e'; cases e'; rfl
theorem RepTs.uniq {σ : Nat → Nat → Value} : ∀ {l : List Value} {a b : List Int}, RepTs σ l a → RepTs σ l b → a = b
  | _, _, _, .nil, .nil => rfl
  | _, _, _, .cons x r, .cons y s => by rw [x.uniq y, r.uniq s]

inductive ArgOf (W : World) : Nat → Value → List Int → Prop
  | nil : ArgOf W 0 (.slice none 0 0) []
  | some {b off cap : Nat} {cs : Array Value} {t : TypeId} {fr : Nat × Nat} {l : List Int} (h : W.heap[b]? = some (.cells cs t fr)) (hc : ∀ (i : Nat) (x : Int), l[i]? = some x → cs[off + i]? = some (.int .u16 x)) :
    ArgOf W (l.length + 1) (.slice (some ⟨b, off, none⟩) l.length cap) l

def ren4 (p0 p1 p2 p3 : Option (Nat × Nat)) : Ren := fun k => match k with
  | 0 => p0
  | 1 => p1
  | 2 => p2
  | 3 => p3
  | _ => none
theorem heapAB_get {A B : List Value} {n : Nat} {o : HO} (h : (heapAB A B).get n = some o) : (n = 1 ∧ o = .ro A) ∨ (n = 3 ∧ o = .ro B) := by
  unfold heapAB at h
  rcases Heap.ins_get h with h | ⟨_, h⟩
  · exact .inr h
  · rcases Heap.ins_get h with h | ⟨_, h⟩
    · exact .inl h
    · rw [Tr.get_nil] at h; cases h
theorem wi4 {σ : Nat → Nat → Value} {W : World} {A B : List Value} {p0 p1 p2 p3 : Option (Nat × Nat)} (h0 : ∀ b c, p0 = some (b, c) → b < W.heap.size) (h1 : ∀ b c, p1 = some (b, c) → b < W.heap.size ∧ ObjRel σ (ren4 p0 p1 p2 p3) W.heap[b]? c (.ro A))
    (h2 : ∀ b c, p2 = some (b, c) → b < W.heap.size) (h3 : ∀ b c, p3 = some (b, c) → b < W.heap.size ∧ ObjRel σ (ren4 p0 p1 p2 p3) W.heap[b]? c (.ro B)) : WI σ W (heapAB A B) (ren4 p0 p1 p2 p3) W ∧ Fresh (ren4 p0 p1 p2 p3) 4 := by
  have hlt : ∀ n b c, ren4 p0 p1 p2 p3 n = some (b, c) → b < W.heap.size ∧ n < 4 := fun n b c hn => by
    match n with
    | 0 => exact ⟨h0 b c hn, by omega⟩
    | 1 => exact ⟨(h1 b c hn).1, by omega⟩
    | 2 => exact ⟨h2 b c hn, by omega⟩
    | 3 => exact ⟨(h3 b c hn).1, by omega⟩
    | n + 4 => cases hn
  have hdead : ∀ n, ¬ Live (heapAB A B) n := fun n ⟨o, ho, hl⟩ => by
    rcases heapAB_get ho with ⟨_, rfl⟩ | ⟨_, rfl⟩ <;> cases hl
  refine ⟨⟨fun n b c o hn ho => ?_, fun n b c hn => (hlt n b c hn).1, fun n m b c c' _ _ l _ => absurd l (hdead n), fun n b c _ l => absurd l (hdead n), fun n b c l hn _ => (hlt n b c hn).1, KeptZ.refl W⟩, fun n x hn => (hlt n x.1 x.2 hn).2⟩
  rcases heapAB_get ho with ⟨rfl, rfl⟩ | ⟨rfl, rfl⟩
  · exact (h1 b c hn).2
  · exact (h3 b c hn).2
theorem ro_rel {σ : Nat → Nat → Value} {ρ : Ren} {W : World} {b off : Nat} {cs : Array Value} {t : TypeId} {fr : Nat × Nat} {A : List Value} {l : List Int} (h : W.heap[b]? = some (.cells cs t fr)) (hc : ∀ (i : Nat) (x : Int), l[i]? = some x → cs[off + i]? = some (.int .u16 x)) (hA : RepTs σ A l) :
    ObjRel σ ρ W.heap[b]? off (.ro A) := ⟨l.map (Value.int .u16), cs, t, fr, h, reps hA, fun i v hv => by
  rw [List.getElem?_map] at hv
  cases hx : l[i]? with
  | none => rw [hx] at hv; cases hv
  | some x => rw [hx] at hv; cases hv; exact hc i x hx⟩
theorem start {σ : Nat → Nat → Value} {W : World} {m n : Nat} {u v : Value} {a c : List Int} {A B : List Value} (ha : ArgOf W m u a) (hb : ArgOf W n v c) (hA : RepTs σ A a) (hB : RepTs σ B c) :
    ∃ ρ, Fresh ρ 4 ∧ Rep σ ρ (labV 0 m) u ∧ Rep σ ρ (labV 2 n) v ∧ WI σ W (heapAB A B) ρ W := by
  have lt : ∀ {b : Nat} {o : Obj}, W.heap[b]? = some o → b < W.heap.size := fun h => (Array.getElem?_eq_some_iff.1 h).1
  cases ha with
  | nil =>
    cases hb with
    | nil =>
      obtain ⟨h1, h2⟩ := wi4 (σ := σ) (W := W) (A := A) (B := B) (p0 := none) (p1 := none) (p2 := none) (p3 := none) (fun _ _ h => by cases h) (fun _ _ h => by cases h) (fun _ _ h => by cases h) (fun _ _ h => by cases h)
      exact ⟨_, h2, .plain rfl, .plain rfl, h1⟩
    | @some b off cap cs t fr _ h hc =>
      obtain ⟨h1, h2⟩ := wi4 (σ := σ) (W := W) (A := A) (B := B) (p0 := none) (p1 := none) (p2 := some (b, cap)) (p3 := some (b, off)) (fun _ _ h => by cases h) (fun _ _ h => by cases h) (fun _ _ e => by cases e; exact lt h) (fun _ _ e => by cases e; exact ⟨lt h, ro_rel h hc hB⟩)
      exact ⟨_, h2, .plain rfl, .fs rfl rfl, h1⟩
  | @some b off cap cs t fr _ h hc =>
    cases hb with
    | nil =>
      obtain ⟨h1, h2⟩ := wi4 (σ := σ) (W := W) (A := A) (B := B) (p0 := some (b, cap)) (p1 := some (b, off)) (p2 := none) (p3 := none) (fun _ _ e => by cases e; exact lt h) (fun _ _ e => by cases e; exact ⟨lt h, ro_rel h hc hA⟩) (fun _ _ h => by cases h) (fun _ _ h => by cases h)
      exact ⟨_, h2, .fs rfl rfl, .plain rfl, h1⟩
    | @some b' off' cap' cs' t' fr' _ h' hc' =>
      obtain ⟨h1, h2⟩ := wi4 (σ := σ) (W := W) (A := A) (B := B) (p0 := some (b, cap)) (p1 := some (b, off)) (p2 := some (b', cap')) (p3 := some (b', off')) (fun _ _ e => by cases e; exact lt h) (fun _ _ e => by cases e; exact ⟨lt h, ro_rel h hc hA⟩) (fun _ _ e => by cases e; exact lt h') (fun _ _ e => by cases e; exact ⟨lt h', ro_rel h' hc' hB⟩)
      exact ⟨_, h2, .fs rfl rfl, .fs rfl rfl, h1⟩
theorem tabOf_ok {σ : Nat → Nat → Value} {A B : List Value} {a c : List Int} {r : Bool × Int} (hA : RepTs σ A a) (hB : RepTs σ B c) (h1 : r.1 = true ↔ ∀ t ∈ a, t ∈ c) (h2 : r.2 = cmpA a c) : TabOk σ (tabOf A B r) := ⟨fun x y r' hr a' c' ha hc => by
  unfold tabOf at hr
  split at hr
  · rename_i he
    rw [Bool.and_eq_true] at he
    have e1 := eqL_sound _ _ he.1
    have e2 := eqL_sound _ _ he.2
    subst e1; subst e2
    cases hr
    rw [ha.uniq hA, hc.uniq hB]
    exact ⟨h1, h2⟩
  · cases hr⟩
/-- out of a run -/
theorem below_of {σ : Nat → Nat → Value} [SigOk σ] {tab : Tab} (ht : TabOk σ tab) {A B : List Value} {m n : Nat} (hq : belowQ tab A B m n = true) {W : World} {u v : Value} {a c : List Int} (ha : ArgOf W m u a) (hb : ArgOf W n v c) (hA : RepTs σ A a) (hB : RepTs σ B c) {k : Int} (hk : σ 784 4 = .int .i64 k) :
    Calls Tryz.prog 3 #[u, v, .int .i64 k] W fun e W' => e = .returned (.bool true) ∧ KeptZ W W' := by
  obtain ⟨ρ, hf, r1, r2, hw⟩ := start ha hb hA hB
  have r3 : Rep σ ρ keyS (.int .i64 k) := by
    have := Rep.sym (σ := σ) (ρ := ρ) (i := 784) (j := 4) (by rw [hk]; rfl)
    rwa [hk] at this
  exact calls_of_run_at (envK_ok ht) (d := 60) (v := .bool true) rfl (says_le (runF_le 60 3 _ _ 4) hq) hf (.cons r1 (.cons r2 (.cons r3 .nil))) hw
end
end Go.Z
end

section
set_option linter.unusedSimpArgs false
set_option linter.unusedVariables false
set_option linter.unusedSectionVars false
set_option linter.deprecated false
/-! # KeysBelow: the symbols, the cases -/
namespace Go.Z
open Go.X Go.RowKit Go.Proofs Go.Proofs.LB
set_option linter.unusedSectionVars false
set_option maxRecDepth 100000
noncomputable section

theorem rising_lt {l : List Int} (h : Rising l) : ∀ (d i : Nat) (x y : Int), l[i]? = some x → l[i + d + 1]? = some y → x < y
  | 0, i, x, y, hx, hy => h i x y hx hy
  | d + 1, i, x, y, hx, hy => by
    have hlt : i + d + 1 < l.length := by have := (List.getElem?_eq_some_iff.1 hy).1; omega
    have h1 := rising_lt h d i x _ hx (List.getElem?_eq_getElem hlt)
    have h2 := h (i + d + 1) _ y (List.getElem?_eq_getElem hlt) hy
    omega
structure Tags (l : List Int) : Prop where
  rise : Rising l
  num : ∀ x ∈ l, 0 ≤ x ∧ x < 65536
  len : l.length ≤ 8

def tagAt (l : List Int) (i : Nat) : Nat := (l.getD i 0).toNat
theorem tagAt_eq {l : List Int} (h : Tags l) {i : Nat} {x : Int} (hx : l[i]? = some x) : (tagAt l i : Int) = x := by
  have := (h.num x (List.mem_of_getElem? hx)).1
  unfold tagAt
  rw [List.getD_eq_getElem?_getD, hx]
  simp
  omega
theorem tagAt_lt {l : List Int} (h : Tags l) (i : Nat) : tagAt l i < 65536 := by
  cases hx : l[i]? with
  | none => unfold tagAt; rw [List.getD_eq_getElem?_getD, hx]; simp
  | some x =>
    have h1 := tagAt_eq h hx
    have := (h.num x (List.mem_of_getElem? hx)).2
    omega
theorem tagAt_rise {l : List Int} (h : Tags l) {i j : Nat} (hij : i < j) (hj : j < l.length) : tagAt l i < tagAt l j := by
  have h1 := List.getElem?_eq_getElem (show i < l.length by omega)
  have h2 := List.getElem?_eq_getElem hj
  have e1 := tagAt_eq h h1
  have e2 := tagAt_eq h h2
  obtain ⟨d, rfl⟩ : ∃ d, j = i + d + 1 := ⟨j - i - 1, by omega⟩
  have := rising_lt h.rise d i _ _ h1 h2
  omega

def Tof (a c : List Int) (i : Nat) : Nat := if i / 16 = 16 + a.length then tagAt a (i % 16) else if i / 16 = 32 + c.length then tagAt c (i % 16) else i % 16
def Kof (k : Int) (i : Nat) : Int := if i = 784 then k else (i % 16 : Nat)
def sigOf (a c : List Int) (k : Int) (i j : Nat) : Value := sval (Tof a c i) (Kof k i) j
theorem sigOf_ok {a c : List Int} {k : Int} (ha : Tags a) (hc : Tags c) (hk : -9223372036854775808 ≤ k ∧ k < 9223372036854775808) : SigOk (sigOf a c k) := ⟨Tof a c, Kof k, fun i => by
    unfold Tof
    split
    · exact tagAt_lt ha _
    · split
      · exact tagAt_lt hc _
      · omega, fun i => by
    unfold Kof
    split
    · exact hk
    · omega, fun _ _ => rfl, fun i j h1 h2 h3 => by
    have hla := ha.len
    have hlc := hc.len
    constructor
    · unfold Tof
      rw [← h1]
      split
      · exact tagAt_rise ha h2 (by omega)
      · split
        · exact tagAt_rise hc h2 (by omega)
        · exact h2
    · unfold Kof
      rw [if_neg (by omega), if_neg (by omega)]
      omega, fun i h h2 => by
    have e1 : Kof k i = ((i % 16 : Nat) : Int) := by unfold Kof; rw [if_neg (by omega)]
    have e2 : Kof k (mate i) = ((mate i % 16 : Nat) : Int) := by
      unfold Kof
      rw [if_neg]
      unfold mate
      split <;> omega
    rw [e1, e2]
    unfold mate xor1
    split <;> split <;> omega⟩

theorem symL_reps {σ : Nat → Nat → Value} {g : Nat} : ∀ (l : List Int) (p : Nat), (∀ (j : Nat) (x : Int), l[j]? = some x → σ (g * 16 + (p + j)) 0 = .int .u16 x ∧ 0 ≤ x ∧ x < 65536) → RepTs σ (symL g l.length p) l
  | [], _, _ => .nil
  | x :: l, p, h => by
    refine .cons ?_ (symL_reps l (p + 1) fun j y hj => ?_)
    · obtain ⟨h1, h2⟩ := h 0 x rfl
      exact .sym h1 h2
    · have := h (j + 1) y (by simpa using hj)
      rwa [show p + (j + 1) = p + 1 + j by omega] at this
theorem repA {a c : List Int} {k : Int} (ha : Tags a) : RepTs (sigOf a c k) (symL (16 + a.length) a.length 0) a := by
  refine symL_reps a 0 fun j x hj => ?_
  have hlt := (List.getElem?_eq_some_iff.1 hj).1
  have hla := ha.len
  refine ⟨?_, ha.num x (List.mem_of_getElem? hj)⟩
  show sval (Tof a c _) _ 0 = _
  have : Tof a c ((16 + a.length) * 16 + (0 + j)) = tagAt a j := by
    unfold Tof
    rw [if_pos (by omega)]
    congr 1
    omega
  rw [this]
  show Value.int .u16 (tagAt a j : Nat) = _
  rw [tagAt_eq ha hj]
theorem repB {a c : List Int} {k : Int} (ha : Tags a) (hc : Tags c) : RepTs (sigOf a c k) (symL (32 + c.length) c.length 0) c := by
  refine symL_reps c 0 fun j x hj => ?_
  have hlt := (List.getElem?_eq_some_iff.1 hj).1
  have hla := ha.len
  have hlc := hc.len
  refine ⟨?_, hc.num x (List.mem_of_getElem? hj)⟩
  show sval (Tof a c _) _ 0 = _
  have : Tof a c ((32 + c.length) * 16 + (0 + j)) = tagAt c j := by
    unfold Tof
    rw [if_neg (by omega), if_pos (by omega)]
    congr 1
    omega
  rw [this]
  show Value.int .u16 (tagAt c j : Nat) = _
  rw [tagAt_eq hc hj]
theorem keyS_eq (a c : List Int) (k : Int) : sigOf a c k 784 4 = .int .i64 k := rfl

/-! ## rising lists -/
theorem rising_tail {x : Int} {l : List Int} (h : Rising (x :: l)) : Rising l := fun i u v hu hv => h (i + 1) u v (by simpa using hu) (by simpa using hv)
theorem rising_head {x : Int} {l : List Int} (h : Rising (x :: l)) : ∀ y ∈ l, x < y := fun y hy => by
  obtain ⟨j, hj⟩ := List.mem_iff_getElem?.1 hy
  exact rising_lt h j 0 x y rfl (by simpa using hj)
theorem rise_sub : ∀ {a c : List Int}, Rising a → Rising c → (∀ x ∈ a, x ∈ c) → a.length ≤ c.length ∧ (a.length = c.length → a = c)
  | [], c, _, _, _ => ⟨Nat.zero_le _, fun h => (List.eq_nil_of_length_eq_zero h.symm).symm⟩
  | x :: a, [], _, _, h => absurd (h x (by simp)) (by simp)
  | x :: a, y :: c, ha, hc, h => by
    by_cases hxy : x = y
    · subst hxy
      have h1 := rise_sub (rising_tail ha) (rising_tail hc) fun z hz => by
        rcases List.mem_cons.1 (h z (by simp [hz])) with e | e
        · have := rising_head ha z hz; omega
        · exact e
      exact ⟨by simpa using h1.1, fun e => by rw [h1.2 (by simpa using e)]⟩
    · have hx : x ∈ c := by
        rcases List.mem_cons.1 (h x (by simp)) with e | e
        · exact absurd e hxy
        · exact e
      have hyx := rising_head hc x hx
      have h1 := rise_sub (a := x :: a) ha (rising_tail hc) fun z hz => by
        rcases List.mem_cons.1 (h z hz) with e | e
        · rcases List.mem_cons.1 hz with e2 | e2
          · omega
          · have := rising_head ha z e2; omega
        · exact e
      simp only [List.length_cons] at h1 ⊢
      exact ⟨by omega, fun e => by omega⟩
termination_by a c => a.length + c.length
theorem lex_zero : ∀ {a c : List Int}, a.length = c.length → lexS a c = 0 → a = c
  | [], [], _, _ => rfl
  | [], _ :: _, h, _ => by cases h
  | _ :: _, [], h, _ => by cases h
  | x :: a, y :: c, h, h0 => by
    rw [lexS] at h0
    split at h0
    · cases h0
    · split at h0
      · cases h0
      · rw [lex_zero (by simpa using h) h0, show x = y by omega]
theorem lex_range : ∀ (a c : List Int), lexS a c = -1 ∨ lexS a c = 0 ∨ lexS a c = 1
  | [], [] => .inr (.inl rfl)
  | [], _ :: _ => .inl rfl
  | _ :: _, [] => .inr (.inr rfl)
  | x :: a, y :: c => by
    rw [lexS]
    split
    · exact .inl rfl
    · split
      · exact .inr (.inr rfl)
      · exact lex_range a c
end
end Go.Z
end
