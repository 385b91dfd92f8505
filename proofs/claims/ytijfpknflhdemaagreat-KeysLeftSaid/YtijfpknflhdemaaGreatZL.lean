/- One part of a proof: an evaluator of the model, shown right, and contracts that it yields. No condition beyond those that each theorem names. -/
import Derived.Test.YtijfpknflhdemaaGreatQC
import Derived.Test.YtijfpknflhdemaaGreatZI
section
set_option linter.unusedSimpArgs false
set_option linter.unusedVariables false
set_option linter.unusedSectionVars false
set_option linter.deprecated false
/-! # KeysLeft: its environment, its symbols -/
namespace Go.Z
open Go.X Go.RowKit Go.Proofs Go.Proofs.LB
set_option linter.unusedSectionVars false
set_option linter.unusedVariables false
set_option maxRecDepth 100000
noncomputable section
/-- functions that have been looked at -/
def mk0 : Nat := 411376139328699704715654626114185566299702401920765045029994492
set_option maxHeartbeats 0 in
theorem st0 : allSt Tryz.prog mk0 = true := by kernel_rfl
def insP (h : Heap) (nx : Nat) (args : List Value) : Option (List Out) := match insZ 65 h nx args with
  | some l => some l
  | none => (match runV (envB tab0) mk0 20 40 args h nx with | .ok l => some l | .no _ => none)
def primLf (tab : Tab) (f : FuncId) : Option Prim := match f with
  | 40 => some insP
  | f => primK tab f
@[reducible] def envL (tab : Tab) : Env := { P := Tryz.prog, ext := extK, prim := primLf tab }
section
variable {σ : Nat → Nat → Value} [SigOk σ]
theorem insP_ok : CallOk Tryz.prog σ (fun g' args h nx => if g' = 40 then (match insP h nx args with | some l => .ok l | none => .no []) else .no []) := by
  intro w0 g args h nx outs ho ρ vs w hfr ha hw
  dsimp only at ho
  split at ho
  case isFalse => cases ho
  rename_i hg
  subst hg
  unfold insP at ho
  split at ho
  case h_2 => cases ho
  rename_i l hl
  cases ho
  split at hl
  · rename_i l' hz
    cases hl
    exact insZ_sound (P := Tryz.prog) (f := 40) (e := 65) (zv := .pointer none) (by' := 8) ins40_shift ins40_grow rfl (by omega) hz hfr ha hw
  · split at hl
    · rename_i l' hr
      cases hl
      exact run_sound (envB_ok (σ := σ) tab0_ok) 20 w0 40 args h nx _ (runV_le (E := envB tab0) st0 20 40 args h nx _ hr) ρ vs w hfr ha hw
    · cases hl
theorem primLf_ok {tab : Tab} (ht : TabOk σ tab) (g : FuncId) (f : Prim) (hg : primLf tab g = some f) : CallOk Tryz.prog σ (fun g' args h nx => if g' = g then (match f h nx args with | some l => .ok l | none => .no []) else .no []) := by
  unfold primLf at hg
  split at hg
  · cases hg; exact insP_ok
  · exact primK_ok ht _ f hg
theorem envL_ok {tab : Tab} (ht : TabOk σ tab) : EnvOk (envL tab) σ := ⟨ext_ok, primLf_ok ht, LB.mixed⟩
end

/-! ## the number k and its neighbour, the tags -/
def KofL (k : Int) (i : Nat) : Int := if i = 3872 then k - k % 2 else if i = 3873 then k - k % 2 + 1 else (i % 16 : Nat)
def sigL (a c : List Int) (k : Int) (i j : Nat) : Value := sval (Tof a c i) (KofL k i) j
theorem sigL_ok {a c : List Int} {k : Int} (ha : Tags a) (hc : Tags c) (hk : -9223372036854775808 ≤ k ∧ k < 9223372036854775808) : SigOk (sigL a c k) := ⟨Tof a c, KofL k, fun i => by
    unfold Tof
    split
    · exact tagAt_lt ha _
    · split
      · exact tagAt_lt hc _
      · omega, fun i => by
    unfold KofL
    split
    · omega
    · split
      · omega
      · omega, fun _ _ => rfl, fun i j h1 h2 h3 => by
    have hla := ha.len
    have hlc := hc.len
    constructor
    · unfold Tof
      rw [← h1]
      split
      · exact tagAt_rise ha h2 (by omega)
      · split
        · exact tagAt_rise hc h2 (by omega)
        · exact h2
    · unfold KofL
      by_cases e1 : i = 3872
      · subst e1
        obtain rfl : j = 3873 := by omega
        simp
        omega
      · rw [if_neg e1]
        by_cases e2 : i = 3873
        · subst e2; omega
        · rw [if_neg e2]
          by_cases e3 : j = 3872
          · subst e3; omega
          · rw [if_neg e3]
            by_cases e4 : j = 3873
            · subst e4; omega
            · rw [if_neg e4]; omega, fun i h h2 => by
    unfold KofL mate xor1
    by_cases e1 : i = 3872
    · subst e1
      simp
      try omega
    · by_cases e2 : i = 3873
      · subst e2
        simp
        try omega
      · rw [if_neg e1, if_neg e2]
        have hm : (if i % 2 = 0 then i + 1 else i - 1) % 16 = (if i % 2 = 0 then i % 16 + 1 else i % 16 - 1) := by split <;> omega
        rw [if_neg (by split <;> omega), if_neg (by split <;> omega), hm]
        split <;> split <;> omega⟩
theorem repAL {a c : List Int} {k : Int} (ha : Tags a) : RepTs (sigL a c k) (symL (16 + a.length) a.length 0) a := by
  refine symL_reps a 0 fun j x hj => ?_
  have hlt := (List.getElem?_eq_some_iff.1 hj).1
  have hla := ha.len
  refine ⟨?_, ha.num x (List.mem_of_getElem? hj)⟩
  show sval (Tof a c _) _ 0 = _
  have : Tof a c ((16 + a.length) * 16 + (0 + j)) = tagAt a j := by
    unfold Tof
    rw [if_pos (by omega)]
    congr 1
    omega
  rw [this]
  show Value.int .u16 (tagAt a j : Nat) = _
  rw [tagAt_eq ha hj]
theorem repBL {a c : List Int} {k : Int} (ha : Tags a) (hc : Tags c) : RepTs (sigL a c k) (symL (32 + c.length) c.length 0) c := by
  refine symL_reps c 0 fun j x hj => ?_
  have hlt := (List.getElem?_eq_some_iff.1 hj).1
  have hla := ha.len
  have hlc := hc.len
  refine ⟨?_, hc.num x (List.mem_of_getElem? hj)⟩
  show sval (Tof a c _) _ 0 = _
  have : Tof a c ((32 + c.length) * 16 + (0 + j)) = tagAt c j := by
    unfold Tof
    rw [if_neg (by omega), if_pos (by omega)]
    congr 1
    omega
  rw [this]
  show Value.int .u16 (tagAt c j : Nat) = _
  rw [tagAt_eq hc hj]
/-- k's place of the two -/
def kAt (k : Int) : Nat := (k % 2).toNat
theorem kAt_lt (k : Int) : kAt k < 2 := by unfold kAt; omega
theorem kAt_eq (a c : List Int) (k : Int) : sigL a c k (3872 + kAt k) 4 = .int .i64 k := by
  show Value.int .i64 (KofL k (3872 + kAt k)) = _
  congr 1
  unfold KofL kAt
  have : k % 2 = 0 ∨ k % 2 = 1 := by omega
  rcases this with h | h
  · rw [h]; simp
  · rw [h]; simp

theorem lexS_self : ∀ l : List Int, lexS l l = 0
  | [] => rfl
  | x :: l => by rw [lexS, if_neg (by omega), if_neg (by omega)]; exact lexS_self l
/-- KeysLeft at labels of these lengths -/
def leftQ (tab : Tab) (A B : List Value) (la lb kk : Nat) (below own above : Bool) : Bool := says (runV (envL tab) mk0 60 4 [labV 0 la, labV 2 lb, .complex .f64 (3872 + kk) 4, .bool below, .bool own, .bool above] (heapAB A B) 4) (.bool true)
/-- the first label lies below the other one -/
def tab2 (A B : List Value) : Tab := fun x y => match eqL x A && eqL y B with
  | true => some (true, -1)
  | false => (match eqL x B && eqL y A with
    | true => some (false, 1)
    | false => none)
theorem tab2_ok {σ : Nat → Nat → Value} {A B : List Value} {a c : List Int} (hA : RepTs σ A a) (hB : RepTs σ B c) (h1 : ∀ t ∈ a, t ∈ c) (h2 : cmpA a c = -1) (h3 : ¬ ∀ t ∈ c, t ∈ a) (h4 : cmpA c a = 1) : TabOk σ (tab2 A B) := ⟨fun x y r hr a' c' ha hc => by
  unfold tab2 at hr
  split at hr
  · rename_i he
    rw [Bool.and_eq_true] at he
    have e1 := eqL_sound _ _ he.1
    have e2 := eqL_sound _ _ he.2
    subst e1; subst e2
    cases hr
    rw [ha.uniq hA, hc.uniq hB]
    exact ⟨⟨fun _ => h1, fun _ => rfl⟩, h2.symm⟩
  · split at hr
    · rename_i he
      rw [Bool.and_eq_true] at he
      have e1 := eqL_sound _ _ he.1
      have e2 := eqL_sound _ _ he.2
      subst e1; subst e2
      cases hr
      rw [ha.uniq hB, hc.uniq hA]
      exact ⟨⟨fun e => by (cases e), fun e => absurd e h3⟩, h4.symm⟩
    · cases hr⟩
/-- .. -/
def leftM (m n kk : Nat) (below own above : Bool) : Bool := leftQ (tab2 (cellsA m) (cellsB n)) (cellsA m) (cellsB n) m n kk below own above
def left4 (m n kk : Nat) (above : Bool) : Bool := leftM m n kk false false above && leftM m n kk false true above && leftM m n kk true false above && leftM m n kk true true above
theorem left4_get {m n kk : Nat} {above : Bool} (h : left4 m n kk above = true) (below own : Bool) : leftM m n kk below own above = true := by
  unfold left4 at h
  simp only [Bool.and_eq_true] at h
  cases below <;> cases own
  · exact h.1.1.1
  · exact h.1.1.2
  · exact h.1.2
  · exact h.2
/-- out of a run -/
theorem left_of {σ : Nat → Nat → Value} [SigOk σ] {tab : Tab} (ht : TabOk σ tab) {A B : List Value} {m n kk : Nat} {below own above : Bool} (hq : leftQ tab A B m n kk below own above = true) {W : World} {u v : Value} {a c : List Int} (ha : ArgOf W m u a) (hb : ArgOf W n v c) (hA : RepTs σ A a) (hB : RepTs σ B c) {k : Int} (hk : σ (3872 + kk) 4 = .int .i64 k) :
    Calls Tryz.prog 4 #[u, v, .int .i64 k, .bool below, .bool own, .bool above] W fun e W' => e = .returned (.bool true) ∧ KeptZ W W' := by
  obtain ⟨ρ, hf, r1, r2, hw⟩ := start ha hb hA hB
  have r3 : Rep σ ρ (.complex .f64 (3872 + kk) 4) (.int .i64 k) := by
    have := Rep.sym (σ := σ) (ρ := ρ) (i := 3872 + kk) (j := 4) (by rw [hk]; rfl)
    rwa [hk] at this
  exact calls_of_run_at (envL_ok ht) (d := 60) (v := .bool true) rfl (says_le (runV_le (E := envL tab) st0 60 4 _ _ 4) hq) hf (.cons r1 (.cons r2 (.cons r3 (.cons (.plain rfl) (.cons (.plain rfl) (.cons (.plain rfl) .nil)))))) hw
theorem ArgOf.len' {W : World} {m : Nat} {v : Value} {l : List Int} (h : ArgOf W m v l) : m - 1 = l.length ∧ (m = 0 → l = []) := by
  cases h with
  | nil => exact ⟨rfl, fun _ => rfl⟩
  | some _ _ => exact ⟨rfl, fun e => by cases e⟩
theorem left_tags (runs : ∀ m n kk above, m ≤ 9 → n ≤ 9 → m - 1 < n - 1 → kk < 2 → left4 m n kk above = true) {W : World} {m n : Nat} {u v : Value} {a c : List Int} (ha : ArgOf W m u a) (hb : ArgOf W n v c) (ta : Tags a) (tc : Tags c) {k : Int} (hk : -9223372036854775808 ≤ k ∧ k < 9223372036854775808)
    (hs : ∀ x ∈ a, x ∈ c) (hne : cmpA a c ≠ 0) (below own above : Bool) :
    Calls Tryz.prog 4 #[u, v, .int .i64 k, .bool below, .bool own, .bool above] W fun e W' => e = .returned (.bool true) ∧ KeptZ W W' := by
  have hla := ta.len
  have hlc := tc.len
  have em := ha.len'.1
  have en := hb.len'.1
  have rA : RepTs (sigL a c k) (cellsA m) a := by unfold cellsA; rw [em]; exact repAL ta
  have rB : RepTs (sigL a c k) (cellsB n) c := by unfold cellsB; rw [en]; exact repBL ta tc
  haveI := sigL_ok ta tc hk
  have hsub := rise_sub ta.rise tc.rise hs
  have hlt : a.length < c.length := by
    rcases Nat.lt_or_ge a.length c.length with h | h
    · exact h
    · have hle := hsub.1
      have he : a.length = c.length := by omega
      refine absurd ?_ hne
      rw [hsub.2 he]
      unfold cmpA
      rw [if_neg (by omega), if_neg (by omega)]
      exact lexS_self c
  have hc : cmpA a c = -1 := by unfold cmpA; rw [if_pos hlt]
  have hc' : cmpA c a = 1 := by unfold cmpA; rw [if_neg (by omega), if_pos hlt]
  exact left_of (tab2_ok rA rB hs hc (fun h => absurd (rise_sub tc.rise ta.rise h).1 (by omega)) hc') (left4_get (runs m n (kAt k) above (by omega) (by omega) (by omega) (kAt_lt k)) below own) ha hb rA rB (kAt_eq a c k)
end
end Go.Z
end
