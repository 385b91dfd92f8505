/- One part of a proof: an evaluator of the model, shown right, and contracts that it yields. No condition beyond those that each theorem names. -/
import Derived.Test.YtenpginanhnkbaaProg
import Derived.KernelRfl
import Derived.IntWalk
import Derived.Test.YtenpginanhnkbaaXC
section
set_option linter.unusedSimpArgs false
set_option linter.unusedVariables false
namespace Go.Proofs.Ytenpginanhnkbaa
open Go.X
set_option maxRecDepth 100000

theorem mixed : Try.prog.follows .mixedOrders = true := by kernel_rfl

/-- a call that is handed nothing and keeps nothing -/
def PSpec (f : FuncId) (args : List Value) (V : View) (R : Value → View → Prop) : Prop := Does Try.prog f args V [] (fun v V' _ => R v V')
theorem ret_pure {v : Value} {mem : Nat → Option Res} {V : View} {R : Value → View → Prop} (h : R v V) : RetN v mem V (fun v V _ => R v V) := ⟨[], List.nodup_nil, [], rfl, h⟩
theorem pspec {f : FuncId} {fn : Func} {args : List SV} {vs : List Value} {V : View} {R : Value → View → Prop} (pl : Plans) (hf : Try.prog.funcs[f]? = some fn) (hok : yfnOk pl fn args.length = true)
    (ha : toVals (fun _ => none) args = some vs) (hx : yfun Try.prog pl fn args (fun _ => none) V (fun v V' _ => R v V')) : PSpec f vs V R := does_of_yfun pl mixed (ms := []) hf hok ha hx

theorem br {c : Bool} {A B : Prop} (h1 : c = true → A) (h2 : c = false → B) : Br c A B := ⟨h1, h2⟩

theorem br_t {c : Bool} {A B : Prop} (h : c = true) (a : A) : Br c A B := ⟨fun _ => a, fun hc => by rw [h] at hc; cases hc⟩
theorem br_f {c : Bool} {A B : Prop} (h : c = false) (b : B) : Br c A B := ⟨fun hc => (by rw [h] at hc; cases hc), fun _ => b⟩

/-! ## numbers -/
def InR (a : Int) : Prop := -9223372036854775808 ≤ a ∧ a ≤ 9223372036854775807
def pairV (x : Int × Int) : Value := .tuple #[.int .i64 x.1, .int .i64 x.2]
def fits (x : Int) : Int × Int := if -9223372036854775808 ≤ x ∧ x ≤ 9223372036854775807 then (x, 0) else (0, 8)
theorem wrapE (x : Int) : IntKind.i64.wrap x = (x + 9223372036854775808) % 18446744073709551616 - 9223372036854775808 := IntKind.wrap_i64 x

theorem within_spec (a : Int) (b : Bool) (V : View) : PSpec 110 [.int .i64 a, .bool b] V (fun v _ => v = pairV (if b then (a, 0) else (0, 8))) := by
  refine pspec [] (args := [.v _, .v _]) Try.func110 (by kernel_rfl) rfl ?_
  conv => whnf
  refine ⟨fun h => ?_, fun h => ?_⟩ <;> conv => whnf
  all_goals (refine ret_pure ?_; cases b <;> first | rfl | cases h)

theorem add_law (a b : Int) (ha : InR a) (hb : InR b) (x : Bool) (hx : x = ((!decide (a < 0) == decide (b < 0)) || (decide (IntKind.i64.wrap (a + b) < 0) == decide (a < 0)))) :
    pairV (if x then (IntKind.i64.wrap (a + b), 0) else (0, 8)) = pairV (fits (a + b)) := by
  obtain ⟨h1, h2⟩ := ha
  obtain ⟨h3, h4⟩ := hb
  rw [wrapE] at *
  unfold fits
  by_cases h : -9223372036854775808 ≤ a + b ∧ a + b ≤ 9223372036854775807
  · have e : (a + b + 9223372036854775808) % 18446744073709551616 - 9223372036854775808 = a + b := by omega
    rw [if_pos h, e]
    rw [e] at hx
    have : x = true := by
      rw [hx]
      simp only [Bool.or_eq_true, Bool.not_eq_true', beq_iff_eq, beq_eq_false_iff_ne, ne_eq, decide_eq_decide]
      omega
    rw [this]; rfl
  · rw [if_neg h]
    have : x = false := by
      rw [hx]
      simp only [Bool.or_eq_false_iff, Bool.not_eq_false', beq_iff_eq, beq_eq_false_iff_ne, ne_eq, decide_eq_decide]
      omega
    rw [this]; rfl

theorem add_spec (a b : Int) (ha : InR a) (hb : InR b) (V : View) : PSpec 95 [.int .i64 a, .int .i64 b] V (fun v _ => v = pairV (fits (a + b))) := by
  refine pspec [] (args := [.v _, .v _]) Try.func95 (by kernel_rfl) rfl ?_
  conv => whnf
  refine ⟨fun h => ?_, fun h => ?_⟩ <;> conv => whnf
  all_goals
    refine CallN.pure (within_spec _ _ _) fun v V' _ _ hv => ?_
    subst hv
    conv => whnf
    refine ret_pure ?_
    refine add_law a b ha hb _ ?_
    rw [h]; simp

theorem wrap_pm {a : Int} (ha : InR a) : IntKind.i64.wrap a = a := by obtain ⟨h1, h2⟩ := ha; rw [wrapE]; omega
theorem sub_spec (a b : Int) (ha : InR a) (hb : InR b) (V : View) : PSpec 96 [.int .i64 a, .int .i64 b] V (fun v _ => v = pairV (fits (a - b))) := by
  refine pspec [] (args := [.v _, .v _]) Try.func96 (by kernel_rfl) rfl ?_
  conv => whnf
  obtain ⟨h1, h2⟩ := ha
  obtain ⟨h3, h4⟩ := hb
  refine ⟨fun h => ?_, fun h => ?_⟩ <;> conv => whnf
  all_goals
    refine CallN.pure (within_spec _ _ _) fun v V' _ _ hv => ?_
    subst hv
    conv => whnf
    refine ret_pure ?_
    simp only [packVals]
    show pairV _ = _
    rw [wrapE]
    simp only [beq_iff_eq, decide_eq_decide, beq_eq_false_iff_ne, ne_eq] at h
    congr 1
    unfold fits
  · rw [if_pos trivial, if_pos (by omega)]
    congr 1
    omega
  · simp only [beq_iff_eq, decide_eq_decide]
    by_cases hf : -9223372036854775808 ≤ a - b ∧ a - b ≤ 9223372036854775807
    · rw [if_pos (by omega), if_pos hf]
      congr 1
      omega
    · rw [if_neg (by omega), if_neg hf]

theorem neg_spec (a : Int) (ha : InR a) (V : View) : PSpec 93 [.int .i64 a] V (fun v _ => v = pairV (fits (-a))) := by
  refine pspec [] (args := [.v _]) Try.func93 (by kernel_rfl) rfl ?_
  conv => whnf
  refine CallN.pure (within_spec _ _ _) fun v V' _ _ hv => ?_
  subst hv
  conv => whnf
  refine ret_pure ?_
  obtain ⟨h1, h2⟩ := ha
  simp only [packVals]
  show pairV _ = _
  rw [wrapE]
  simp only [bne_iff_ne, ne_eq]
  congr 1
  unfold fits
  by_cases h : a = -9223372036854775808
  · rw [if_neg (by omega), if_neg (by omega)]
  · rw [if_pos h, if_pos (by omega)]
    congr 1
    omega

theorem isNaN_spec (a : Int) (V : View) : PSpec 113 [.int .i64 a] V (fun v _ => v = .bool false) := by
  refine pspec [] (args := [.v _]) Try.func113 (by kernel_rfl) rfl ?_
  conv => whnf
  refine ret_pure ?_
  simp [packVals]
theorem isNaN2_spec (a : Int) (V : View) : PSpec 114 [.int .i64 a] V (fun v _ => v = .bool false) := by
  refine pspec [] (args := [.v _]) Try.func114 (by kernel_rfl) rfl ?_
  conv => whnf
  refine ret_pure ?_
  simp [packVals]
theorem isNaN3_spec (a : ByteArray) (V : View) : PSpec 115 [.string a] V (fun v _ => v = .bool false) := by
  refine pspec [] (args := [.v _]) Try.func115 (by kernel_rfl) rfl ?_
  conv => whnf
  refine ret_pure ?_
  simp [packVals]

theorem mul_fits {a b p : Int} (ha : InR a) (hb : InR b) (h0 : b ≠ 0) (hlow : ¬ ((a = -9223372036854775808 ∧ b = -1) ∨ (b = -9223372036854775808 ∧ a = -1))) (hp : p = IntKind.i64.wrap (a * b)) :
    (if (IntKind.i64.wrap (p.tdiv b) == a) = true then (p, (0 : Int)) else (0, 8)) = fits (a * b) := by
  obtain ⟨h1, h2⟩ := ha
  obtain ⟨h3, h4⟩ := hb
  rw [wrapE] at hp
  rw [wrapE]
  unfold fits
  by_cases hf : -9223372036854775808 ≤ a * b ∧ a * b ≤ 9223372036854775807
  · have e : p = a * b := by omega
    rw [if_pos hf, e, Int.mul_tdiv_cancel _ h0, if_pos]
    rw [beq_iff_eq]; omega
  · rw [if_neg hf, if_neg]
    intro h
    have h := beq_iff_eq.1 h
    have e := Int.mul_tdiv_add_tmod p b
    have hm : -9223372036854775808 ≤ p.tmod b ∧ p.tmod b ≤ 9223372036854775807 := by
      have h5 := Int.natAbs_tmod p b
      have h6 : (p.tmod b).natAbs < b.natAbs := by
        rw [h5]; exact Nat.mod_lt _ (by omega)
      omega
    have hq : (p.tdiv b).natAbs ≤ p.natAbs := by
      rw [Int.natAbs_tdiv]; exact Nat.div_le_self _ _
    have hpr : -9223372036854775808 ≤ p ∧ p ≤ 9223372036854775807 := by omega
    by_cases hbig : p.tdiv b = 9223372036854775808
    · have ha : a = -9223372036854775808 := by rw [hbig] at h; omega
      have hb1 : b = -1 := by
        rw [hbig] at e
        omega
      exact hlow (.inl ⟨ha, hb1⟩)
    · have : p.tdiv b = a := by omega
      rw [this, Int.mul_comm b a] at e
      omega
theorem quo_run (x y : Operand) (p b : Int) (h : b ≠ 0) (w : World) : Sem.run Try.prog (do
      eqGuard BinOp.quo 2 x y (.int .i64 p) (.int .i64 b)
      binOp BinOp.quo 2 (.int .i64 p) (.int .i64 b)) w = .ok (.int .i64 (IntKind.i64.wrap (p.tdiv b))) w := by
  simp [eqGuard, binOp, Op.intDiv, h]
theorem mul_spec (a b : Int) (ha : InR a) (hb : InR b) (V : View) : PSpec 97 [.int .i64 a, .int .i64 b] V (fun v _ => v = pairV (fits (a * b))) := by
  refine pspec [] (args := [.v _, .v _]) Try.func97 (by kernel_rfl) rfl ?_
  conv => whnf
  repeat' (apply br <;> intro h <;> conv => whnf)
  any_goals (refine ret_pure ?_; simp only [beq_iff_eq] at h; subst h)
  · show pairV (0, 0) = _
    simp [fits]
  · show pairV (0, 0) = _
    simp [fits]
  all_goals
    simp only [beq_iff_eq, beq_eq_false_iff_ne, ne_eq, Bool.not_eq_true', Bool.not_eq_false', Bool.not_true, Bool.not_false, Bool.false_eq_true, Bool.true_eq_false] at *
  any_goals (first
    | (refine CallN.pure (within_spec _ _ _) fun v V' _ _ hv => ?_
       subst hv
       conv => whnf
       refine ret_pure ?_
       show pairV (0, 8) = _
       simp_all [fits]; done)
    | (refine ⟨⟨_, quo_run _ _ _ _ (by assumption), ?_⟩⟩
       conv => whnf
       refine CallN.pure (within_spec _ _ _) fun v V' _ _ hv => ?_
       subst hv
       conv => whnf
       refine ret_pure ?_
       show pairV _ = _
       congr 1
       exact mul_fits ha hb (by assumption) (by omega) rfl))
/-! ## values -/
structure Val where
  k : Int
  n : Int
  t : ByteArray
deriving DecidableEq
def noText : ByteArray := { data := #[] }
def vv (x : Val) : Value := .agg #[.int .i64 x.k, .int .i64 x.n, .string x.t]
def vcells (x : Val) : List Value := [.int .i64 x.k, .int .i64 x.n, .string x.t]
def pairX (x : Val × Int) : Value := .tuple #[vv x.1, .int .i64 x.2]
def v0 : Val := ⟨0, 0, noText⟩
def truthV (b : Bool) : Val := ⟨3, if b then 1 else 0, noText⟩
def wholeV (x : Int × Int) : Val × Int := if x.2 = 0 then (⟨1, x.1, noText⟩, 0) else (v0, x.2)

theorem truth_spec (b : Bool) (V : View) : PSpec 94 [.bool b] V (fun v _ => v = vv (truthV b)) := by
  refine pspec [] (args := [.v _]) Try.func94 (by kernel_rfl) rfl ?_
  conv => whnf
  intro b1
  conv => whnf
  intro b2
  conv => whnf
  apply br <;> intro h <;> conv => whnf
  all_goals
    subst h
    exact ret_pure rfl
theorem whole_spec (x : Int × Int) (V : View) : PSpec 92 [.int .i64 x.1, .int .i64 x.2] V (fun v _ => v = pairX (wholeV x)) := by
  refine pspec [] (args := [.v _, .v _]) Try.func92 (by kernel_rfl) rfl ?_
  conv => whnf
  intro b1
  conv => whnf
  apply br <;> intro h <;> conv => whnf
  · have h : x.2 ≠ 0 := by simpa using h
    refine ret_pure ?_
    unfold wholeV
    rw [if_neg h]; rfl
  · have h : x.2 = 0 := by simpa using h
    refine ret_pure ?_
    unfold wholeV
    rw [if_pos h]; rfl

/-! ## orders -/
def cmpI (a b : Int) : Int := if a < b then -1 else if b < a then 1 else 0
def cmpS (a b : ByteArray) : Int := if Op.bytesLess a.toList b.toList then -1 else if a.toList = b.toList then 0 else 1
theorem cmp_spec (a b : Int) (V : View) : PSpec 100 [.int .i64 a, .int .i64 b] V (fun v _ => v = .int .i64 (cmpI a b)) := by
  refine pspec [] (args := [.v _, .v _]) Try.func100 (by kernel_rfl) rfl ?_
  conv => whnf
  refine CallN.pure (isNaN_spec _ _) fun v V' _ _ hv => ?_
  subst hv
  conv => whnf
  refine CallN.pure (isNaN_spec _ _) fun v V' _ _ hv => ?_
  subst hv
  conv => whnf
  refine br_f rfl ?_
  conv => whnf
  refine br_f rfl ?_
  conv => whnf
  apply br <;> intro h <;> conv => whnf
  · refine ret_pure ?_
    simp_all [cmpI, packVals]
  · apply br <;> intro h2 <;> conv => whnf
    · refine ret_pure ?_
      simp_all [cmpI, packVals]
      try omega
    · refine ret_pure ?_
      simp_all [cmpI, packVals]
      try omega
theorem cmp2_spec (a b : Int) (V : View) : PSpec 101 [.int .i64 a, .int .i64 b] V (fun v _ => v = .int .i64 (cmpI a b)) := by
  refine pspec [] (args := [.v _, .v _]) Try.func101 (by kernel_rfl) rfl ?_
  conv => whnf
  refine CallN.pure (isNaN2_spec _ _) fun v V' _ _ hv => ?_
  subst hv
  conv => whnf
  refine CallN.pure (isNaN2_spec _ _) fun v V' _ _ hv => ?_
  subst hv
  conv => whnf
  refine br_f rfl ?_
  conv => whnf
  refine br_f rfl ?_
  conv => whnf
  apply br <;> intro h <;> conv => whnf
  · refine ret_pure ?_
    simp_all [cmpI, packVals]
  · apply br <;> intro h2 <;> conv => whnf
    · refine ret_pure ?_
      simp_all [cmpI, packVals]
      try omega
    · refine ret_pure ?_
      simp_all [cmpI, packVals]
      try omega
theorem cmp3_spec (a b : ByteArray) (V : View) : PSpec 102 [.string a, .string b] V (fun v _ => v = .int .i64 (cmpS a b)) := by
  refine pspec [] (args := [.v _, .v _]) Try.func102 (by kernel_rfl) rfl ?_
  conv => whnf
  refine CallN.pure (isNaN3_spec _ _) fun v V' _ _ hv => ?_
  subst hv
  conv => whnf
  refine CallN.pure (isNaN3_spec _ _) fun v V' _ _ hv => ?_
  subst hv
  conv => whnf
  refine br_f rfl ?_
  conv => whnf
  refine br_f rfl ?_
  conv => whnf
  apply br <;> intro h <;> conv => whnf
  · refine ret_pure ?_
    simp_all [cmpS, packVals]
  · apply br <;> intro h2 <;> conv => whnf
    · refine ret_pure ?_
      simp_all [cmpS, packVals]
      try omega
    · refine ret_pure ?_
      simp_all [cmpS, packVals]
      try omega

/-- a slice of one pair -/
theorem first_spec (a b : Int) (p cap : Nat) (V : View) (hs : V.has p 0 [.int .i64 a, .int .i64 b]) : PSpec 78 [.slice (some ⟨p, 0, none⟩) 1 cap] V (fun v _ => v = .int .i64 (cmpI a b)) := by
  refine pspec [] (args := [.v _]) Try.func78 (by kernel_rfl) rfl ?_
  conv => whnf
  refine LoopN.unroll 2 ?_
  conv => whnf
  refine br_t rfl ?_
  conv => whnf
  refine ⟨⟨p, 0, rfl, by decide, by decide, ?_⟩⟩
  conv => whnf
  refine ⟨⟨_, rfl, .inl hs, ?_⟩⟩
  conv => whnf
  intro b1
  conv => whnf
  refine CallN.pure (cmp_spec _ _ _) fun v V' _ _ hv => ?_
  subst hv
  conv => whnf
  apply br <;> intro h <;> conv => whnf
  · refine ret_pure ?_
    rfl
  · refine br_f rfl ?_
    conv => whnf
    refine ret_pure ?_
    simp_all [packVals]
/-- a slice of one pair -/
theorem first2_spec (a b : Int) (p cap : Nat) (V : View) (hs : V.has p 0 [.int .i64 a, .int .i64 b]) : PSpec 79 [.slice (some ⟨p, 0, none⟩) 1 cap] V (fun v _ => v = .int .i64 (cmpI a b)) := by
  refine pspec [] (args := [.v _]) Try.func79 (by kernel_rfl) rfl ?_
  conv => whnf
  refine LoopN.unroll 2 ?_
  conv => whnf
  refine br_t rfl ?_
  conv => whnf
  refine ⟨⟨p, 0, rfl, by decide, by decide, ?_⟩⟩
  conv => whnf
  refine ⟨⟨_, rfl, .inl hs, ?_⟩⟩
  conv => whnf
  intro b1
  conv => whnf
  refine CallN.pure (cmp2_spec _ _ _) fun v V' _ _ hv => ?_
  subst hv
  conv => whnf
  apply br <;> intro h <;> conv => whnf
  · refine ret_pure ?_
    rfl
  · refine br_f rfl ?_
    conv => whnf
    refine ret_pure ?_
    simp_all [packVals]
/-- a slice of one pair -/
theorem first3_spec (a b : ByteArray) (p cap : Nat) (V : View) (hs : V.has p 0 [.string a, .string b]) : PSpec 80 [.slice (some ⟨p, 0, none⟩) 1 cap] V (fun v _ => v = .int .i64 (cmpS a b)) := by
  refine pspec [] (args := [.v _]) Try.func80 (by kernel_rfl) rfl ?_
  conv => whnf
  refine LoopN.unroll 2 ?_
  conv => whnf
  refine br_t rfl ?_
  conv => whnf
  refine ⟨⟨p, 0, rfl, by decide, by decide, ?_⟩⟩
  conv => whnf
  refine ⟨⟨_, rfl, .inl hs, ?_⟩⟩
  conv => whnf
  intro b1
  conv => whnf
  refine CallN.pure (cmp3_spec _ _ _) fun v V' _ _ hv => ?_
  subst hv
  conv => whnf
  apply br <;> intro h <;> conv => whnf
  · refine ret_pure ?_
    rfl
  · refine br_f rfl ?_
    conv => whnf
    refine ret_pure ?_
    simp_all [packVals]
/-- the first of two that is not 0 -/
def orI (a b : Int) : Int := if a = 0 then b else a
theorem or_spec (a b : Int) (p cap : Nat) (V : View) (hs : V.has p 0 [.int .i64 a, .int .i64 b]) : PSpec 77 [.slice (some ⟨p, 0, none⟩) 2 cap] V (fun v _ => v = .int .i64 (orI a b)) := by
  refine pspec [] (args := [.v _]) Try.func77 (by kernel_rfl) rfl ?_
  conv => whnf
  refine LoopN.unroll 3 ?_
  conv => whnf
  refine br_t rfl ?_
  conv => whnf
  refine ⟨⟨p, 0, rfl, by decide, by decide, ?_⟩⟩
  conv => whnf
  refine ⟨⟨[.int .i64 a], rfl, .inl fun i v hi => hs i v (by cases i <;> simp_all), ?_⟩⟩
  conv => whnf
  apply br <;> intro h <;> conv => whnf
  · refine ret_pure ?_
    simp_all [packVals, orI]
  refine br_t rfl ?_
  conv => whnf
  refine ⟨⟨p, 0, rfl, by decide, by decide, ?_⟩⟩
  conv => whnf
  refine ⟨⟨[.int .i64 b], rfl, .inl fun i v hi => ?_, ?_⟩⟩
  · cases i with
    | zero => exact hs 1 v (by simpa using hi)
    | succ i => simp at hi
  conv => whnf
  apply br <;> intro h <;> conv => whnf
  · refine ret_pure ?_
    simp_all [packVals, orI]
  refine br_f rfl ?_
  conv => whnf
  refine ret_pure ?_
  simp_all [packVals, orI]
def pl54 : Plans := [(1, [(0, []), (1, []), (2, []), (3, []), (4, []), (7, []), (8, []), (9, []), (10, []), (11, []), (5, [12]), (6, [12]), (12, []), (13, []), (14, []), (15, []), (16, [])])]
def cmpV (a b : Val) : Int := orI (orI (cmpI a.k b.k) (cmpI a.n b.n)) (cmpS a.t b.t)
theorem compare_spec (a b : Val) (V : View) : PSpec 54 [vv a, vv b] V (fun v _ => v = .int .i64 (cmpV a b)) := by
  refine pspec pl54 (args := [.v _, .v _]) Try.func54 (by kernel_rfl) rfl ?_
  conv => whnf
  intro b1
  conv => whnf
  intro b2
  conv => whnf
  intro b3 h3
  conv => whnf
  refine CallN.pure (first_spec a.k b.k _ _ _ h3.has) fun v V1 _ hV hv => ?_
  subst hv
  refine Prot.refl ?_
  conv => whnf
  intro b4 h4
  conv => whnf
  refine CallN.pure (first2_spec a.n b.n _ _ _ h4.has) fun v V2 _ hV hv => ?_
  subst hv
  refine Prot.refl ?_
  conv => whnf
  intro b5 h5
  conv => whnf
  refine CallN.pure (or_spec (cmpI a.k b.k) (cmpI a.n b.n) _ _ _ h5.has) fun v V3 _ hV hv => ?_
  subst hv
  refine Prot.refl ?_
  conv => whnf
  apply br <;> intro h <;> conv => whnf
  · refine ret_pure ?_
    simp_all [packVals, cmpV, orI]
  intro b6 V4 h6 h7
  conv => whnf
  refine CallN.pure (first3_spec a.t b.t _ _ _ h7) fun v V3 _ hV hv => ?_
  subst hv
  conv => whnf
  refine ret_pure ?_
  simp_all [packVals, cmpV, orI]
end Go.Proofs.Ytenpginanhnkbaa
end

section
set_option linter.unusedSimpArgs false
set_option linter.unusedVariables false
namespace Go.Proofs.Ytenpginanhnkbaa
open Go.X
set_option maxRecDepth 100000
set_option linter.unusedSimpArgs false

theorem has_part {V : View} {b off : Nat} {l : List Value} (h : V.has b off l) (k n : Nat) : V.has b (off + k) ((l.drop k).take n) := fun i v hi => by
  rw [List.getElem?_take] at hi
  split at hi
  · rw [List.getElem?_drop] at hi
    have := h (k + i) v hi
    rwa [← Nat.add_assoc] at this
  · cases hi
theorem LoadN.of {V : View} {mem : Nat → Option Res} {b off off0 n : Nat} {K : List Value → Prop} {l : List Value} (h : V.has b off0 l) (k : Nat) (ho : off = off0 + k) (hn : ((l.drop k).take n).length = n) (hK : K ((l.drop k).take n)) : LoadN V mem b off n K :=
  ⟨⟨_, hn, .inl (by subst ho; exact has_part h k n), hK⟩⟩
theorem IdxN.of {b off len size : Nat} {i : Int} {K : Nat → Nat → Prop} (h0 : 0 ≤ i) (hl : i < len) (hK : K b (off + i.toNat * size)) : IdxN (some ⟨b, off, none⟩) len i size K := ⟨⟨b, off, rfl, h0, hl, hK⟩⟩

/-! ## operations -/
def unX (op : Int) (a : Val) : Val × Int := if op = 3 then wholeV (fits (-a.n)) else (truthV (a.n == 0), 0)
def binX (op : Int) (a b : Val) : Val × Int :=
  if op = 5 then wholeV (fits (a.n + b.n)) else if op = 6 then wholeV (fits (a.n - b.n)) else if op = 7 then wholeV (fits (a.n * b.n))
  else if op = 8 then (truthV (cmpV a b == 0), 0) else if op = 9 then (truthV (cmpV a b != 0), 0) else if op = 10 then (truthV (decide (cmpV a b < 0)), 0)
  else if op = 11 then (truthV (decide (cmpV a b ≤ 0)), 0) else if op = 12 then (truthV (decide (0 < cmpV a b)), 0) else if op = 13 then (truthV (decide (0 ≤ cmpV a b)), 0) else (v0, 1)
def pl70 : Plans := [(7, [(0, []), (1, []), (2, []), (3, []), (4, []), (5, []), (6, []), (7, []), (8, []), (9, []), (10, []), (11, []), (12, []), (13, []), (14, []), (15, [])]), (9, [(0, []), (1, []), (2, []), (3, []), (4, []), (5, []), (6, []), (7, []), (8, []), (9, []), (10, []), (11, []), (12, []), (13, []), (14, []), (15, [])]), (11, [(0, []), (1, []), (2, []), (3, []), (4, []), (5, []), (6, []), (7, []), (8, []), (9, []), (10, []), (11, []), (12, []), (13, []), (14, []), (15, [])]), (12, [(0, []), (1, []), (2, []), (3, []), (4, []), (5, []), (6, []), (7, [])])]
theorem does1_spec (op : Int) (hop : op = 3 ∨ op = 4) (a : Val) (ha : InR a.n) (p off cap : Nat) (V : View) (hs : V.has p off (vcells a)) :
    PSpec 70 [.int .i64 op, .slice (some ⟨p, off, none⟩) 1 cap] V (fun v _ => v = pairX (unX op a)) := by
  refine pspec pl70 (args := [.v _, .v _]) Try.func70 (by kernel_rfl) rfl ?_
  conv => whnf
  intro b1
  conv => whnf
  apply br <;> intro h <;> conv => whnf
  · refine IdxN.of (by decide) (by decide) ?_
    conv => whnf
    refine LoadN.of hs 1 rfl rfl ?_
    conv => whnf
    refine CallN.pure (neg_spec a.n ha _) fun v V1 _ hV hv => ?_
    subst hv
    conv => whnf
    refine CallN.pure (whole_spec (fits (-a.n)) _) fun v V1 _ hV hv => ?_
    subst hv
    conv => whnf
    refine ret_pure ?_
    simp only [beq_iff_eq] at h
    simp only [unX, h, if_true]
    rfl
  · apply br <;> intro h2 <;> conv => whnf
    · refine IdxN.of (by decide) (by decide) ?_
      conv => whnf
      refine LoadN.of hs 1 rfl rfl ?_
      conv => whnf
      refine CallN.pure (truth_spec (a.n == 0) _) fun v V1 _ hV hv => ?_
      subst hv
      conv => whnf
      refine ret_pure ?_
      simp only [beq_iff_eq, beq_eq_false_iff_ne, ne_eq] at h h2
      simp only [unX, h, if_false]
      rfl
    · simp only [beq_iff_eq, beq_eq_false_iff_ne, ne_eq] at h h2
      omega
theorem vcells_two {V : View} {p off : Nat} {a b : Val} (hs : V.has p off (vcells a ++ vcells b)) : V.has p off (vcells a) ∧ V.has p (off + 3) (vcells b) := ⟨has_part hs 0 3, has_part hs 3 3⟩
theorem does2_spec (op : Int) (hop : 5 ≤ op ∧ op ≤ 13) (a b : Val) (ha : InR a.n) (hb : InR b.n) (p off cap : Nat) (V : View) (hs : V.has p off (vcells a ++ vcells b)) :
    PSpec 70 [.int .i64 op, .slice (some ⟨p, off, none⟩) 2 cap] V (fun v _ => v = pairX (binX op a b)) := by
  refine pspec pl70 (args := [.v _, .v _]) Try.func70 (by kernel_rfl) rfl ?_
  conv => whnf
  intro b1
  conv => whnf
  apply br <;> intro h3 <;> conv => whnf
  · simp only [beq_iff_eq] at h3; omega
  apply br <;> intro h4 <;> conv => whnf
  · simp only [beq_iff_eq] at h4; omega
  apply br <;> intro h5 <;> conv => whnf
  · refine IdxN.of (by decide) (by decide) ?_
    conv => whnf
    refine LoadN.of hs 1 rfl rfl ?_
    conv => whnf
    refine IdxN.of (by decide) (by decide) ?_
    conv => whnf
    refine LoadN.of hs 4 rfl rfl ?_
    conv => whnf
    refine CallN.pure (add_spec a.n b.n ha hb _) fun v V1 _ hV hv => ?_
    subst hv
    refine Prot.refl ?_
    conv => whnf
    refine CallN.pure (whole_spec (fits (a.n + b.n)) _) fun v V1 _ hV hv => ?_
    subst hv
    refine Prot.refl ?_
    conv => whnf
    refine ret_pure ?_
    simp only [beq_iff_eq] at h5
    subst h5
    rfl
  apply br <;> intro h6 <;> conv => whnf
  · refine IdxN.of (by decide) (by decide) ?_
    conv => whnf
    refine LoadN.of hs 1 rfl rfl ?_
    conv => whnf
    refine IdxN.of (by decide) (by decide) ?_
    conv => whnf
    refine LoadN.of hs 4 rfl rfl ?_
    conv => whnf
    refine CallN.pure (sub_spec a.n b.n ha hb _) fun v V1 _ hV hv => ?_
    subst hv
    refine Prot.refl ?_
    conv => whnf
    refine CallN.pure (whole_spec (fits (a.n - b.n)) _) fun v V1 _ hV hv => ?_
    subst hv
    refine Prot.refl ?_
    conv => whnf
    refine ret_pure ?_
    simp only [beq_iff_eq] at h6
    subst h6
    rfl
  apply br <;> intro h7 <;> conv => whnf
  · refine IdxN.of (by decide) (by decide) ?_
    conv => whnf
    refine LoadN.of hs 1 rfl rfl ?_
    conv => whnf
    refine IdxN.of (by decide) (by decide) ?_
    conv => whnf
    refine LoadN.of hs 4 rfl rfl ?_
    conv => whnf
    refine CallN.pure (mul_spec a.n b.n ha hb _) fun v V1 _ hV hv => ?_
    subst hv
    refine Prot.refl ?_
    conv => whnf
    refine CallN.pure (whole_spec (fits (a.n * b.n)) _) fun v V1 _ hV hv => ?_
    subst hv
    refine Prot.refl ?_
    conv => whnf
    refine ret_pure ?_
    simp only [beq_iff_eq] at h7
    subst h7
    rfl
  refine IdxN.of (by decide) (by decide) ?_
  conv => whnf
  refine LoadN.of hs 0 rfl rfl ?_
  conv => whnf
  refine IdxN.of (by decide) (by decide) ?_
  conv => whnf
  refine LoadN.of hs 3 rfl rfl ?_
  conv => whnf
  refine CallN.pure (compare_spec a b _) fun v V1 _ hV hv => ?_
  subst hv
  refine Prot.refl ?_
  conv => whnf
  apply br <;> intro h8 <;> conv => whnf
  · refine CallN.pure (truth_spec (cmpV a b == 0) _) fun v V1 _ hV hv => ?_
    subst hv
    conv => whnf
    refine ret_pure ?_
    simp only [beq_iff_eq] at h8
    subst h8
    rfl
  apply br <;> intro h9 <;> conv => whnf
  · refine CallN.pure (truth_spec (cmpV a b != 0) _) fun v V1 _ hV hv => ?_
    subst hv
    conv => whnf
    refine ret_pure ?_
    simp only [beq_iff_eq] at h9
    subst h9
    rfl
  apply br <;> intro h10 <;> conv => whnf
  · refine CallN.pure (truth_spec (decide (cmpV a b < 0)) _) fun v V1 _ hV hv => ?_
    subst hv
    conv => whnf
    refine ret_pure ?_
    simp only [beq_iff_eq] at h10
    subst h10
    rfl
  apply br <;> intro h11 <;> conv => whnf
  · refine CallN.pure (truth_spec (decide (cmpV a b ≤ 0)) _) fun v V1 _ hV hv => ?_
    subst hv
    conv => whnf
    refine ret_pure ?_
    simp only [beq_iff_eq] at h11
    subst h11
    rfl
  apply br <;> intro h12 <;> conv => whnf
  · refine CallN.pure (truth_spec (decide (0 < cmpV a b)) _) fun v V1 _ hV hv => ?_
    subst hv
    conv => whnf
    refine ret_pure ?_
    simp only [beq_iff_eq] at h12
    subst h12
    rfl
  apply br <;> intro h13 <;> conv => whnf
  · refine CallN.pure (truth_spec (decide (0 ≤ cmpV a b)) _) fun v V1 _ hV hv => ?_
    subst hv
    conv => whnf
    refine ret_pure ?_
    simp only [beq_iff_eq] at h13
    subst h13
    rfl
  simp only [beq_eq_false_iff_ne, ne_eq] at *
  omega
theorem one_spec (op : Int) (V : View) : PSpec 68 [.int .i64 op] V (fun v _ => v = .int .i64 (if op = 3 ∨ op = 4 then 1 else 0)) := by
  refine pspec [] (args := [.v _]) Try.func68 (by kernel_rfl) rfl ?_
  conv => whnf
  apply br <;> intro h <;> conv => whnf
  · refine ret_pure ?_
    simp_all [packVals]
  · apply br <;> intro h2 <;> conv => whnf
    · refine ret_pure ?_
      simp_all [packVals]
    · refine ret_pure ?_
      simp_all [packVals]
end Go.Proofs.Ytenpginanhnkbaa
end

section
set_option linter.unusedSimpArgs false
set_option linter.unusedVariables false
namespace Go.Proofs.Ytenpginanhnkbaa
open Go.X
set_option maxRecDepth 100000
set_option linter.unusedSimpArgs false

/-! ## expressions, as they lie -/
structure XC where
  op : Int
  v : Val
  tb : ByteArray
  nm : ByteArray
  base : Option Addr
  len : Nat
  cap : Nat
def xcells (x : XC) : List Value := [.int .i64 x.op, .int .i64 x.v.k, .int .i64 x.v.n, .string x.v.t, .string x.tb, .string x.nm, .slice x.base x.len x.cap]
def xagg (x : XC) : Value := .agg #[.int .i64 x.op, .int .i64 x.v.k, .int .i64 x.v.n, .string x.v.t, .string x.tb, .string x.nm, .slice x.base x.len x.cap]
def closure (sc : Value) : Value := .func (.func 42) #[sc] #[]
theorem cells_cut {V : View} {base : Option Addr} {len cap : Nat} {x : Value} {l : List Value} (h : V.cells (.slice base len cap) (x :: l)) : ∃ p off, base = some ⟨p, off, none⟩ ∧ V.has p off (x :: l) := by
  unfold View.cells at h
  split at h
  · rename_i b off _ _ he
    simp only [Value.slice.injEq] at he
    obtain ⟨rfl, rfl, rfl⟩ := he
    exact ⟨b, off, rfl, h⟩
  · cases h
  · exact h.elim
theorem AppN.of {V : View} {mem : Nat → Option Res} {g : Option Nat} {v : Value} {n size bytes m cap : Nat} {base : Option Addr} {K : Value → Nat → View → Prop} (xs news : List Value) (hx : V.cells v xs) (hxl : xs.length = n * size)
    (hn : V.cells (.slice base m cap) news) (hnl : news.length = m * size) (h1 : allOne news = true) (hm : n + m ≤ 100000) (hb : bytes ≤ 100000)
    (k : ∀ base cap V', V.le V' → V'.cells (.slice base (n + m) cap) (xs ++ news) → K (.slice base (n + m) cap) (n + m) V') : AppN V mem g v n size bytes (.slice base m cap) K := by
  refine ⟨⟨xs, news, m, hx, hxl, ⟨_, _, rfl⟩, .inr hn, hnl, allOne_spec h1, Nat.le_trans hm (by decide), ?_, fun v' V' hle hc hv' _ => ?_⟩⟩
  · exact Nat.le_trans (Nat.mul_le_mul hm hb) (by decide)
  · obtain ⟨base', cap', rfl, _⟩ := hv'
    exact k base' cap' V' hle hc

/-- what 'each' hands back, of one -/
def Each1 (r : Val × Int) (v : Value) (V : View) : Prop :=
  if r.2 = 0 then ∃ p off cap, v = .tuple #[.slice (some ⟨p, off, none⟩) 1 cap, .int .i64 0] ∧ V.has p off (vcells r.1) else v = .tuple #[.slice none 0 0, .int .i64 r.2]
theorem each1_spec (sc : Value) (x : XC) (r : Val × Int) (p off cap : Nat) (V : View) (hs : V.has p off (xcells x)) (h : ∀ V', V.le V' → PSpec 42 [sc, xagg x] V' (fun v _ => v = pairX r)) :
    PSpec 47 [.slice (some ⟨p, off, none⟩) 1 cap, closure sc] V (Each1 r) := by
  refine pspec [] (args := [.v _, .v _]) Try.func47 (by kernel_rfl) rfl ?_
  conv => whnf
  refine LoopN.unroll 2 ?_
  conv => whnf
  refine br_t rfl ?_
  conv => whnf
  refine IdxN.of (by decide) (by decide) ?_
  conv => whnf
  refine LoadN.of hs 0 rfl rfl ?_
  conv => whnf
  intro b1
  conv => whnf
  refine CallN.pure (h _ (View.le_refl _)) fun v V1 _ hV hv => ?_
  subst hv
  conv => whnf
  intro b2
  conv => whnf
  apply br <;> intro he <;> conv => whnf
  · refine ret_pure ?_
    have : r.2 ≠ 0 := by simpa using he
    unfold Each1
    rw [if_neg this]
    rfl
  intro b3 V2 hV2 h3
  conv => whnf
  refine AppN.of [] (vcells r.1) rfl rfl h3 rfl rfl (by decide) (by decide) fun base cap V3 hV3 hc => ?_
  obtain ⟨p3, off3, rfl, hc⟩ := cells_cut hc
  conv => whnf
  refine br_f rfl ?_
  conv => whnf
  refine ret_pure ?_
  have : r.2 = 0 := by simpa using he
  unfold Each1
  rw [if_pos this]
  exact ⟨_, _, _, rfl, hc⟩
/-- what 'each' hands back, of two -/
def Each2 (r s : Val × Int) (v : Value) (V : View) : Prop :=
  if r.2 = 0 then (if s.2 = 0 then ∃ p off cap, v = .tuple #[.slice (some ⟨p, off, none⟩) 2 cap, .int .i64 0] ∧ V.has p off (vcells r.1 ++ vcells s.1) else v = .tuple #[.slice none 0 0, .int .i64 s.2]) else v = .tuple #[.slice none 0 0, .int .i64 r.2]
theorem each2_spec (sc : Value) (x y : XC) (r s : Val × Int) (p off cap : Nat) (V : View) (hs : V.has p off (xcells x ++ xcells y)) (h : ∀ V', V.le V' → PSpec 42 [sc, xagg x] V' (fun v _ => v = pairX r))
    (h' : ∀ V', V.le V' → PSpec 42 [sc, xagg y] V' (fun v _ => v = pairX s)) :
    PSpec 47 [.slice (some ⟨p, off, none⟩) 2 cap, closure sc] V (Each2 r s) := by
  refine pspec [] (args := [.v _, .v _]) Try.func47 (by kernel_rfl) rfl ?_
  conv => whnf
  refine LoopN.unroll 3 ?_
  conv => whnf
  refine br_t rfl ?_
  conv => whnf
  refine IdxN.of (by decide) (by decide) ?_
  conv => whnf
  refine LoadN.of hs 0 rfl rfl ?_
  conv => whnf
  intro b1
  conv => whnf
  refine CallN.pure (h _ (View.le_refl _)) fun v V1 _ hV hv => ?_
  subst hv
  conv => whnf
  intro b2
  conv => whnf
  apply br <;> intro he <;> conv => whnf
  · refine ret_pure ?_
    have : r.2 ≠ 0 := by simpa using he
    unfold Each2
    rw [if_neg this]
    rfl
  intro b3 V2 hV2 h3
  conv => whnf
  refine AppN.of [] (vcells r.1) rfl rfl h3 rfl rfl (by decide) (by decide) fun base cap V3 hV3 hc => ?_
  obtain ⟨p3, off3, rfl, hc⟩ := cells_cut hc
  have hle := View.le_trans hV (View.le_trans hV2 hV3)
  conv => whnf
  refine br_t rfl ?_
  conv => whnf
  refine IdxN.of (by decide) (by decide) ?_
  conv => whnf
  refine LoadN.of (hs.mono hle) 7 rfl rfl ?_
  conv => whnf
  intro b4
  conv => whnf
  refine CallN.pure (h' _ hle) fun v V4 _ hV4 hv => ?_
  subst hv
  conv => whnf
  intro b5
  conv => whnf
  apply br <;> intro he2 <;> conv => whnf
  · refine ret_pure ?_
    have h1 : r.2 = 0 := by simpa using he
    have h2 : s.2 ≠ 0 := by simpa using he2
    unfold Each2
    rw [if_pos h1, if_neg h2]
    rfl
  intro b6 V5 hV5 h6
  conv => whnf
  refine AppN.of (vcells r.1) (vcells s.1) (hc.mono (View.le_trans hV4 hV5)) rfl h6 rfl rfl (by decide) (by decide) fun base cap V6 hV6 hc => ?_
  obtain ⟨p6, off6, rfl, hc⟩ := cells_cut hc
  conv => whnf
  refine br_f rfl ?_
  conv => whnf
  refine ret_pure ?_
  have h1 : r.2 = 0 := by simpa using he
  have h2 : s.2 = 0 := by simpa using he2
  unfold Each2
  rw [if_pos h1, if_pos h2]
  exact ⟨_, _, _, rfl, hc⟩
end Go.Proofs.Ytenpginanhnkbaa
end
