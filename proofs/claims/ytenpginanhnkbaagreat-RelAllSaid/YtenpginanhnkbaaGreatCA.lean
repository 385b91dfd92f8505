/- One part of a proof: an evaluator of the model, shown right, and contracts that it yields. No condition beyond those that each theorem names. -/
import Derived.Test.YtenpginanhnkbaaGreatProg
import Derived.KernelRfl
import Derived.IntWalk
import Derived.Test.YtenpginanhnkbaaGreatXC
import Derived.Laws.StructEq
section
set_option linter.unusedSimpArgs false
set_option linter.unusedVariables false
namespace Go.Proofs.YtenpginanhnkbaaGreat
open Go.X
set_option maxRecDepth 100000
theorem mixed : Tryz.prog.follows .mixedOrders = true := by kernel_rfl
/-- a call that is handed nothing and keeps nothing -/
def PSpec (f : FuncId) (args : List Value) (V : View) (R : Value → View → Prop) : Prop := Does Tryz.prog f args V [] (fun v V' _ => R v V')
theorem ret_pure {v : Value} {mem : Nat → Option Res} {V : View} {R : Value → View → Prop} (h : R v V) : RetN v mem V (fun v V _ => R v V) := ⟨[], List.nodup_nil, [], rfl, h⟩
theorem pspec {f : FuncId} {fn : Func} {args : List SV} {vs : List Value} {V : View} {R : Value → View → Prop} (pl : Plans) (hf : Tryz.prog.funcs[f]? = some fn) (hok : yfnOk pl fn args.length = true)
  (ha : toVals (fun _ => none) args = some vs) (hx : yfun Tryz.prog pl fn args (fun _ => none) V (fun v V' _ => R v V')) : PSpec f vs V R := does_of_yfun pl mixed (ms := []) hf hok ha hx
theorem br {c : Bool} {A B : Prop} (h1 : c = true → A) (h2 : c = false → B) : Br c A B := ⟨h1, h2⟩
theorem br_t {c : Bool} {A B : Prop} (h : c = true) (a : A) : Br c A B := ⟨fun _ => a, fun hc => by rw [h] at hc; cases hc⟩
theorem br_f {c : Bool} {A B : Prop} (h : c = false) (b : B) : Br c A B := ⟨fun hc => (by rw [h] at hc; cases hc), fun _ => b⟩
def InR (a : Int) : Prop := -9223372036854775808 ≤ a ∧ a ≤ 9223372036854775807
def pairV (x : Int × Int) : Value := .tuple #[.int .i64 x.1, .int .i64 x.2]
def fits (x : Int) : Int × Int := if -9223372036854775808 ≤ x ∧ x ≤ 9223372036854775807 then (x, 0) else (0, 8)
theorem wrapE (x : Int) : IntKind.i64.wrap x = (x + 9223372036854775808) % 18446744073709551616 - 9223372036854775808 := IntKind.wrap_i64 x
theorem within_spec (a : Int) (b : Bool) (V : View) : PSpec 93 [.int .i64 a, .bool b] V (fun v _ => v = pairV (if b then (a, 0) else (0, 8))) := by
 refine pspec [] (args := [.v _, .v _]) Tryz.func93 (by kernel_rfl) rfl ?_; conv => whnf
 refine ⟨fun h => ?_, fun h => ?_⟩ <;> conv => whnf
 all_goals (refine ret_pure ?_; cases b <;> first | rfl | cases h)
theorem add_law (a b : Int) (ha : InR a) (hb : InR b) (x : Bool) (hx : x = ((!decide (a < 0) == decide (b < 0)) || (decide (IntKind.i64.wrap (a + b) < 0) == decide (a < 0)))) :
  pairV (if x then (IntKind.i64.wrap (a + b), 0) else (0, 8)) = pairV (fits (a + b)) := by
 obtain ⟨h1, h2⟩ := ha
 obtain ⟨h3, h4⟩ := hb
 rw [wrapE] at *
 unfold fits
 by_cases h : -9223372036854775808 ≤ a + b ∧ a + b ≤ 9223372036854775807
 ·have e : (a + b + 9223372036854775808) % 18446744073709551616 - 9223372036854775808 = a + b := by omega
  rw [if_pos h, e]
  rw [e] at hx
  have : x = true := by
   rw [hx]
   simp only [Bool.or_eq_true, Bool.not_eq_true', beq_iff_eq, beq_eq_false_iff_ne, ne_eq, decide_eq_decide]
   omega
  rw [this]; rfl
 ·rw [if_neg h]
  have : x = false := by
   rw [hx]
   simp only [Bool.or_eq_false_iff, Bool.not_eq_false', beq_iff_eq, beq_eq_false_iff_ne, ne_eq, decide_eq_decide]
   omega
  rw [this]; rfl
theorem add_spec (a b : Int) (ha : InR a) (hb : InR b) (V : View) : PSpec 78 [.int .i64 a, .int .i64 b] V (fun v _ => v = pairV (fits (a + b))) := by
 refine pspec [] (args := [.v _, .v _]) Tryz.func78 (by kernel_rfl) rfl ?_; conv => whnf
 refine ⟨fun h => ?_, fun h => ?_⟩ <;> conv => whnf
 all_goals
  refine CallN.pure (within_spec _ _ _) fun v V' _ _ hv => ?_
  subst hv; conv => whnf
  refine ret_pure ?_
  refine add_law a b ha hb _ ?_
  rw [h]; simp
theorem sub_spec (a b : Int) (ha : InR a) (hb : InR b) (V : View) : PSpec 103 [.int .i64 a, .int .i64 b] V (fun v _ => v = pairV (fits (a - b))) := by
 refine pspec [] (args := [.v _, .v _]) Tryz.func103 (by kernel_rfl) rfl ?_; conv => whnf
 obtain ⟨h1, h2⟩ := ha
 obtain ⟨h3, h4⟩ := hb
 refine ⟨fun h => ?_, fun h => ?_⟩ <;> conv => whnf
 all_goals
  refine CallN.pure (within_spec _ _ _) fun v V' _ _ hv => ?_
  subst hv; conv => whnf
  refine ret_pure ?_
  simp only [packVals]
  show pairV _ = _
  rw [wrapE]
  simp only [beq_iff_eq, decide_eq_decide, beq_eq_false_iff_ne, ne_eq] at h
  congr 1
  unfold fits
 ·rw [if_pos trivial, if_pos (by omega)]
  congr 1
  omega
 ·simp only [beq_iff_eq, decide_eq_decide]
  by_cases hf : -9223372036854775808 ≤ a - b ∧ a - b ≤ 9223372036854775807
  ·rw [if_pos (by omega), if_pos hf]
   congr 1
   omega
  ·rw [if_neg (by omega), if_neg hf]
theorem neg_spec (a : Int) (ha : InR a) (V : View) : PSpec 101 [.int .i64 a] V (fun v _ => v = pairV (fits (-a))) := by
 refine pspec [] (args := [.v _]) Tryz.func101 (by kernel_rfl) rfl ?_; conv => whnf
 refine CallN.pure (within_spec _ _ _) fun v V' _ _ hv => ?_
 subst hv; conv => whnf
 refine ret_pure ?_
 obtain ⟨h1, h2⟩ := ha
 simp only [packVals]
 show pairV _ = _
 rw [wrapE]
 simp only [bne_iff_ne, ne_eq]
 congr 1
 unfold fits
 by_cases h : a = -9223372036854775808
 ·rw [if_neg (by omega), if_neg (by omega)]
 ·rw [if_pos h, if_pos (by omega)]
  congr 1
  omega
theorem isNaN_spec (a : Int) (V : View) : PSpec 97 [.int .i64 a] V (fun v _ => v = .bool false) := by
 refine pspec [] (args := [.v _]) Tryz.func97 (by kernel_rfl) rfl ?_; conv => whnf
 refine ret_pure ?_
 simp [packVals]
theorem isNaN2_spec (a : Int) (V : View) : PSpec 98 [.int .i64 a] V (fun v _ => v = .bool false) := by
 refine pspec [] (args := [.v _]) Tryz.func98 (by kernel_rfl) rfl ?_; conv => whnf
 refine ret_pure ?_
 simp [packVals]
theorem isNaN3_spec (a : ByteArray) (V : View) : PSpec 99 [.string a] V (fun v _ => v = .bool false) := by
 refine pspec [] (args := [.v _]) Tryz.func99 (by kernel_rfl) rfl ?_; conv => whnf
 refine ret_pure ?_
 simp [packVals]
theorem mul_fits {a b p : Int} (ha : InR a) (hb : InR b) (h0 : b ≠ 0) (hlow : ¬ ((a = -9223372036854775808 ∧ b = -1) ∨ (b = -9223372036854775808 ∧ a = -1))) (hp : p = IntKind.i64.wrap (a * b)) :
  (if (IntKind.i64.wrap (p.tdiv b) == a) = true then (p, (0 : Int)) else (0, 8)) = fits (a * b) := by
 obtain ⟨h1, h2⟩ := ha
 obtain ⟨h3, h4⟩ := hb
 rw [wrapE] at hp
 rw [wrapE]
 unfold fits
 by_cases hf : -9223372036854775808 ≤ a * b ∧ a * b ≤ 9223372036854775807
 ·have e : p = a * b := by omega
  rw [if_pos hf, e, Int.mul_tdiv_cancel _ h0, if_pos]
  rw [beq_iff_eq]; omega
 ·rw [if_neg hf, if_neg]
  intro h
  have h := beq_iff_eq.1 h
  have e := Int.mul_tdiv_add_tmod p b
  have hm : -9223372036854775808 ≤ p.tmod b ∧ p.tmod b ≤ 9223372036854775807 := by
   have h5 := Int.natAbs_tmod p b
   have h6 : (p.tmod b).natAbs < b.natAbs := by
    rw [h5]; exact Nat.mod_lt _ (by omega)
   omega
  have hq : (p.tdiv b).natAbs ≤ p.natAbs := by
   rw [Int.natAbs_tdiv]; exact Nat.div_le_self _ _
  have hpr : -9223372036854775808 ≤ p ∧ p ≤ 9223372036854775807 := by omega
  by_cases hbig : p.tdiv b = 9223372036854775808
  ·have ha : a = -9223372036854775808 := by rw [hbig] at h; omega
   have hb1 : b = -1 := by
    rw [hbig] at e
    omega
   exact hlow (.inl ⟨ha, hb1⟩)
  ·have : p.tdiv b = a := by omega
   rw [this, Int.mul_comm b a] at e
   omega
theorem quo_run (x y : Operand) (p b : Int) (h : b ≠ 0) (w : World) : Sem.run Tryz.prog (do
      eqGuard BinOp.quo 2 x y (.int .i64 p) (.int .i64 b)
      binOp BinOp.quo 2 (.int .i64 p) (.int .i64 b)) w = .ok (.int .i64 (IntKind.i64.wrap (p.tdiv b))) w := by
  simp [eqGuard, binOp, Op.intDiv, h]
theorem mul_spec (a b : Int) (ha : InR a) (hb : InR b) (V : View) : PSpec 104 [.int .i64 a, .int .i64 b] V (fun v _ => v = pairV (fits (a * b))) := by
  refine pspec [] (args := [.v _, .v _]) Tryz.func104 (by kernel_rfl) rfl ?_; conv => whnf
  repeat' (apply br <;> intro h <;> conv => whnf)
  any_goals (refine ret_pure ?_; simp only [beq_iff_eq] at h; subst h)
  · show pairV (0, 0) = _
    simp [fits]
  · show pairV (0, 0) = _
    simp [fits]
  all_goals
    simp only [beq_iff_eq, beq_eq_false_iff_ne, ne_eq, Bool.not_eq_true', Bool.not_eq_false', Bool.not_true, Bool.not_false, Bool.false_eq_true, Bool.true_eq_false] at *
  any_goals (first
    | (refine CallN.pure (within_spec _ _ _) fun v V' _ _ hv => ?_
       subst hv; conv => whnf
       refine ret_pure ?_
       show pairV (0, 8) = _
       simp_all [fits]; done)
    | (refine ⟨⟨_, quo_run _ _ _ _ (by assumption), ?_⟩⟩
       conv => whnf
       refine CallN.pure (within_spec _ _ _) fun v V' _ _ hv => ?_
       subst hv; conv => whnf
       refine ret_pure ?_
       show pairV _ = _
       congr 1
       exact mul_fits ha hb (by assumption) (by omega) rfl))
structure Val where
 k : Int
 n : Int
 t : ByteArray
deriving DecidableEq
def noText : ByteArray := { data := #[] }
def vv (x : Val) : Value := .agg #[.int .i64 x.k, .int .i64 x.n, .string x.t]
def vcells (x : Val) : List Value := [.int .i64 x.k, .int .i64 x.n, .string x.t]
def pairX (x : Val × Int) : Value := .tuple #[vv x.1, .int .i64 x.2]
def v0 : Val := ⟨0, 0, noText⟩
def truthV (b : Bool) : Val := ⟨3, if b then 1 else 0, noText⟩
def wholeV (x : Int × Int) : Val × Int := if x.2 = 0 then (⟨1, x.1, noText⟩, 0) else (v0, x.2)
theorem truth_spec (b : Bool) (V : View) : PSpec 102 [.bool b] V (fun v _ => v = vv (truthV b)) := by
 refine pspec [] (args := [.v _]) Tryz.func102 (by kernel_rfl) rfl ?_; conv => whnf
 intro b1
 conv => whnf
 intro b2
 conv => whnf
 apply br <;> intro h <;> conv => whnf
 all_goals
  subst h
  exact ret_pure rfl
theorem whole_spec (x : Int × Int) (V : View) : PSpec 100 [.int .i64 x.1, .int .i64 x.2] V (fun v _ => v = pairX (wholeV x)) := by
 refine pspec [] (args := [.v _, .v _]) Tryz.func100 (by kernel_rfl) rfl ?_; conv => whnf
 intro b1
 conv => whnf
 apply br <;> intro h <;> conv => whnf
 ·have h : x.2 ≠ 0 := by simpa using h
  refine ret_pure ?_
  unfold wholeV
  rw [if_neg h]; rfl
 ·have h : x.2 = 0 := by simpa using h
  refine ret_pure ?_
  unfold wholeV
  rw [if_pos h]; rfl
def cmpI (a b : Int) : Int := if a < b then -1 else if b < a then 1 else 0
def cmpS (a b : ByteArray) : Int := if Op.bytesLess a.toList b.toList then -1 else if a.toList = b.toList then 0 else 1
theorem cmp_spec (a b : Int) (V : View) : PSpec 82 [.int .i64 a, .int .i64 b] V (fun v _ => v = .int .i64 (cmpI a b)) := by
 refine pspec [] (args := [.v _, .v _]) Tryz.func82 (by kernel_rfl) rfl ?_; conv => whnf
 refine CallN.pure (isNaN_spec _ _) fun v V' _ _ hv => ?_
 subst hv; conv => whnf
 refine CallN.pure (isNaN_spec _ _) fun v V' _ _ hv => ?_
 subst hv; conv => whnf
 refine br_f rfl ?_; conv => whnf
 refine br_f rfl ?_; conv => whnf
 apply br <;> intro h <;> conv => whnf
 ·refine ret_pure ?_
  simp_all [cmpI, packVals]
 ·apply br <;> intro h2 <;> conv => whnf
  ·refine ret_pure ?_
   simp_all [cmpI, packVals]
   try omega
  ·refine ret_pure ?_
   simp_all [cmpI, packVals]
   try omega
theorem cmp2_spec (a b : Int) (V : View) : PSpec 83 [.int .i64 a, .int .i64 b] V (fun v _ => v = .int .i64 (cmpI a b)) := by
 refine pspec [] (args := [.v _, .v _]) Tryz.func83 (by kernel_rfl) rfl ?_; conv => whnf
 refine CallN.pure (isNaN2_spec _ _) fun v V' _ _ hv => ?_
 subst hv; conv => whnf
 refine CallN.pure (isNaN2_spec _ _) fun v V' _ _ hv => ?_
 subst hv; conv => whnf
 refine br_f rfl ?_; conv => whnf
 refine br_f rfl ?_; conv => whnf
 apply br <;> intro h <;> conv => whnf
 ·refine ret_pure ?_
  simp_all [cmpI, packVals]
 ·apply br <;> intro h2 <;> conv => whnf
  ·refine ret_pure ?_
   simp_all [cmpI, packVals]
   try omega
  ·refine ret_pure ?_
   simp_all [cmpI, packVals]
   try omega
theorem cmp3_spec (a b : ByteArray) (V : View) : PSpec 84 [.string a, .string b] V (fun v _ => v = .int .i64 (cmpS a b)) := by
 refine pspec [] (args := [.v _, .v _]) Tryz.func84 (by kernel_rfl) rfl ?_; conv => whnf
 refine CallN.pure (isNaN3_spec _ _) fun v V' _ _ hv => ?_
 subst hv; conv => whnf
 refine CallN.pure (isNaN3_spec _ _) fun v V' _ _ hv => ?_
 subst hv; conv => whnf
 refine br_f rfl ?_; conv => whnf
 refine br_f rfl ?_; conv => whnf
 apply br <;> intro h <;> conv => whnf
 ·refine ret_pure ?_
  simp_all [cmpS, packVals]
 ·apply br <;> intro h2 <;> conv => whnf
  ·refine ret_pure ?_
   simp_all [cmpS, packVals]
   try omega
  ·refine ret_pure ?_
   simp_all [cmpS, packVals]
   try omega
/-- a slice of one pair -/
theorem first_spec (a b : Int) (p cap : Nat) (V : View) (hs : V.has p 0 [.int .i64 a, .int .i64 b]) : PSpec 65 [.slice (some ⟨p, 0, none⟩) 1 cap] V (fun v _ => v = .int .i64 (cmpI a b)) := by
 refine pspec [] (args := [.v _]) Tryz.func65 (by kernel_rfl) rfl ?_; conv => whnf
 refine LoopN.unroll 2 ?_; conv => whnf
 refine br_t rfl ?_; conv => whnf
 refine ⟨⟨p, 0, rfl, by decide, by decide, ?_⟩⟩
 conv => whnf
 refine ⟨⟨_, rfl, .inl hs, ?_⟩⟩
 conv => whnf
 intro b1
 conv => whnf
 refine CallN.pure (cmp_spec _ _ _) fun v V' _ _ hv => ?_
 subst hv; conv => whnf
 apply br <;> intro h <;> conv => whnf
 ·refine ret_pure ?_
  rfl
 ·refine br_f rfl ?_; conv => whnf
  refine ret_pure ?_
  simp_all [packVals]
/-- a slice of one pair -/
theorem first2_spec (a b : Int) (p cap : Nat) (V : View) (hs : V.has p 0 [.int .i64 a, .int .i64 b]) : PSpec 66 [.slice (some ⟨p, 0, none⟩) 1 cap] V (fun v _ => v = .int .i64 (cmpI a b)) := by
 refine pspec [] (args := [.v _]) Tryz.func66 (by kernel_rfl) rfl ?_; conv => whnf
 refine LoopN.unroll 2 ?_; conv => whnf
 refine br_t rfl ?_; conv => whnf
 refine ⟨⟨p, 0, rfl, by decide, by decide, ?_⟩⟩
 conv => whnf
 refine ⟨⟨_, rfl, .inl hs, ?_⟩⟩
 conv => whnf
 intro b1
 conv => whnf
 refine CallN.pure (cmp2_spec _ _ _) fun v V' _ _ hv => ?_
 subst hv; conv => whnf
 apply br <;> intro h <;> conv => whnf
 ·refine ret_pure ?_
  rfl
 ·refine br_f rfl ?_; conv => whnf
  refine ret_pure ?_
  simp_all [packVals]
/-- a slice of one pair -/
theorem first3_spec (a b : ByteArray) (p cap : Nat) (V : View) (hs : V.has p 0 [.string a, .string b]) : PSpec 67 [.slice (some ⟨p, 0, none⟩) 1 cap] V (fun v _ => v = .int .i64 (cmpS a b)) := by
 refine pspec [] (args := [.v _]) Tryz.func67 (by kernel_rfl) rfl ?_; conv => whnf
 refine LoopN.unroll 2 ?_; conv => whnf
 refine br_t rfl ?_; conv => whnf
 refine ⟨⟨p, 0, rfl, by decide, by decide, ?_⟩⟩
 conv => whnf
 refine ⟨⟨_, rfl, .inl hs, ?_⟩⟩
 conv => whnf
 intro b1
 conv => whnf
 refine CallN.pure (cmp3_spec _ _ _) fun v V' _ _ hv => ?_
 subst hv; conv => whnf
 apply br <;> intro h <;> conv => whnf
 ·refine ret_pure ?_
  rfl
 ·refine br_f rfl ?_; conv => whnf
  refine ret_pure ?_
  simp_all [packVals]
/-- the first of two that is not 0 -/
def orI (a b : Int) : Int := if a = 0 then b else a
theorem or_spec (a b : Int) (p cap : Nat) (V : View) (hs : V.has p 0 [.int .i64 a, .int .i64 b]) : PSpec 64 [.slice (some ⟨p, 0, none⟩) 2 cap] V (fun v _ => v = .int .i64 (orI a b)) := by
 refine pspec [] (args := [.v _]) Tryz.func64 (by kernel_rfl) rfl ?_; conv => whnf
 refine LoopN.unroll 3 ?_; conv => whnf
 refine br_t rfl ?_; conv => whnf
 refine ⟨⟨p, 0, rfl, by decide, by decide, ?_⟩⟩
 conv => whnf
 refine ⟨⟨[.int .i64 a], rfl, .inl fun i v hi => hs i v (by cases i <;> simp_all), ?_⟩⟩
 conv => whnf
 apply br <;> intro h <;> conv => whnf
 ·refine ret_pure ?_
  simp_all [packVals, orI]
 refine br_t rfl ?_; conv => whnf
 refine ⟨⟨p, 0, rfl, by decide, by decide, ?_⟩⟩
 conv => whnf
 refine ⟨⟨[.int .i64 b], rfl, .inl fun i v hi => ?_, ?_⟩⟩
 ·cases i with
  | zero => exact hs 1 v (by simpa using hi)
  | succ i => simp at hi
 conv => whnf
 apply br <;> intro h <;> conv => whnf
 ·refine ret_pure ?_
  simp_all [packVals, orI]
 refine br_f rfl ?_; conv => whnf
 refine ret_pure ?_
 simp_all [packVals, orI]
def pl54 : Plans := [(1, [(0, []), (1, []), (2, []), (3, []), (4, []), (7, []), (8, []), (9, []), (10, []), (11, []), (5, [12]), (6, [12]), (12, []), (13, []), (14, []), (15, []), (16, [])])]
def cmpV (a b : Val) : Int := orI (orI (cmpI a.k b.k) (cmpI a.n b.n)) (cmpS a.t b.t)
theorem compare_spec (a b : Val) (V : View) : PSpec 37 [vv a, vv b] V (fun v _ => v = .int .i64 (cmpV a b)) := by
 refine pspec pl54 (args := [.v _, .v _]) Tryz.func37 (by kernel_rfl) rfl ?_; conv => whnf
 intro b1
 conv => whnf
 intro b2
 conv => whnf
 intro b3 h3
 conv => whnf
 refine CallN.pure (first_spec a.k b.k _ _ _ h3.has) fun v V1 _ hV hv => ?_
 subst hv
 refine Prot.refl ?_; conv => whnf
 intro b4 h4
 conv => whnf
 refine CallN.pure (first2_spec a.n b.n _ _ _ h4.has) fun v V2 _ hV hv => ?_
 subst hv
 refine Prot.refl ?_; conv => whnf
 intro b5 h5
 conv => whnf
 refine CallN.pure (or_spec (cmpI a.k b.k) (cmpI a.n b.n) _ _ _ h5.has) fun v V3 _ hV hv => ?_
 subst hv
 refine Prot.refl ?_; conv => whnf
 apply br <;> intro h <;> conv => whnf
 ·refine ret_pure ?_
  simp_all [packVals, cmpV, orI]
 intro b6 V4 h6 h7
 conv => whnf
 refine CallN.pure (first3_spec a.t b.t _ _ _ h7) fun v V3 _ hV hv => ?_
 subst hv; conv => whnf
 refine ret_pure ?_
 simp_all [packVals, cmpV, orI]
end Go.Proofs.YtenpginanhnkbaaGreat
end

section
set_option linter.unusedSimpArgs false
set_option linter.unusedVariables false
namespace Go.Proofs.YtenpginanhnkbaaGreat
open Go.X
set_option maxRecDepth 100000
set_option linter.unusedSimpArgs false
theorem has_part {V : View} {b off : Nat} {l : List Value} (h : V.has b off l) (k n : Nat) : V.has b (off + k) ((l.drop k).take n) := fun i v hi => by
 rw [List.getElem?_take] at hi
 split at hi
 ·rw [List.getElem?_drop] at hi
  have := h (k + i) v hi
  rwa [← Nat.add_assoc] at this
 ·cases hi
theorem LoadN.of {V : View} {mem : Nat → Option Res} {b off off0 n : Nat} {K : List Value → Prop} {l : List Value} (h : V.has b off0 l) (k : Nat) (ho : off = off0 + k) (hn : ((l.drop k).take n).length = n) (hK : K ((l.drop k).take n)) : LoadN V mem b off n K :=
 ⟨⟨_, hn, .inl (by subst ho; exact has_part h k n), hK⟩⟩
theorem IdxN.of {b off len size : Nat} {i : Int} {K : Nat → Nat → Prop} (h0 : 0 ≤ i) (hl : i < len) (hK : K b (off + i.toNat * size)) : IdxN (some ⟨b, off, none⟩) len i size K := ⟨⟨b, off, rfl, h0, hl, hK⟩⟩
def unX (op : Int) (a : Val) : Val × Int := if op = 3 then wholeV (fits (-a.n)) else (truthV (a.n == 0), 0)
def binX (op : Int) (a b : Val) : Val × Int :=
 if op = 5 then wholeV (fits (a.n + b.n)) else if op = 6 then wholeV (fits (a.n - b.n)) else if op = 7 then wholeV (fits (a.n * b.n))
 else if op = 8 then (truthV (cmpV a b == 0), 0) else if op = 9 then (truthV (cmpV a b != 0), 0) else if op = 10 then (truthV (decide (cmpV a b < 0)), 0)
 else if op = 11 then (truthV (decide (cmpV a b ≤ 0)), 0) else if op = 12 then (truthV (decide (0 < cmpV a b)), 0) else if op = 13 then (truthV (decide (0 ≤ cmpV a b)), 0) else (v0, 1)
def pl70 : Plans := [(7, [(0, []), (1, []), (2, []), (3, []), (4, []), (5, []), (6, []), (7, []), (8, []), (9, []), (10, []), (11, []), (12, []), (13, []), (14, []), (15, [])]), (9, [(0, []), (1, []), (2, []), (3, []), (4, []), (5, []), (6, []), (7, []), (8, []), (9, []), (10, []), (11, []), (12, []), (13, []), (14, []), (15, [])]), (11, [(0, []), (1, []), (2, []), (3, []), (4, []), (5, []), (6, []), (7, []), (8, []), (9, []), (10, []), (11, []), (12, []), (13, []), (14, []), (15, [])]), (12, [(0, []), (1, []), (2, []), (3, []), (4, []), (5, []), (6, []), (7, [])])]
theorem does1_spec (op : Int) (hop : op = 3 ∨ op = 4) (a : Val) (ha : InR a.n) (p off cap : Nat) (V : View) (hs : V.has p off (vcells a)) :
  PSpec 90 [.int .i64 op, .slice (some ⟨p, off, none⟩) 1 cap] V (fun v _ => v = pairX (unX op a)) := by
 refine pspec pl70 (args := [.v _, .v _]) Tryz.func90 (by kernel_rfl) rfl ?_; conv => whnf
 intro b1
 conv => whnf
 apply br <;> intro h <;> conv => whnf
 ·refine IdxN.of (by decide) (by decide) ?_; conv => whnf
  refine LoadN.of hs 1 rfl rfl ?_; conv => whnf
  refine CallN.pure (neg_spec a.n ha _) fun v V1 _ hV hv => ?_
  subst hv; conv => whnf
  refine CallN.pure (whole_spec (fits (-a.n)) _) fun v V1 _ hV hv => ?_
  subst hv; conv => whnf
  refine ret_pure ?_
  simp only [beq_iff_eq] at h
  simp only [unX, h, if_true]
  rfl
 ·apply br <;> intro h2 <;> conv => whnf
  ·refine IdxN.of (by decide) (by decide) ?_; conv => whnf
   refine LoadN.of hs 1 rfl rfl ?_; conv => whnf
   refine CallN.pure (truth_spec (a.n == 0) _) fun v V1 _ hV hv => ?_
   subst hv; conv => whnf
   refine ret_pure ?_
   simp only [beq_iff_eq, beq_eq_false_iff_ne, ne_eq] at h h2
   simp only [unX, h, if_false]
   rfl
  ·simp only [beq_iff_eq, beq_eq_false_iff_ne, ne_eq] at h h2
   omega
set_option maxHeartbeats 4000000 in
theorem does2_spec (op : Int) (hop : 5 ≤ op ∧ op ≤ 13) (a b : Val) (ha : InR a.n) (hb : InR b.n) (p off cap : Nat) (V : View) (hs : V.has p off (vcells a ++ vcells b)) :
  PSpec 90 [.int .i64 op, .slice (some ⟨p, off, none⟩) 2 cap] V (fun v _ => v = pairX (binX op a b)) := by
 refine pspec pl70 (args := [.v _, .v _]) Tryz.func90 (by kernel_rfl) rfl ?_; conv => whnf
 intro b1
 conv => whnf
 apply br <;> intro h3 <;> conv => whnf
 ·simp only [beq_iff_eq] at h3; omega
 apply br <;> intro h4 <;> conv => whnf
 ·simp only [beq_iff_eq] at h4; omega
 apply br <;> intro h5 <;> conv => whnf
 ·refine IdxN.of (by decide) (by decide) ?_; conv => whnf
  refine LoadN.of hs 1 rfl rfl ?_; conv => whnf
  refine IdxN.of (by decide) (by decide) ?_; conv => whnf
  refine LoadN.of hs 4 rfl rfl ?_; conv => whnf
  refine CallN.pure (add_spec a.n b.n ha hb _) fun v V1 _ hV hv => ?_
  subst hv
  refine Prot.refl ?_; conv => whnf
  refine CallN.pure (whole_spec (fits (a.n + b.n)) _) fun v V1 _ hV hv => ?_
  subst hv
  refine Prot.refl ?_; conv => whnf
  refine ret_pure ?_
  simp only [beq_iff_eq] at h5
  subst h5
  rfl
 apply br <;> intro h6 <;> conv => whnf
 ·refine IdxN.of (by decide) (by decide) ?_; conv => whnf
  refine LoadN.of hs 1 rfl rfl ?_; conv => whnf
  refine IdxN.of (by decide) (by decide) ?_; conv => whnf
  refine LoadN.of hs 4 rfl rfl ?_; conv => whnf
  refine CallN.pure (sub_spec a.n b.n ha hb _) fun v V1 _ hV hv => ?_
  subst hv
  refine Prot.refl ?_; conv => whnf
  refine CallN.pure (whole_spec (fits (a.n - b.n)) _) fun v V1 _ hV hv => ?_
  subst hv
  refine Prot.refl ?_; conv => whnf
  refine ret_pure ?_
  simp only [beq_iff_eq] at h6
  subst h6
  rfl
 apply br <;> intro h7 <;> conv => whnf
 ·refine IdxN.of (by decide) (by decide) ?_; conv => whnf
  refine LoadN.of hs 1 rfl rfl ?_; conv => whnf
  refine IdxN.of (by decide) (by decide) ?_; conv => whnf
  refine LoadN.of hs 4 rfl rfl ?_; conv => whnf
  refine CallN.pure (mul_spec a.n b.n ha hb _) fun v V1 _ hV hv => ?_
  subst hv
  refine Prot.refl ?_; conv => whnf
  refine CallN.pure (whole_spec (fits (a.n * b.n)) _) fun v V1 _ hV hv => ?_
  subst hv
  refine Prot.refl ?_; conv => whnf
  refine ret_pure ?_
  simp only [beq_iff_eq] at h7
  subst h7
  rfl
 refine IdxN.of (by decide) (by decide) ?_; conv => whnf
 refine LoadN.of hs 0 rfl rfl ?_; conv => whnf
 refine IdxN.of (by decide) (by decide) ?_; conv => whnf
 refine LoadN.of hs 3 rfl rfl ?_; conv => whnf
 refine CallN.pure (compare_spec a b _) fun v V1 _ hV hv => ?_
 subst hv
 refine Prot.refl ?_; conv => whnf
 apply br <;> intro h8 <;> conv => whnf
 ·refine CallN.pure (truth_spec (cmpV a b == 0) _) fun v V1 _ hV hv => ?_
  subst hv; conv => whnf
  refine ret_pure ?_
  simp only [beq_iff_eq] at h8
  subst h8
  rfl
 apply br <;> intro h9 <;> conv => whnf
 ·refine CallN.pure (truth_spec (cmpV a b != 0) _) fun v V1 _ hV hv => ?_
  subst hv; conv => whnf
  refine ret_pure ?_
  simp only [beq_iff_eq] at h9
  subst h9
  rfl
 apply br <;> intro h10 <;> conv => whnf
 ·refine CallN.pure (truth_spec (decide (cmpV a b < 0)) _) fun v V1 _ hV hv => ?_
  subst hv; conv => whnf
  refine ret_pure ?_
  simp only [beq_iff_eq] at h10
  subst h10
  rfl
 apply br <;> intro h11 <;> conv => whnf
 ·refine CallN.pure (truth_spec (decide (cmpV a b ≤ 0)) _) fun v V1 _ hV hv => ?_
  subst hv; conv => whnf
  refine ret_pure ?_
  simp only [beq_iff_eq] at h11
  subst h11
  rfl
 apply br <;> intro h12 <;> conv => whnf
 ·refine CallN.pure (truth_spec (decide (0 < cmpV a b)) _) fun v V1 _ hV hv => ?_
  subst hv; conv => whnf
  refine ret_pure ?_
  simp only [beq_iff_eq] at h12
  subst h12
  rfl
 apply br <;> intro h13 <;> conv => whnf
 ·refine CallN.pure (truth_spec (decide (0 ≤ cmpV a b)) _) fun v V1 _ hV hv => ?_
  subst hv; conv => whnf
  refine ret_pure ?_
  simp only [beq_iff_eq] at h13
  subst h13
  rfl
 simp only [beq_eq_false_iff_ne, ne_eq] at *
 omega
theorem one_spec (op : Int) (V : View) : PSpec 88 [.int .i64 op] V (fun v _ => v = .int .i64 (if op = 3 ∨ op = 4 then 1 else 0)) := by
 refine pspec [] (args := [.v _]) Tryz.func88 (by kernel_rfl) rfl ?_; conv => whnf
 apply br <;> intro h <;> conv => whnf
 ·refine ret_pure ?_
  simp_all [packVals]
 ·apply br <;> intro h2 <;> conv => whnf
  ·refine ret_pure ?_
   simp_all [packVals]
  ·refine ret_pure ?_
   simp_all [packVals]
structure XC where
 op : Int
 v : Val
 tb : ByteArray
 nm : ByteArray
 base : Option Addr
 len : Nat
 cap : Nat
def xcells (x : XC) : List Value := [.int .i64 x.op, .int .i64 x.v.k, .int .i64 x.v.n, .string x.v.t, .string x.tb, .string x.nm, .slice x.base x.len x.cap]
def xagg (x : XC) : Value := .agg #[.int .i64 x.op, .int .i64 x.v.k, .int .i64 x.v.n, .string x.v.t, .string x.tb, .string x.nm, .slice x.base x.len x.cap]
def closure (sc : Value) : Value := .func (.func 76) #[sc] #[]
theorem cells_cut {V : View} {base : Option Addr} {len cap : Nat} {x : Value} {l : List Value} (h : V.cells (.slice base len cap) (x :: l)) : ∃ p off, base = some ⟨p, off, none⟩ ∧ V.has p off (x :: l) := by
 unfold View.cells at h
 split at h
 ·rename_i b off _ _ he
  simp only [Value.slice.injEq] at he
  obtain ⟨rfl, rfl, rfl⟩ := he
  exact ⟨b, off, rfl, h⟩
 ·cases h
 ·exact h.elim
theorem AppN.of {V : View} {mem : Nat → Option Res} {g : Option Nat} {v : Value} {n size bytes m cap : Nat} {base : Option Addr} {K : Value → Nat → View → Prop} (xs news : List Value) (hx : V.cells v xs) (hxl : xs.length = n * size)
  (hn : V.cells (.slice base m cap) news) (hnl : news.length = m * size) (h1 : allOne news = true) (hm : n + m ≤ 100000) (hb : bytes ≤ 100000)
  (k : ∀ base cap V', V.le V' → V'.cells (.slice base (n + m) cap) (xs ++ news) → K (.slice base (n + m) cap) (n + m) V') : AppN V mem g v n size bytes (.slice base m cap) K := by
 refine ⟨⟨xs, news, m, hx, hxl, ⟨_, _, rfl⟩, .inr hn, hnl, allOne_spec h1, Nat.le_trans hm (by decide), ?_, fun v' V' hle hc hv' _ => ?_⟩⟩
 ·exact Nat.le_trans (Nat.mul_le_mul hm hb) (by decide)
 ·obtain ⟨base', cap', rfl, _⟩ := hv'
  exact k base' cap' V' hle hc
/-- what 'each' hands back, of one -/
def Each1 (r : Val × Int) (v : Value) (V : View) : Prop :=
 if r.2 = 0 then ∃ p off cap, v = .tuple #[.slice (some ⟨p, off, none⟩) 1 cap, .int .i64 0] ∧ V.has p off (vcells r.1) else v = .tuple #[.slice none 0 0, .int .i64 r.2]
theorem each1_spec (sc : Value) (x : XC) (r : Val × Int) (p off cap : Nat) (V : View) (hs : V.has p off (xcells x)) (h : ∀ V', V.le V' → PSpec 76 [sc, xagg x] V' (fun v _ => v = pairX r)) :
  PSpec 75 [.slice (some ⟨p, off, none⟩) 1 cap, closure sc] V (Each1 r) := by
 refine pspec [] (args := [.v _, .v _]) Tryz.func75 (by kernel_rfl) rfl ?_; conv => whnf
 refine LoopN.unroll 2 ?_; conv => whnf
 refine br_t rfl ?_; conv => whnf
 refine IdxN.of (by decide) (by decide) ?_; conv => whnf
 refine LoadN.of hs 0 rfl rfl ?_; conv => whnf
 intro b1
 conv => whnf
 refine CallN.pure (h _ (View.le_refl _)) fun v V1 _ hV hv => ?_
 subst hv; conv => whnf
 intro b2
 conv => whnf
 apply br <;> intro he <;> conv => whnf
 ·refine ret_pure ?_
  have : r.2 ≠ 0 := by simpa using he
  unfold Each1
  rw [if_neg this]
  rfl
 intro b3 V2 hV2 h3
 conv => whnf
 refine AppN.of [] (vcells r.1) rfl rfl h3 rfl rfl (by decide) (by decide) fun base cap V3 hV3 hc => ?_
 obtain ⟨p3, off3, rfl, hc⟩ := cells_cut hc
 conv => whnf
 refine br_f rfl ?_; conv => whnf
 refine ret_pure ?_
 have : r.2 = 0 := by simpa using he
 unfold Each1
 rw [if_pos this]
 exact ⟨_, _, _, rfl, hc⟩
/-- what 'each' hands back, of two -/
def Each2 (r s : Val × Int) (v : Value) (V : View) : Prop :=
 if r.2 = 0 then (if s.2 = 0 then ∃ p off cap, v = .tuple #[.slice (some ⟨p, off, none⟩) 2 cap, .int .i64 0] ∧ V.has p off (vcells r.1 ++ vcells s.1) else v = .tuple #[.slice none 0 0, .int .i64 s.2]) else v = .tuple #[.slice none 0 0, .int .i64 r.2]
theorem each2_spec (sc : Value) (x y : XC) (r s : Val × Int) (p off cap : Nat) (V : View) (hs : V.has p off (xcells x ++ xcells y)) (h : ∀ V', V.le V' → PSpec 76 [sc, xagg x] V' (fun v _ => v = pairX r))
  (h' : ∀ V', V.le V' → PSpec 76 [sc, xagg y] V' (fun v _ => v = pairX s)) :
  PSpec 75 [.slice (some ⟨p, off, none⟩) 2 cap, closure sc] V (Each2 r s) := by
 refine pspec [] (args := [.v _, .v _]) Tryz.func75 (by kernel_rfl) rfl ?_; conv => whnf
 refine LoopN.unroll 3 ?_; conv => whnf
 refine br_t rfl ?_; conv => whnf
 refine IdxN.of (by decide) (by decide) ?_; conv => whnf
 refine LoadN.of hs 0 rfl rfl ?_; conv => whnf
 intro b1
 conv => whnf
 refine CallN.pure (h _ (View.le_refl _)) fun v V1 _ hV hv => ?_
 subst hv; conv => whnf
 intro b2
 conv => whnf
 apply br <;> intro he <;> conv => whnf
 ·refine ret_pure ?_
  have : r.2 ≠ 0 := by simpa using he
  unfold Each2
  rw [if_neg this]
  rfl
 intro b3 V2 hV2 h3
 conv => whnf
 refine AppN.of [] (vcells r.1) rfl rfl h3 rfl rfl (by decide) (by decide) fun base cap V3 hV3 hc => ?_
 obtain ⟨p3, off3, rfl, hc⟩ := cells_cut hc
 have hle := View.le_trans hV (View.le_trans hV2 hV3)
 conv => whnf
 refine br_t rfl ?_; conv => whnf
 refine IdxN.of (by decide) (by decide) ?_; conv => whnf
 refine LoadN.of (hs.mono hle) 7 rfl rfl ?_; conv => whnf
 intro b4
 conv => whnf
 refine CallN.pure (h' _ hle) fun v V4 _ hV4 hv => ?_
 subst hv; conv => whnf
 intro b5
 conv => whnf
 apply br <;> intro he2 <;> conv => whnf
 ·refine ret_pure ?_
  have h1 : r.2 = 0 := by simpa using he
  have h2 : s.2 ≠ 0 := by simpa using he2
  unfold Each2
  rw [if_pos h1, if_neg h2]
  rfl
 intro b6 V5 hV5 h6
 conv => whnf
 refine AppN.of (vcells r.1) (vcells s.1) (hc.mono (View.le_trans hV4 hV5)) rfl h6 rfl rfl (by decide) (by decide) fun base cap V6 hV6 hc => ?_
 obtain ⟨p6, off6, rfl, hc⟩ := cells_cut hc
 conv => whnf
 refine br_f rfl ?_; conv => whnf
 refine ret_pure ?_
 have h1 : r.2 = 0 := by simpa using he
 have h2 : s.2 = 0 := by simpa using he2
 unfold Each2
 rw [if_pos h1, if_pos h2]
 exact ⟨_, _, _, rfl, hc⟩
inductive E where
 | lit (v : Val)
 | col (tb nm : ByteArray)
 | un (op : Int) (a : E)
 | bin (op : Int) (a b : E)
def RepE (V : View) : E → XC → Prop
 | .lit v, x => x.op = 1 ∧ x.v = v
 | .col tb nm, x => x.op = 2 ∧ x.tb = tb ∧ x.nm = nm
 | .un op a, x => x.op = op ∧ (op = 3 ∨ op = 4) ∧ x.len = 1 ∧ ∃ p off xa, x.base = some ⟨p, off, none⟩ ∧ V.has p off (xcells xa) ∧ RepE V a xa
 | .bin op a b, x => x.op = op ∧ (5 ≤ op ∧ op ≤ 15) ∧ x.len = 2 ∧ ∃ p off xa xb, x.base = some ⟨p, off, none⟩ ∧ V.has p off (xcells xa ++ xcells xb) ∧ RepE V a xa ∧ RepE V b xb
theorem RepE.mono {V V' : View} (hV : V.le V') : ∀ {e : E} {x : XC}, RepE V e x → RepE V' e x
 | .lit v, x, h => h
 | .col tb nm, x, h => h
 | .un op a, x, ⟨h1, h2, h3, p, off, xa, h4, h5, h6⟩ => ⟨h1, h2, h3, p, off, xa, h4, h5.mono hV, h6.mono hV⟩
 | .bin op a b, x, ⟨h1, h2, h3, p, off, xa, xb, h4, h5, h6, h7⟩ => ⟨h1, h2, h3, p, off, xa, xb, h4, h5.mono hV, h6.mono hV, h7.mono hV⟩
/-- what an expression comes to -/
def evalX (colX : ByteArray → ByteArray → Val × Int) : E → Val × Int
 | .lit v => (v, 0)
 | .col tb nm => colX tb nm
 | .un op a => if (evalX colX a).2 = 0 then unX op (evalX colX a).1 else (v0, (evalX colX a).2)
 | .bin op a b =>
  if op = 14 ∨ op = 15 then (if (evalX colX a).2 ≠ 0 ∨ (evalX colX a).1.n = op - 14 then evalX colX a else evalX colX b)
  else if (evalX colX a).2 = 0 then (if (evalX colX b).2 = 0 then binX op (evalX colX a).1 (evalX colX b).1 else (v0, (evalX colX b).2)) else (v0, (evalX colX a).2)
def E.ok : E → Prop
 | .lit v => InR v.n
 | .col _ _ => True
 | .un _ a => a.ok
 | .bin _ a b => a.ok ∧ b.ok
theorem fits_inR (x : Int) : InR (fits x).1 := by
 unfold fits InR
 split
 ·assumption
 ·decide
theorem v0_inR : InR v0.n := ⟨by decide, by decide⟩
theorem whole_inR {x : Int × Int} (h : InR x.1) : InR (wholeV x).1.n := by
 unfold wholeV
 split
 ·exact h
 ·exact v0_inR
theorem truth_inR (b : Bool) : InR (truthV b).n := by cases b <;> exact ⟨by decide, by decide⟩
theorem unX_inR (op : Int) (a : Val) : InR (unX op a).1.n := by
 unfold unX
 split
 ·exact whole_inR (fits_inR _)
 ·exact truth_inR _
theorem binX_inR (op : Int) (a b : Val) : InR (binX op a b).1.n := by
 unfold binX
 repeat' split
 all_goals first | exact whole_inR (fits_inR _) | exact truth_inR _ | exact v0_inR
theorem evalX_inR {colX : ByteArray → ByteArray → Val × Int} (hc : ∀ tb nm, InR (colX tb nm).1.n) : ∀ (e : E), e.ok → InR (evalX colX e).1.n
 | .lit v, h => h
 | .col tb nm, _ => hc tb nm
 | .un op a, h => by
  unfold evalX
  split
  ·exact unX_inR _ _
  ·exact v0_inR
 | .bin op a b, h => by
  unfold evalX
  repeat' split
  all_goals first | exact evalX_inR hc a h.1 | exact evalX_inR hc b h.2 | exact binX_inR _ _ _ | exact v0_inR
def pl69 : Plans := [(1, [(0, []), (1, []), (2, []), (3, []), (4, []), (5, [9]), (6, []), (7, []), (8, []), (9, []), (10, []), (11, [])]), (4, [(0, []), (1, []), (2, []), (3, []), (4, []), (5, []), (6, []), (7, []), (8, []), (9, [])])]
theorem IdxN.lit {b off len size : Nat} {i : Int} {K : Nat → Nat → Prop} (h0 : decide (0 ≤ i) = true) (hl : decide (i < (len : Int)) = true) (hK : K b (off + i.toNat * size)) : IdxN (some ⟨b, off, none⟩) len i size K :=
 IdxN.of (of_decide_eq_true h0) (of_decide_eq_true hl) hK
theorem either_spec (cs vs : Value) (all : Int) (x xa xb : XC) (r s : Val × Int) (p off : Nat) (V : View) (hl : x.len = 2) (hb : x.base = some ⟨p, off, none⟩) (hs : V.has p off (xcells xa ++ xcells xb))
  (h : ∀ V', V.le V' → PSpec 76 [.agg #[cs, vs], xagg xa] V' (fun v _ => v = pairX r)) (h' : ∀ V', V.le V' → PSpec 76 [.agg #[cs, vs], xagg xb] V' (fun v _ => v = pairX s)) :
  PSpec 89 [.agg #[cs, vs], xagg x, .int .i64 all] V (fun v _ => v = pairX (if r.2 ≠ 0 ∨ r.1.n = all then r else s)) := by
 obtain ⟨xop, xv, xtb, xnm, xbase, xlen, xcap⟩ := x
 simp only at hl hb
 subst hl; subst hb
 refine pspec pl69 (args := [.v _, .v _, .v _]) Tryz.func89 (by kernel_rfl) rfl ?_; conv => whnf
 intro b1
 conv => whnf
 intro b2
 conv => whnf
 intro b3
 conv => whnf
 refine IdxN.lit rfl rfl ?_; conv => whnf
 refine LoadN.of hs 0 rfl rfl ?_; conv => whnf
 refine CallN.pure (h _ (View.le_refl _)) fun v V1 _ hV hv => ?_
 subst hv
 refine Prot.refl ?_; conv => whnf
 intro b4 hb4
 conv => whnf
 apply br <;> intro he <;> conv => whnf
 ·refine ret_pure ?_
  have h1 : r.2 ≠ 0 := by simpa using he
  rw [if_pos (.inl h1)]
  rfl
 have h1 : r.2 = 0 := by simpa using he
 apply br <;> intro he2 <;> conv => whnf
 ·refine ret_pure ?_
  have h2 : r.1.n = all := by simpa using he2
  rw [if_pos (.inr h2)]
  rfl
 have h2 : ¬ r.1.n = all := by simpa using he2
 refine IdxN.lit rfl rfl ?_; conv => whnf
 refine LoadN.of (hs.mono hV) 7 rfl rfl ?_; conv => whnf
 refine CallN.pure (h' _ hV) fun v V2 _ hV2 hv => ?_
 subst hv
 refine Prot.refl ?_; conv => whnf
 refine ret_pure ?_
 rw [if_neg (by simp [h1, h2])]
 rfl
set_option maxHeartbeats 4000000 in
/-- eval, whatever the columns say -/
theorem eval_spec (cs vs : Value) (colX : ByteArray → ByteArray → Val × Int) (hc : ∀ tb nm, InR (colX tb nm).1.n) : ∀ (e : E) (x : XC) (V : View), e.ok → RepE V e x →
  (∀ tb nm V', V.le V' → PSpec 87 [.agg #[cs, vs], .string tb, .string nm] V' (fun v _ => v = pairX (colX tb nm))) → PSpec 76 [.agg #[cs, vs], xagg x] V (fun v _ => v = pairX (evalX colX e))
 | .lit v, ⟨xop, xv, xtb, xnm, xbase, xlen, xcap⟩, V, hok, hr, hcol => by
  obtain ⟨hop, hv⟩ := hr
  simp only at hop hv
  subst hop; subst hv
  refine pspec [] (args := [.v _, .v _]) Tryz.func76 (by kernel_rfl) rfl ?_; conv => whnf
  intro b1
  conv => whnf
  intro b2
  conv => whnf
  intro b3
  conv => whnf
  refine br_t rfl ?_; conv => whnf
  exact ret_pure rfl
 | .col tb nm, ⟨xop, xv, xtb, xnm, xbase, xlen, xcap⟩, V, hok, hr, hcol => by
  obtain ⟨hop, h1, h2⟩ := hr
  simp only at hop h1 h2
  subst hop; subst h1; subst h2
  refine pspec [] (args := [.v _, .v _]) Tryz.func76 (by kernel_rfl) rfl ?_; conv => whnf
  intro b1
  conv => whnf
  intro b2
  conv => whnf
  intro b3
  conv => whnf
  refine br_f rfl ?_; conv => whnf
  refine br_t rfl ?_; conv => whnf
  refine CallN.pure (hcol _ _ _ (View.le_refl _)) fun v V2 _ hV2 hv => ?_
  subst hv; conv => whnf
  exact ret_pure rfl
 | .un op a, ⟨xop, xv, xtb, xnm, xbase, xlen, xcap⟩, V, hok, hr, hcol => by
  obtain ⟨hop, hop2, hl, p, off, xa, hb, hs, hra⟩ := hr
  simp only at hop hl hb
  subst hop; subst hl; subst hb
  have ih : ∀ V', V.le V' → PSpec 76 [.agg #[cs, vs], xagg xa] V' (fun v _ => v = pairX (evalX colX a)) := fun V' hV => eval_spec cs vs colX hc a xa V' hok (hra.mono hV) (fun tb nm V2 h2 => hcol tb nm V2 (View.le_trans hV h2))
  refine pspec [] (args := [.v _, .v _]) Tryz.func76 (by kernel_rfl) rfl ?_; conv => whnf
  intro b1
  conv => whnf
  intro b2
  conv => whnf
  intro b3
  conv => whnf
  refine br_f (by simp only [beq_eq_false_iff_ne, ne_eq]; omega) ?_; conv => whnf
  refine br_f (by simp only [beq_eq_false_iff_ne, ne_eq]; omega) ?_; conv => whnf
  refine CallN.pure (one_spec xop _) fun v V1 _ hV1 hv => ?_
  rw [if_pos hop2] at hv
  subst hv; conv => whnf
  refine br_f rfl ?_; conv => whnf
  refine br_f (by simp only [beq_eq_false_iff_ne, ne_eq]; omega) ?_; conv => whnf
  refine br_f (by simp only [beq_eq_false_iff_ne, ne_eq]; omega) ?_; conv => whnf
  refine CallN.pure (each1_spec (.agg #[cs, vs]) xa _ p off xcap _ (hs.mono hV1) (fun V' hV' => ih V' (View.le_trans hV1 hV'))) fun v V2 _ hV2 hv => ?_
  unfold Each1 at hv
  split at hv
  ·rename_i h0
   obtain ⟨p2, off2, cap2, rfl, hs2⟩ := hv
   conv => whnf
   refine br_f rfl ?_; conv => whnf
   refine CallN.pure (does1_spec xop hop2 _ (evalX_inR hc a hok) p2 off2 cap2 _ hs2) fun v V3 _ hV3 hv => ?_
   subst hv; conv => whnf
   refine ret_pure ?_
   rw [evalX, if_pos h0]
   rfl
  ·rename_i h0
   subst hv; conv => whnf
   refine br_t (by simpa using h0) ?_; conv => whnf
   refine ret_pure ?_
   rw [evalX, if_neg h0]
   rfl
 | .bin op a b, ⟨xop, xv, xtb, xnm, xbase, xlen, xcap⟩, V, hok, hr, hcol => by
  obtain ⟨hop, hop2, hl, p, off, xa, xb, hb, hs, hra, hrb⟩ := hr
  simp only at hop hl hb
  subst hop; subst hl; subst hb
  have ih : ∀ V', V.le V' → PSpec 76 [.agg #[cs, vs], xagg xa] V' (fun v _ => v = pairX (evalX colX a)) := fun V' hV => eval_spec cs vs colX hc a xa V' hok.1 (hra.mono hV) (fun tb nm V2 h2 => hcol tb nm V2 (View.le_trans hV h2))
  have ih2 : ∀ V', V.le V' → PSpec 76 [.agg #[cs, vs], xagg xb] V' (fun v _ => v = pairX (evalX colX b)) := fun V' hV => eval_spec cs vs colX hc b xb V' hok.2 (hrb.mono hV) (fun tb nm V2 h2 => hcol tb nm V2 (View.le_trans hV h2))
  refine pspec [] (args := [.v _, .v _]) Tryz.func76 (by kernel_rfl) rfl ?_; conv => whnf
  intro b1
  conv => whnf
  intro b2
  conv => whnf
  intro b3
  conv => whnf
  refine br_f (by simp only [beq_eq_false_iff_ne, ne_eq]; omega) ?_; conv => whnf
  refine br_f (by simp only [beq_eq_false_iff_ne, ne_eq]; omega) ?_; conv => whnf
  refine CallN.pure (one_spec xop _) fun v V1 _ hV1 hv => ?_
  rw [if_neg (by omega)] at hv
  subst hv; conv => whnf
  refine br_f rfl ?_; conv => whnf
  apply br <;> intro h14 <;> conv => whnf
  ·simp only [beq_iff_eq] at h14
   subst h14
   refine CallN.pure (either_spec cs vs 0 ⟨14, xv, xtb, xnm, some ⟨p, off, none⟩, 2, xcap⟩ xa xb _ _ p off _ rfl rfl (hs.mono hV1) (fun V' hV' => ih V' (View.le_trans hV1 hV')) (fun V' hV' => ih2 V' (View.le_trans hV1 hV'))) fun v V2 _ hV2 hv => ?_
   subst hv; conv => whnf
   refine ret_pure ?_
   rw [show evalX colX (.bin 14 a b) = (if (evalX colX a).2 ≠ 0 ∨ (evalX colX a).1.n = 0 then evalX colX a else evalX colX b) from by simp [evalX]]
   rfl
  apply br <;> intro h15 <;> conv => whnf
  ·simp only [beq_iff_eq] at h15
   subst h15
   refine CallN.pure (either_spec cs vs 1 ⟨15, xv, xtb, xnm, some ⟨p, off, none⟩, 2, xcap⟩ xa xb _ _ p off _ rfl rfl (hs.mono hV1) (fun V' hV' => ih V' (View.le_trans hV1 hV')) (fun V' hV' => ih2 V' (View.le_trans hV1 hV'))) fun v V2 _ hV2 hv => ?_
   subst hv; conv => whnf
   refine ret_pure ?_
   rw [show evalX colX (.bin 15 a b) = (if (evalX colX a).2 ≠ 0 ∨ (evalX colX a).1.n = 1 then evalX colX a else evalX colX b) from by simp [evalX]]
   rfl
  simp only [beq_eq_false_iff_ne, ne_eq] at h14 h15
  have hno : ¬ (xop = 14 ∨ xop = 15) := by omega
  refine CallN.pure (each2_spec (.agg #[cs, vs]) xa xb _ _ p off xcap _ (hs.mono hV1) (fun V' hV' => ih V' (View.le_trans hV1 hV')) (fun V' hV' => ih2 V' (View.le_trans hV1 hV'))) fun v V2 _ hV2 hv => ?_
  unfold Each2 at hv
  split at hv
  ·rename_i h0
   split at hv
   ·rename_i h1
    obtain ⟨p2, off2, cap2, rfl, hs2⟩ := hv
    conv => whnf
    refine br_f rfl ?_; conv => whnf
    refine CallN.pure (does2_spec xop (by omega) _ _ (evalX_inR hc a hok.1) (evalX_inR hc b hok.2) p2 off2 cap2 _ hs2) fun v V3 _ hV3 hv => ?_
    subst hv; conv => whnf
    refine ret_pure ?_
    rw [evalX, if_neg hno, if_pos h0, if_pos h1]
    rfl
   ·rename_i h1
    subst hv; conv => whnf
    refine br_t (by simpa using h1) ?_; conv => whnf
    refine ret_pure ?_
    rw [evalX, if_neg hno, if_pos h0, if_neg h1]
    rfl
  ·rename_i h0
   subst hv; conv => whnf
   refine br_t (by simpa using h0) ?_; conv => whnf
   refine ret_pure ?_
   rw [evalX, if_neg hno, if_neg h0]
   rfl
theorem wrapU (x : Int) : IntKind.u64.wrap x = x % 18446744073709551616 := by
 simp [IntKind.wrap, IntKind.signed, IntKind.bits]
theorem radd_spec (a b : Int) (ha : InR a) (hb : InR b) (V : View) : PSpec 59 [.int .i64 a, .int .i64 b] V (fun v _ => v = pairV (fits (a + b))) := by
  refine pspec [] (args := [.v _, .v _]) Tryz.func59 (by kernel_rfl) rfl ?_; conv => whnf
  obtain ⟨h1, h2⟩ := ha
  obtain ⟨h3, h4⟩ := hb
  repeat' (apply br <;> intro h <;> conv => whnf)
  all_goals (refine ret_pure ?_)
  all_goals
    simp only [decide_eq_true_eq, decide_eq_false_iff_not, wrapE] at *
    first
      | (show pairV (0, 8) = _
         unfold fits
         rw [if_neg (by omega)])
      | (unfold fits
         rw [if_pos (by omega)]
         show pairV ((a + b + 9223372036854775808) % 18446744073709551616 - 9223372036854775808, 0) = _
         congr 2
         omega)
theorem rsub_spec (a b : Int) (ha : InR a) (hb : InR b) (V : View) : PSpec 79 [.int .i64 a, .int .i64 b] V (fun v _ => v = pairV (fits (a - b))) := by
  refine pspec [] (args := [.v _, .v _]) Tryz.func79 (by kernel_rfl) rfl ?_; conv => whnf
  obtain ⟨h1, h2⟩ := ha
  obtain ⟨h3, h4⟩ := hb
  repeat' (apply br <;> intro h <;> conv => whnf)
  all_goals (refine ret_pure ?_)
  all_goals
    simp only [decide_eq_true_eq, decide_eq_false_iff_not, wrapE] at *
    first
      | (show pairV (0, 8) = _
         unfold fits
         rw [if_neg (by omega)])
      | (unfold fits
         rw [if_pos (by omega)]
         show pairV ((a - b + 9223372036854775808) % 18446744073709551616 - 9223372036854775808, 0) = _
         congr 2
         omega)
theorem rneg_spec (a : Int) (ha : InR a) (V : View) : PSpec 55 [.int .i64 a] V (fun v _ => v = pairV (fits (-a))) := by
 refine pspec [] (args := [.v _]) Tryz.func55 (by kernel_rfl) rfl ?_; conv => whnf
 refine CallN.pure (rsub_spec 0 a ⟨by decide, by decide⟩ ha _) fun v V' _ _ hv => ?_
 subst hv; conv => whnf
 refine ret_pure ?_
 show pairV (fits (0 - a)) = _
 rw [Int.zero_sub]
theorem rsize_spec (a : Int) (ha : InR a) (V : View) : PSpec 94 [.int .i64 a] V (fun v _ => v = .int .u64 a.natAbs) := by
 refine pspec [] (args := [.v _]) Tryz.func94 (by kernel_rfl) rfl ?_; conv => whnf
 obtain ⟨h1, h2⟩ := ha
 repeat' (apply br <;> intro h <;> conv => whnf)
 all_goals (refine ret_pure ?_)
 all_goals simp only [decide_eq_true_eq, decide_eq_false_iff_not] at h
 all_goals
  show Value.int IntKind.u64 _ = _
  congr 1
  simp only [wrapU, wrapE]
  omega
theorem quo_runU (x y : Operand) (p b : Int) (h : b ≠ 0) (w : World) : Sem.run Tryz.prog (do
      eqGuard BinOp.quo 154 x y (.int .u64 p) (.int .u64 b)
      binOp BinOp.quo 154 (.int .u64 p) (.int .u64 b)) w = .ok (.int .u64 (IntKind.u64.wrap (p.tdiv b))) w := by
  simp [eqGuard, binOp, Op.intDiv, h]
theorem sign_law (a b : Int) : ((a < 0 ↔ b < 0) → 0 ≤ a * b) ∧ (¬ (a < 0 ↔ b < 0) → a * b ≤ 0) := by
 refine ⟨fun h => ?_, fun h => ?_⟩
 ·by_cases ha : a < 0
  ·exact Int.mul_nonneg_of_nonpos_of_nonpos (by omega) (by have := h.1 ha; omega)
  ·exact Int.mul_nonneg (by omega) (by
    by_cases hb : b < 0
    ·exact absurd (h.2 hb) ha
    ·omega)
 ·by_cases ha : a < 0
  ·exact Int.mul_nonpos_of_nonpos_of_nonneg (by omega) (by
    by_cases hb : b < 0
    ·exact absurd ⟨fun _ => hb, fun _ => ha⟩ h
    ·omega)
  ·exact Int.mul_nonpos_of_nonneg_of_nonpos (by omega) (by
    by_cases hb : b < 0
    ·omega
    ·exact absurd ⟨fun h => absurd h ha, fun h => absurd h hb⟩ h)
theorem rmul_spec (a b : Int) (ha : InR a) (hb : InR b) (V : View) : PSpec 80 [.int .i64 a, .int .i64 b] V (fun v _ => v = pairV (fits (a * b))) := by
 refine pspec [] (args := [.v _, .v _]) Tryz.func80 (by kernel_rfl) rfl ?_; conv => whnf
 apply br <;> intro h0 <;> conv => whnf
 ·refine ret_pure ?_
  simp only [beq_iff_eq] at h0
  subst h0
  show pairV (0, 0) = _
  simp [fits]
 apply br <;> intro h1 <;> conv => whnf
 ·refine ret_pure ?_
  simp only [beq_iff_eq] at h1
  subst h1
  show pairV (0, 0) = _
  simp [fits]
 apply br <;> intro h2 <;> conv => whnf
 all_goals
  refine CallN.pure (rsize_spec a ha _) fun v V' _ _ hv => ?_
  subst hv; conv => whnf
  refine CallN.pure (rsize_spec b hb _) fun v V' _ _ hv => ?_
  subst hv; conv => whnf
  simp only [beq_eq_false_iff_ne, ne_eq] at h0 h1
  refine ⟨⟨_, quo_runU _ _ _ _ (by omega), ?_⟩⟩
  conv => whnf
  have hB : (0 : Int) < (b.natAbs : Int) := by omega
  have hq : (IntKind.u64.wrap (9223372036854775807 + 1)) = 9223372036854775808 := by rw [wrapU]; rfl
  have hn : (a * b).natAbs = a.natAbs * b.natAbs := Int.natAbs_mul a b
  have hs := sign_law a b
  apply br <;> intro h3 <;> conv => whnf
  all_goals
   refine ret_pure ?_
   simp only [hq, wrapU, gt_iff_lt, decide_eq_true_eq, decide_eq_false_iff_not] at h3
   rw [Int.tdiv_eq_ediv_of_nonneg (by decide)] at h3
   rw [Int.emod_eq_of_lt (Int.ediv_nonneg (by decide) (by omega)) (by
    refine Int.lt_of_le_of_lt (Int.ediv_le_self _ (by decide)) (by decide)), Int.ediv_lt_iff_lt_mul hB] at h3
   rw [← Int.natCast_mul, ← hn] at h3
   simp only [Bool.not_eq_true', Bool.not_eq_false', beq_eq_false_iff_ne, beq_iff_eq, ne_eq, decide_eq_decide] at h2
  ·show pairV (0, 8) = _
   unfold fits
   rw [if_neg (by omega)]
  ·show pairV (IntKind.i64.wrap (a * b), 0) = _
   unfold fits
   rw [if_pos (by omega), wrapE]
   congr 2
   omega
theorem rtruth_spec (b : Bool) (V : View) : PSpec 56 [.bool b] V (fun v _ => v = vv (truthV b)) := by
 refine pspec [] (args := [.v _]) Tryz.func56 (by kernel_rfl) rfl ?_; conv => whnf
 intro b1
 conv => whnf
 apply br <;> intro h <;> conv => whnf
 all_goals
  subst h
  exact ret_pure rfl
/-- two values and what comparing them says -/
def binY (c : Int) (op : Int) (a b : Val) : Val × Int :=
 if op = 5 then wholeV (fits (a.n + b.n)) else if op = 6 then wholeV (fits (a.n - b.n)) else if op = 7 then wholeV (fits (a.n * b.n))
 else if op = 8 then (truthV (c == 0), 0) else if op = 9 then (truthV (c != 0), 0) else if op = 10 then (truthV (decide (c < 0)), 0)
 else if op = 11 then (truthV (decide (c ≤ 0)), 0) else if op = 12 then (truthV (decide (0 < c)), 0) else if op = 13 then (truthV (decide (0 ≤ c)), 0) else (v0, 1)
theorem binX_eq (op : Int) (a b : Val) : binX op a b = binY (cmpV a b) op a b := rfl
set_option maxHeartbeats 4000000 in
theorem two_spec (op c : Int) (hop : 5 ≤ op ∧ op ≤ 13) (a b : Val) (ha : InR a.n) (hb : InR b.n) (V : View) (hcmp : 8 ≤ op → ∀ V', V.le V' → PSpec 26 [vv a, vv b] V' (fun v _ => v = .int .i64 c)) :
  PSpec 57 [.int .i64 op, vv a, vv b] V (fun v _ => v = pairX (binY c op a b)) := by
 have hcases : op = 5 ∨ op = 6 ∨ op = 7 ∨ op = 8 ∨ op = 9 ∨ op = 10 ∨ op = 11 ∨ op = 12 ∨ op = 13 := by omega
 rcases hcases with rfl | rfl | rfl | rfl | rfl | rfl | rfl | rfl | rfl
 ·refine pspec [] (args := [.v _, .v _, .v _]) Tryz.func57 (by kernel_rfl) rfl ?_; conv => whnf
  intro b1
  conv => whnf
  intro b2
  conv => whnf
  intro b3
  conv => whnf
  refine br_f rfl ?_; conv => whnf
  refine br_f rfl ?_; conv => whnf
  refine CallN.pure (radd_spec a.n b.n ha hb _) fun v V1 _ hV hv => ?_
  subst hv; conv => whnf
  refine br_f rfl ?_; conv => whnf
  refine br_f rfl ?_; conv => whnf
  apply br <;> intro he <;> conv => whnf
  ·have he : (fits (a.n + b.n)).2 ≠ 0 := by simpa using he
   refine ret_pure ?_
   rw [show binY c 5 a b = wholeV (fits (a.n + b.n)) from rfl]
   unfold wholeV
   rw [if_neg he]; rfl
  ·have he : (fits (a.n + b.n)).2 = 0 := by simpa using he
   refine ret_pure ?_
   rw [show binY c 5 a b = wholeV (fits (a.n + b.n)) from rfl]
   unfold wholeV
   rw [if_pos he]; rfl
 ·refine pspec [] (args := [.v _, .v _, .v _]) Tryz.func57 (by kernel_rfl) rfl ?_; conv => whnf
  intro b1
  conv => whnf
  intro b2
  conv => whnf
  intro b3
  conv => whnf
  refine br_f rfl ?_; conv => whnf
  refine br_f rfl ?_; conv => whnf
  refine CallN.pure (radd_spec a.n b.n ha hb _) fun v V1 _ hV hv => ?_
  subst hv; conv => whnf
  refine br_t rfl ?_; conv => whnf
  refine CallN.pure (rsub_spec a.n b.n ha hb _) fun v V1 _ hV hv => ?_
  subst hv; conv => whnf
  apply br <;> intro he <;> conv => whnf
  ·have he : (fits (a.n - b.n)).2 ≠ 0 := by simpa using he
   refine ret_pure ?_
   rw [show binY c 6 a b = wholeV (fits (a.n - b.n)) from rfl]
   unfold wholeV
   rw [if_neg he]; rfl
  ·have he : (fits (a.n - b.n)).2 = 0 := by simpa using he
   refine ret_pure ?_
   rw [show binY c 6 a b = wholeV (fits (a.n - b.n)) from rfl]
   unfold wholeV
   rw [if_pos he]; rfl
 ·refine pspec [] (args := [.v _, .v _, .v _]) Tryz.func57 (by kernel_rfl) rfl ?_; conv => whnf
  intro b1
  conv => whnf
  intro b2
  conv => whnf
  intro b3
  conv => whnf
  refine br_f rfl ?_; conv => whnf
  refine br_f rfl ?_; conv => whnf
  refine CallN.pure (radd_spec a.n b.n ha hb _) fun v V1 _ hV hv => ?_
  subst hv; conv => whnf
  refine br_f rfl ?_; conv => whnf
  refine br_t rfl ?_; conv => whnf
  refine CallN.pure (rmul_spec a.n b.n ha hb _) fun v V1 _ hV hv => ?_
  subst hv; conv => whnf
  apply br <;> intro he <;> conv => whnf
  ·have he : (fits (a.n * b.n)).2 ≠ 0 := by simpa using he
   refine ret_pure ?_
   rw [show binY c 7 a b = wholeV (fits (a.n * b.n)) from rfl]
   unfold wholeV
   rw [if_neg he]; rfl
  ·have he : (fits (a.n * b.n)).2 = 0 := by simpa using he
   refine ret_pure ?_
   rw [show binY c 7 a b = wholeV (fits (a.n * b.n)) from rfl]
   unfold wholeV
   rw [if_pos he]; rfl
 ·refine pspec [] (args := [.v _, .v _, .v _]) Tryz.func57 (by kernel_rfl) rfl ?_; conv => whnf
  intro b1
  conv => whnf
  intro b2
  conv => whnf
  intro b3
  conv => whnf
  refine br_f rfl ?_; conv => whnf
  refine br_t rfl ?_; conv => whnf
  refine CallN.pure (hcmp (by decide) _ (View.le_refl _)) fun v V1 _ hV hv => ?_
  subst hv; conv => whnf
  intro b4 V2 hV2 h4
  conv => whnf
  refine IdxN.lit rfl rfl ?_; conv => whnf
  refine LoadN.of h4 0 rfl rfl ?_; conv => whnf
  refine CallN.pure (rtruth_spec _ _) fun v V1 _ hV hv => ?_
  subst hv; conv => whnf
  refine ret_pure ?_
  rfl
 ·refine pspec [] (args := [.v _, .v _, .v _]) Tryz.func57 (by kernel_rfl) rfl ?_; conv => whnf
  intro b1
  conv => whnf
  intro b2
  conv => whnf
  intro b3
  conv => whnf
  refine br_f rfl ?_; conv => whnf
  refine br_t rfl ?_; conv => whnf
  refine CallN.pure (hcmp (by decide) _ (View.le_refl _)) fun v V1 _ hV hv => ?_
  subst hv; conv => whnf
  intro b4 V2 hV2 h4
  conv => whnf
  refine IdxN.lit rfl rfl ?_; conv => whnf
  refine LoadN.of h4 1 rfl rfl ?_; conv => whnf
  refine CallN.pure (rtruth_spec _ _) fun v V1 _ hV hv => ?_
  subst hv; conv => whnf
  refine ret_pure ?_
  rfl
 ·refine pspec [] (args := [.v _, .v _, .v _]) Tryz.func57 (by kernel_rfl) rfl ?_; conv => whnf
  intro b1
  conv => whnf
  intro b2
  conv => whnf
  intro b3
  conv => whnf
  refine br_f rfl ?_; conv => whnf
  refine br_t rfl ?_; conv => whnf
  refine CallN.pure (hcmp (by decide) _ (View.le_refl _)) fun v V1 _ hV hv => ?_
  subst hv; conv => whnf
  intro b4 V2 hV2 h4
  conv => whnf
  refine IdxN.lit rfl rfl ?_; conv => whnf
  refine LoadN.of h4 2 rfl rfl ?_; conv => whnf
  refine CallN.pure (rtruth_spec _ _) fun v V1 _ hV hv => ?_
  subst hv; conv => whnf
  refine ret_pure ?_
  rfl
 ·refine pspec [] (args := [.v _, .v _, .v _]) Tryz.func57 (by kernel_rfl) rfl ?_; conv => whnf
  intro b1
  conv => whnf
  intro b2
  conv => whnf
  intro b3
  conv => whnf
  refine br_f rfl ?_; conv => whnf
  refine br_t rfl ?_; conv => whnf
  refine CallN.pure (hcmp (by decide) _ (View.le_refl _)) fun v V1 _ hV hv => ?_
  subst hv; conv => whnf
  intro b4 V2 hV2 h4
  conv => whnf
  refine IdxN.lit rfl rfl ?_; conv => whnf
  refine LoadN.of h4 3 rfl rfl ?_; conv => whnf
  refine CallN.pure (rtruth_spec _ _) fun v V1 _ hV hv => ?_
  subst hv; conv => whnf
  refine ret_pure ?_
  rfl
 ·refine pspec [] (args := [.v _, .v _, .v _]) Tryz.func57 (by kernel_rfl) rfl ?_; conv => whnf
  intro b1
  conv => whnf
  intro b2
  conv => whnf
  intro b3
  conv => whnf
  refine br_f rfl ?_; conv => whnf
  refine br_t rfl ?_; conv => whnf
  refine CallN.pure (hcmp (by decide) _ (View.le_refl _)) fun v V1 _ hV hv => ?_
  subst hv; conv => whnf
  intro b4 V2 hV2 h4
  conv => whnf
  refine IdxN.lit rfl rfl ?_; conv => whnf
  refine LoadN.of h4 4 rfl rfl ?_; conv => whnf
  refine CallN.pure (rtruth_spec _ _) fun v V1 _ hV hv => ?_
  subst hv; conv => whnf
  refine ret_pure ?_
  rfl
 ·refine pspec [] (args := [.v _, .v _, .v _]) Tryz.func57 (by kernel_rfl) rfl ?_; conv => whnf
  intro b1
  conv => whnf
  intro b2
  conv => whnf
  intro b3
  conv => whnf
  refine br_f rfl ?_; conv => whnf
  refine br_t rfl ?_; conv => whnf
  refine CallN.pure (hcmp (by decide) _ (View.le_refl _)) fun v V1 _ hV hv => ?_
  subst hv; conv => whnf
  intro b4 V2 hV2 h4
  conv => whnf
  refine IdxN.lit rfl rfl ?_; conv => whnf
  refine LoadN.of h4 5 rfl rfl ?_; conv => whnf
  refine CallN.pure (rtruth_spec _ _) fun v V1 _ hV hv => ?_
  subst hv; conv => whnf
  refine ret_pure ?_
  rfl
def twoR (cmpR : Val → Val → Int) (op : Int) (a b : Val) : Val × Int := if 14 ≤ op then (truthV (b.n == 1), 0) else binY (cmpR a b) op a b
/-- the document's answer -/
def refX (cmpR : Val → Val → Int) (colR : ByteArray → ByteArray → Val × Int) : E → Val × Int
 | .lit v => (v, 0)
 | .col tb nm => colR tb nm
 | .un op a => if (refX cmpR colR a).2 = 0 then unX op (refX cmpR colR a).1 else (v0, (refX cmpR colR a).2)
 | .bin op a b =>
  if (refX cmpR colR a).2 ≠ 0 then (v0, (refX cmpR colR a).2)
  else if op = 14 ∧ (refX cmpR colR a).1.n = 0 then (truthV false, 0)
  else if op = 15 ∧ (refX cmpR colR a).1.n = 1 then (truthV true, 0)
  else if (refX cmpR colR b).2 ≠ 0 then (v0, (refX cmpR colR b).2) else twoR cmpR op (refX cmpR colR a).1 (refX cmpR colR b).1
theorem binY_inR (c op : Int) (a b : Val) : InR (binY c op a b).1.n := by
 unfold binY
 repeat' split
 all_goals first | exact whole_inR (fits_inR _) | exact truth_inR _ | exact v0_inR
theorem refX_inR {cmpR : Val → Val → Int} {colR : ByteArray → ByteArray → Val × Int} (hc : ∀ tb nm, InR (colR tb nm).1.n) : ∀ (e : E), e.ok → InR (refX cmpR colR e).1.n
 | .lit v, h => h
 | .col tb nm, _ => hc tb nm
 | .un op a, h => by
  unfold refX
  split
  ·exact unX_inR _ _
  ·exact v0_inR
 | .bin op a b, h => by
  unfold refX twoR
  repeat' split
  all_goals first | exact binY_inR _ _ _ _ | exact truth_inR _ | exact v0_inR
theorem two14_spec (op : Int) (hop : 14 ≤ op) (a b : Val) (V : View) : PSpec 57 [.int .i64 op, vv a, vv b] V (fun v _ => v = pairX (truthV (b.n == 1), 0)) := by
 refine pspec [] (args := [.v _, .v _, .v _]) Tryz.func57 (by kernel_rfl) rfl ?_; conv => whnf
 intro b1
 conv => whnf
 intro b2
 conv => whnf
 intro b3
 conv => whnf
 refine br_t (by simpa using hop) ?_; conv => whnf
 refine CallN.pure (rtruth_spec _ _) fun v V1 _ hV hv => ?_
 subst hv; conv => whnf
 exact ret_pure rfl
/-- where comparisons are met, the document can hold the two together -/
def E.fine (ok : Val → Val → Prop) (cmpR : Val → Val → Int) (colR : ByteArray → ByteArray → Val × Int) : E → Prop
 | .lit _ => True
 | .col _ _ => True
 | .un _ a => a.fine ok cmpR colR
 | .bin op a b => a.fine ok cmpR colR ∧ b.fine ok cmpR colR ∧ (8 ≤ op ∧ op ≤ 13 → ok (refX cmpR colR a).1 (refX cmpR colR b).1)
theorem two_gen {ok : Val → Val → Prop} {cmpR : Val → Val → Int} (op : Int) (hop : 5 ≤ op ∧ op ≤ 15) (a b : Val) (ha : InR a.n) (hb : InR b.n) (V : View) (hf : 8 ≤ op ∧ op ≤ 13 → ok a b)
  (hcmp : ∀ a b V', ok a b → PSpec 26 [vv a, vv b] V' (fun v _ => v = .int .i64 (cmpR a b))) : PSpec 57 [.int .i64 op, vv a, vv b] V (fun v _ => v = pairX (twoR cmpR op a b)) := by
 unfold twoR
 split
 ·rename_i h; exact two14_spec op h a b V
 ·exact two_spec op _ (by omega) a b ha hb V (fun h8 V' _ => hcmp a b V' (hf ⟨h8, by omega⟩))
set_option maxHeartbeats 4000000 in
theorem ref_spec (cs vs : Value) (ok : Val → Val → Prop) (cmpR : Val → Val → Int) (colR : ByteArray → ByteArray → Val × Int) (hc : ∀ tb nm, InR (colR tb nm).1.n)
  (hcmp : ∀ a b V', ok a b → PSpec 26 [vv a, vv b] V' (fun v _ => v = .int .i64 (cmpR a b))) : ∀ (e : E) (x : XC) (V : View), e.ok → e.fine ok cmpR colR → RepE V e x →
  (∀ x V', V.le V' → x.op = 2 → PSpec 25 [cs, vs, xagg x] V' (fun v _ => v = pairX (colR x.tb x.nm))) → PSpec 25 [cs, vs, xagg x] V (fun v _ => v = pairX (refX cmpR colR e))
 | .lit v, ⟨xop, xv, xtb, xnm, xbase, xlen, xcap⟩, V, hok, hf, hr, hcol => by
  obtain ⟨hop, hv⟩ := hr
  simp only at hop hv
  subst hop; subst hv
  refine pspec [] (args := [.v _, .v _, .v _]) Tryz.func25 (by kernel_rfl) rfl ?_; conv => whnf
  intro b1
  conv => whnf
  intro b2
  conv => whnf
  refine br_t rfl ?_; conv => whnf
  exact ret_pure rfl
 | .col tb nm, x, V, hok, hf, ⟨hop, h1, h2⟩, hcol => by
  subst h1; subst h2
  exact hcol x V (View.le_refl _) hop
 | .un op a, ⟨xop, xv, xtb, xnm, xbase, xlen, xcap⟩, V, hok, hf, hr, hcol => by
  obtain ⟨hop, hop2, hl, p, off, xa, hb, hs, hra⟩ := hr
  simp only at hop hl hb
  subst hop; subst hl; subst hb
  have ih : ∀ V', V.le V' → PSpec 25 [cs, vs, xagg xa] V' (fun v _ => v = pairX (refX cmpR colR a)) := fun V' hV => ref_spec cs vs ok cmpR colR hc hcmp a xa V' hok hf (hra.mono hV) (fun x V2 h2 => hcol x V2 (View.le_trans hV h2))
  refine pspec [] (args := [.v _, .v _, .v _]) Tryz.func25 (by kernel_rfl) rfl ?_; conv => whnf
  intro b1
  conv => whnf
  intro b2
  conv => whnf
  refine br_f (by simp only [beq_eq_false_iff_ne, ne_eq]; omega) ?_; conv => whnf
  refine br_f (by simp only [beq_eq_false_iff_ne, ne_eq]; omega) ?_; conv => whnf
  refine IdxN.lit rfl rfl ?_; conv => whnf
  refine LoadN.of hs 0 rfl rfl ?_; conv => whnf
  refine CallN.pure (ih _ (View.le_refl _)) fun v V1 _ hV1 hv => ?_
  subst hv; conv => whnf
  intro b3
  conv => whnf
  apply br <;> intro h0 <;> conv => whnf
  ·have h0 : (refX cmpR colR a).2 ≠ 0 := by simpa using h0
   refine ret_pure ?_
   rw [refX, if_neg h0]
   rfl
  have h0 : (refX cmpR colR a).2 = 0 := by simpa using h0
  rcases hop2 with rfl | rfl
  ·refine br_t rfl ?_; conv => whnf
   refine CallN.pure (rneg_spec _ (refX_inR hc a hok) _) fun v V2 _ hV2 hv => ?_
   subst hv; conv => whnf
   apply br <;> intro he <;> conv => whnf
   ·have he : (fits (-(refX cmpR colR a).1.n)).2 ≠ 0 := by simpa using he
    refine ret_pure ?_
    rw [refX, if_pos h0, show unX 3 (refX cmpR colR a).1 = wholeV (fits (-(refX cmpR colR a).1.n)) from rfl]
    unfold wholeV
    rw [if_neg he]
    rfl
   ·have he : (fits (-(refX cmpR colR a).1.n)).2 = 0 := by simpa using he
    refine ret_pure ?_
    rw [refX, if_pos h0, show unX 3 (refX cmpR colR a).1 = wholeV (fits (-(refX cmpR colR a).1.n)) from rfl]
    unfold wholeV
    rw [if_pos he]
    rfl
  ·refine br_f rfl ?_; conv => whnf
   refine br_t rfl ?_; conv => whnf
   refine CallN.pure (rtruth_spec _ _) fun v V2 _ hV2 hv => ?_
   subst hv; conv => whnf
   refine ret_pure ?_
   rw [refX, if_pos h0]
   rfl
 | .bin op a b, ⟨xop, xv, xtb, xnm, xbase, xlen, xcap⟩, V, hok, hf, hr, hcol => by
  obtain ⟨hop, hop2, hl, p, off, xa, xb, hb, hs, hra, hrb⟩ := hr
  simp only at hop hl hb
  subst hop; subst hl; subst hb
  have ih : ∀ V', V.le V' → PSpec 25 [cs, vs, xagg xa] V' (fun v _ => v = pairX (refX cmpR colR a)) := fun V' hV => ref_spec cs vs ok cmpR colR hc hcmp a xa V' hok.1 hf.1 (hra.mono hV) (fun x V2 h2 => hcol x V2 (View.le_trans hV h2))
  have ih2 : ∀ V', V.le V' → PSpec 25 [cs, vs, xagg xb] V' (fun v _ => v = pairX (refX cmpR colR b)) := fun V' hV => ref_spec cs vs ok cmpR colR hc hcmp b xb V' hok.2 hf.2.1 (hrb.mono hV) (fun x V2 h2 => hcol x V2 (View.le_trans hV h2))
  refine pspec [] (args := [.v _, .v _, .v _]) Tryz.func25 (by kernel_rfl) rfl ?_; conv => whnf
  intro b1
  conv => whnf
  intro b2
  conv => whnf
  refine br_f (by simp only [beq_eq_false_iff_ne, ne_eq]; omega) ?_; conv => whnf
  refine br_f (by simp only [beq_eq_false_iff_ne, ne_eq]; omega) ?_; conv => whnf
  refine IdxN.lit rfl rfl ?_; conv => whnf
  refine LoadN.of hs 0 rfl rfl ?_; conv => whnf
  refine CallN.pure (ih _ (View.le_refl _)) fun v V1 _ hV1 hv => ?_
  subst hv; conv => whnf
  intro b3
  conv => whnf
  apply br <;> intro h0 <;> conv => whnf
  ·have h0 : (refX cmpR colR a).2 ≠ 0 := by simpa using h0
   refine ret_pure ?_
   rw [refX, if_pos h0]
   rfl
  have h0 : (refX cmpR colR a).2 = 0 := by simpa using h0
  refine br_f (by simp only [beq_eq_false_iff_ne, ne_eq]; omega) ?_; conv => whnf
  refine br_f (by simp only [beq_eq_false_iff_ne, ne_eq]; omega) ?_; conv => whnf
  have fin : ¬ (xop = 14 ∧ (refX cmpR colR a).1.n = 0) → ¬ (xop = 15 ∧ (refX cmpR colR a).1.n = 1) → refX cmpR colR (.bin xop a b) = (if (refX cmpR colR b).2 ≠ 0 then (v0, (refX cmpR colR b).2) else twoR cmpR xop (refX cmpR colR a).1 (refX cmpR colR b).1) := fun h1 h2 => by
   rw [refX, if_neg (by simp [h0]), if_neg h1, if_neg h2]
  apply br <;> intro h14 <;> conv => whnf
  ·simp only [beq_iff_eq] at h14
   apply br <;> intro h1 <;> conv => whnf
   ·refine CallN.pure (rtruth_spec _ _) fun v V2 _ hV2 hv => ?_
    subst hv; conv => whnf
    refine ret_pure ?_
    rw [refX, if_neg (by simp [h0]), if_pos ⟨h14, by simpa using h1⟩]
    rfl
   rw [fin (by simp_all) (by omega)]
   refine IdxN.lit rfl rfl ?_; conv => whnf
   refine LoadN.of (hs.mono hV1) 7 rfl rfl ?_; conv => whnf
   refine CallN.pure (ih2 _ hV1) fun v V2 _ hV2 hv => ?_
   subst hv; conv => whnf
   intro b4
   conv => whnf
   apply br <;> intro h2 <;> conv => whnf
   ·refine ret_pure ?_
    rw [if_pos (by simpa using h2)]
    rfl
   refine CallN.pure (two_gen xop hop2 _ _ (refX_inR hc a hok.1) (refX_inR hc b hok.2) _ hf.2.2 hcmp) fun v V3 _ hV3 hv => ?_
   subst hv; conv => whnf
   refine ret_pure ?_
   rw [if_neg (by simpa using h2)]
   rfl
  apply br <;> intro h15 <;> conv => whnf
  ·simp only [beq_iff_eq] at h15
   apply br <;> intro h1 <;> conv => whnf
   ·refine CallN.pure (rtruth_spec _ _) fun v V2 _ hV2 hv => ?_
    subst hv; conv => whnf
    refine ret_pure ?_
    rw [refX, if_neg (by simp [h0]), if_neg (by omega), if_pos ⟨h15, by simpa using h1⟩]
    rfl
   rw [fin (by omega) (by simp_all)]
   refine IdxN.lit rfl rfl ?_; conv => whnf
   refine LoadN.of (hs.mono hV1) 7 rfl rfl ?_; conv => whnf
   refine CallN.pure (ih2 _ hV1) fun v V2 _ hV2 hv => ?_
   subst hv; conv => whnf
   intro b4
   conv => whnf
   apply br <;> intro h2 <;> conv => whnf
   ·refine ret_pure ?_
    rw [if_pos (by simpa using h2)]
    rfl
   refine CallN.pure (two_gen xop hop2 _ _ (refX_inR hc a hok.1) (refX_inR hc b hok.2) _ hf.2.2 hcmp) fun v V3 _ hV3 hv => ?_
   subst hv; conv => whnf
   refine ret_pure ?_
   rw [if_neg (by simpa using h2)]
   rfl
  simp only [beq_eq_false_iff_ne, ne_eq] at h14 h15
  rw [fin (by simp_all) (by simp_all)]
  refine IdxN.lit rfl rfl ?_; conv => whnf
  refine LoadN.of (hs.mono hV1) 7 rfl rfl ?_; conv => whnf
  refine CallN.pure (ih2 _ hV1) fun v V2 _ hV2 hv => ?_
  subst hv; conv => whnf
  intro b4
  conv => whnf
  apply br <;> intro h2 <;> conv => whnf
  ·refine ret_pure ?_
   rw [if_pos (by simpa using h2)]
   rfl
  refine CallN.pure (two_gen xop hop2 _ _ (refX_inR hc a hok.1) (refX_inR hc b hok.2) _ hf.2.2 hcmp) fun v V3 _ hV3 hv => ?_
  subst hv; conv => whnf
  refine ret_pure ?_
  rw [if_neg (by simpa using h2)]
  rfl
def litX (v : Val) : XC := ⟨1, v, noText, noText, none, 0, 0⟩
def sameV (x y : Val) : Bool := x.k == y.k && (x.n == y.n && x.t.toList == y.t.toList)
theorem fields38 : (Tryz.prog.fieldsOf 44).toList.map (fun f => (f.name != "_", f.type, f.offset)) = [(true, 3, 0), (true, 2, 1), (true, 9, 2)] := by kernel_rfl
theorem eqv_run (o1 o2 : Operand) (x y : Val) (w : World) : Sem.run Tryz.prog (do
      eqGuard .eql 44 o1 o2 (vv x) (vv y)
      binOp .eql 44 (vv x) (vv y)) w = .ok (.bool (sameV x y)) w := by
  unfold vv
  rw [Sem.run_bind, run_eqGuard_agg w .eql 44 o1 o2 _ _ (by kernel_rfl)]
  simp only [Result.andThen_ok]
  rw [run_eql_struct, run_equalIn_struct w 9999 44 _ _ (by kernel_rfl) (by kernel_rfl)]
  have h := fields38
  generalize (Tryz.prog.fieldsOf 44).toList = l at h
  rcases l with _ | ⟨f, _ | ⟨g, _ | ⟨i, _ | ⟨j, l⟩⟩⟩⟩ <;> simp only [List.map_cons, List.map_nil, List.cons.injEq, List.cons_ne_nil, List.ne_cons_self, reduceCtorEq, and_false, false_and] at h
  simp only [List.map_cons, List.map_nil, List.cons.injEq, Prod.mk.injEq, and_true, bne_iff_ne, ne_eq] at h
  obtain ⟨⟨hf1, hf2, hf3⟩, ⟨hg1, hg2, hg3⟩, hi1, hi2, hi3⟩ := h
  have u3 : Tryz.prog.underlying 3 = some (.int .i64) := by kernel_rfl
  have u2 : Tryz.prog.underlying 2 = some (.int .i64) := by kernel_rfl
  have u9 : Tryz.prog.underlying 9 = some .string := by kernel_rfl
  simp [Op.eqFields, hf1, hf2, hf3, hg1, hg2, hg3, hi1, hi2, hi3, part, run_underlying u3, run_underlying u2, run_underlying u9, run_equalIn_int w 9998 3 .i64 .i64 _ _ u3, run_equalIn_int w 9998 2 .i64 .i64 _ _ u2, run_equalIn_string w 9998 9 _ _ u9]
  unfold sameV
  by_cases h1 : x.k = y.k <;> by_cases h2 : x.n = y.n <;> by_cases h3 : x.t.toList = y.t.toList <;> simp [h1, h2, h3]
theorem less_self : ∀ l : List UInt8, Op.bytesLess l l = false
 | [] => rfl
 | a :: l => by simp [Op.bytesLess, less_self l]
end Go.Proofs.YtenpginanhnkbaaGreat
end

section
set_option linter.unusedSimpArgs false
set_option linter.unusedVariables false
namespace Go.Proofs.YtenpginanhnkbaaGreat
open Go.X
set_option maxRecDepth 100000
theorem str_index (s : ByteArray) (i : Int) (h0 : 0 ≤ i) (h1 : i < s.size) : ∃ y : UInt8, s.data.toList[i.toNat]? = some y ∧ ∀ w, (Instr.index 9 (.string s) (.int .i64 i)).run Tryz.prog w = .ok (.int .u8 y.toNat) w := by
 have hlt : i.toNat < s.size := by omega
 have u9 : Tryz.prog.underlying 9 = some .string := by kernel_rfl
 refine ⟨s.data.toList[i.toNat]'(by simpa using hlt), List.getElem?_eq_getElem _, fun w => ?_⟩
 have hy : s[i.toNat]? = some (s.data.toList[i.toNat]'(by simpa using hlt)) := by
  show (if h : i.toNat < s.size then some s[i.toNat] else none) = _
  rw [dif_pos hlt]; rfl
 simp [Instr.index, asIntOf, run_underlying u9, h0, hy]
theorem less_at : ∀ (i : Nat) (l m : List UInt8) (x y : UInt8), l.take i = m.take i → l[i]? = some x → m[i]? = some y → x < y → Op.bytesLess l m = true
 | 0, l, m, x, y, _, hx, hy, h => by
  cases l with
  | nil => simp at hx
  | cons a l =>
   cases m with
   | nil => simp at hy
   | cons b m =>
    simp only [List.getElem?_cons_zero, Option.some.injEq] at hx hy
    subst hx; subst hy
    simp [Op.bytesLess, h]
 | i + 1, l, m, x, y, ht, hx, hy, h => by
  cases l with
  | nil => simp at hx
  | cons a l =>
   cases m with
   | nil => simp at hy
   | cons b m =>
    simp only [List.take_succ_cons, List.cons.injEq] at ht
    simp only [List.getElem?_cons_succ] at hx hy
    simp [Op.bytesLess, ht.1, less_at i l m x y ht.2 hx hy h]
theorem more_at : ∀ (i : Nat) (l m : List UInt8) (x y : UInt8), l.take i = m.take i → l[i]? = some x → m[i]? = some y → y < x → Op.bytesLess l m = false ∧ l ≠ m
 | 0, l, m, x, y, _, hx, hy, h => by
  cases l with
  | nil => simp at hx
  | cons a l =>
   cases m with
   | nil => simp at hy
   | cons b m =>
    simp only [List.getElem?_cons_zero, Option.some.injEq] at hx hy
    subst hx; subst hy
    have hne : a ≠ b := fun e => by subst e; exact absurd h (UInt8.lt_irrefl a)
    have hnl : ¬ a < b := fun h2 => absurd (UInt8.lt_trans h h2) (UInt8.lt_irrefl b)
    simp [Op.bytesLess, hne, hnl]
 | i + 1, l, m, x, y, ht, hx, hy, h => by
  cases l with
  | nil => simp at hx
  | cons a l =>
   cases m with
   | nil => simp at hy
   | cons b m =>
    simp only [List.take_succ_cons, List.cons.injEq] at ht
    simp only [List.getElem?_cons_succ] at hx hy
    have ih := more_at i l m x y ht.2 hx hy h
    simp [Op.bytesLess, ht.1, ih.1, ih.2, UInt8.lt_irrefl]
theorem less_front : ∀ (l m : List UInt8), l = m.take l.length → l.length < m.length → Op.bytesLess l m = true
 | [], [], _, h => by simp at h
 | [], b :: m, _, _ => rfl
 | a :: l, [], _, h => by simp at h
 | a :: l, b :: m, ht, h => by
  simp only [List.length_cons, List.take_succ_cons, List.cons.injEq] at ht
  simp [Op.bytesLess, ht.1, less_front l m ht.2 (by simpa using h)]
theorem more_front : ∀ (l m : List UInt8), m = l.take m.length → m.length < l.length → Op.bytesLess l m = false ∧ l ≠ m
 | l, [], _, h => ⟨by cases l <;> rfl, fun e => by subst e; simp at h⟩
 | [], b :: m, _, h => by simp at h
 | a :: l, b :: m, ht, h => by
  simp only [List.length_cons, List.take_succ_cons, List.cons.injEq] at ht
  have ih := more_front l m ht.2 (by simpa using h)
  simp [Op.bytesLess, ht.1, ih.1, ih.2, UInt8.lt_irrefl]
def pl65 : Plans := [(4, [(0, []), (1, []), (2, []), (3, []), (4, []), (5, []), (6, [])]), (6, [(0, []), (1, []), (2, []), (3, []), (4, []), (5, []), (6, [])])]
set_option maxHeartbeats 4000000 in
theorem text_spec (a b : ByteArray) (ha : (a.size : Int) ≤ 9223372036854775807) (V : View) : PSpec 58 [.string a, .string b] V (fun v _ => v = .int .i64 (cmpS a b)) := by
 refine pspec pl65 (args := [.v _, .v _]) Tryz.func58 (by kernel_rfl) rfl ?_; conv => whnf
 have ea : a.toList = a.data.toList := ByteArray.toList_eq a
 have eb : b.toList = b.data.toList := ByteArray.toList_eq b
 have la : a.data.toList.length = a.size := by simp
 have lb : b.data.toList.length = b.size := by simp
 refine LoopN.mk' (σ := Int) (fun i => St.of [(0, .v (.string a)), (1, .v (.string b)), (5, .v (.int .i64 i))] [])
  (fun k i _ => 0 ≤ i ∧ i ≤ a.size ∧ i ≤ b.size ∧ a.size - i = k ∧ a.data.toList.take i.toNat = b.data.toList.take i.toNat) a.size 0
  (weak_of ⟨⟨rfl, _, rfl⟩, ⟨rfl, _, rfl⟩, ⟨rfl, _, rfl⟩, trivial⟩ trivial) ⟨by decide, by omega, by omega, by omega, rfl⟩ fun k i V ⟨hi0, hi1, hi2, hk, ht⟩ => ?_
 have leave : ¬ (i < (a.size : Int) ∧ i < (b.size : Int)) → (if a.size < b.size then (-1 : Int) else if b.size < a.size then 1 else 0) = cmpS a b := fun hn => by
  unfold cmpS
  rw [ea, eb]
  rcases Nat.lt_trichotomy a.size b.size with h | h | h
  ·have hi : i.toNat = a.size := by omega
   rw [hi] at ht
   have : a.data.toList = b.data.toList.take a.data.toList.length := by
    rw [la, ← ht, ← la, List.take_length]
   rw [if_pos h, if_pos (less_front _ _ this (by omega))]
  ·have hi : i.toNat = a.size := by omega
   rw [hi] at ht
   have e : a.data.toList = b.data.toList := by
    have h1 : a.data.toList.take a.size = a.data.toList := by rw [← la, List.take_length]
    have h2 : b.data.toList.take a.size = b.data.toList := by rw [h, ← lb, List.take_length]
    rw [h1, h2] at ht; exact ht
   rw [if_neg (by omega), if_neg (by omega), e, less_self]
   simp
  ·have hi : i.toNat = b.size := by omega
   rw [hi] at ht
   have : b.data.toList = a.data.toList.take b.data.toList.length := by
    rw [lb, ht, ← lb, List.take_length]
   have h2 := more_front _ _ this (by omega)
   rw [if_neg (by omega), if_pos h, h2.1, if_neg (by simp), if_neg h2.2]
 conv => whnf
 apply br <;> intro h1 <;> conv => whnf
 ·have h1 : i < (a.size : Int) := by simpa using h1
  apply br <;> intro h2 <;> conv => whnf
  ·have h2 : i < (b.size : Int) := by simpa using h2
   obtain ⟨x, hx, rx⟩ := str_index a i hi0 h1
   obtain ⟨y, hy, ry⟩ := str_index b i hi0 h2
   refine ⟨⟨_, rx, ?_⟩⟩
   conv => whnf
   refine ⟨⟨_, ry, ?_⟩⟩
   conv => whnf
   apply br <;> intro h3 <;> conv => whnf
   ·have h3 : x < y := by simpa [UInt8.lt_iff_toNat_lt] using h3
    refine ret_pure ?_
    have := less_at _ _ _ x y ht hx hy h3
    simp [packVals, cmpS, ea, eb, this]
   refine ⟨⟨_, rx, ?_⟩⟩
   conv => whnf
   refine ⟨⟨_, ry, ?_⟩⟩
   conv => whnf
   apply br <;> intro h4 <;> conv => whnf
   ·have h4 : y < x := by simpa [UInt8.lt_iff_toNat_lt] using h4
    refine ret_pure ?_
    have := more_at _ _ _ x y ht hx hy h4
    simp [packVals, cmpS, ea, eb, this.1, this.2]
   have hxy : x = y := by
    have h3 : ¬ x < y := by simpa [UInt8.lt_iff_toNat_lt] using h3
    have h4 : ¬ y < x := by simpa [UInt8.lt_iff_toNat_lt] using h4
    exact UInt8.le_antisymm (UInt8.not_lt.1 h4) (UInt8.not_lt.1 h3)
   have hw : IntKind.i64.wrap (i + 1) = i + 1 := by rw [wrapE]; omega
   have hn : (i + 1).toNat = i.toNat + 1 := by omega
   refine ⟨k - 1, _, by omega, ?_, IntKind.i64.wrap (i + 1), rfl, by rw [hw]; omega, by rw [hw]; omega, by rw [hw]; omega, by rw [hw]; omega, ?_⟩
   ·exact weak_of ⟨⟨rfl, _, rfl⟩, ⟨rfl, _, rfl⟩, ⟨rfl, _, rfl⟩, trivial⟩ trivial
   ·rw [hw, hn, List.take_add_one, List.take_add_one, ht, hx, hy, hxy]
  ·have h2 : ¬ i < (b.size : Int) := by simpa using h2
   rw [← leave (by omega)]
   have h0 : ¬ a.size < b.size := by omega
   have h5 : b.size < a.size := by omega
   refine br_f (by simpa using h0) ?_; conv => whnf
   refine br_t (by simpa using h5) ?_; conv => whnf
   refine ret_pure ?_
   simp [packVals, h0, h5]
 ·have h1 : ¬ i < (a.size : Int) := by simpa using h1
  rw [← leave (by omega)]
  apply br <;> intro h2 <;> conv => whnf
  ·have h2 : a.size < b.size := by simpa using h2
   refine ret_pure ?_
   simp [packVals, h2]
  ·have h2 : ¬ a.size < b.size := by simpa using h2
   have h5 : ¬ b.size < a.size := by omega
   refine br_f (by simpa using h5) ?_; conv => whnf
   refine ret_pure ?_
   simp [packVals, h2, h5]
/-- how the document holds two values together -/
def cmpR (a b : Val) : Int := if a.k < b.k then -1 else if b.k < a.k then 1 else if a.k = 1 then cmpI a.n b.n else cmpS a.t b.t
theorem rcmpv_spec (a b : Val) (ha : (a.t.size : Int) ≤ 9223372036854775807) (V : View) : PSpec 26 [vv a, vv b] V (fun v _ => v = .int .i64 (cmpR a b)) := by
 refine pspec [] (args := [.v _, .v _]) Tryz.func26 (by kernel_rfl) rfl ?_; conv => whnf
 intro b1
 conv => whnf
 intro b2
 conv => whnf
 apply br <;> intro h1 <;> conv => whnf
 ·have h1 : a.k < b.k := by simpa using h1
  refine ret_pure ?_
  simp [packVals, cmpR, h1]
 have h1 : ¬ a.k < b.k := by simpa using h1
 apply br <;> intro h2 <;> conv => whnf
 ·have h2 : b.k < a.k := by simpa using h2
  refine ret_pure ?_
  simp [packVals, cmpR, h1, h2]
 have h2 : ¬ b.k < a.k := by simpa using h2
 unfold cmpR
 rw [if_neg h1, if_neg h2]
 apply br <;> intro h3 <;> conv => whnf
 ·have h3' : a.k = 1 := by simpa using h3
  rw [if_pos h3']
  apply br <;> intro h4 <;> conv => whnf
  ·have h4 : a.n < b.n := by simpa using h4
   refine ret_pure ?_
   simp [packVals, cmpI, h4]
  have h4 : ¬ a.n < b.n := by simpa using h4
  refine br_t h3 ?_; conv => whnf
  apply br <;> intro h5 <;> conv => whnf
  ·have h5 : b.n < a.n := by simpa using h5
   refine ret_pure ?_
   simp [packVals, cmpI, h4, h5]
  have h5 : ¬ b.n < a.n := by simpa using h5
  refine br_t h3 ?_; conv => whnf
  refine ret_pure ?_
  simp [packVals, cmpI, h4, h5]
 ·have h3' : ¬ a.k = 1 := by simpa using h3
  rw [if_neg h3']
  refine br_f h3 ?_; conv => whnf
  refine br_f h3 ?_; conv => whnf
  refine CallN.pure (text_spec a.t b.t ha _) fun v V1 _ hV1 hv => ?_
  subst hv; conv => whnf
  exact ret_pure rfl
theorem has_flat {α : Type} {f : α → List Value} {n : Nat} (hn : ∀ x, (f x).length = n) {V : View} {p : Nat} : ∀ (l : List α) (off : Nat), V.has p off (l.flatMap f) → ∀ (i : Nat) (x : α), l[i]? = some x → V.has p (off + i * n) (f x)
 | [], off, _, i, x, hx => by simp at hx
 | y :: l, off, h, i, x, hx => by
  rw [List.flatMap_cons] at h
  cases i with
  | zero =>
   simp only [List.getElem?_cons_zero, Option.some.injEq] at hx
   subst hx
   intro j v hj
   rw [Nat.zero_mul, Nat.add_zero]
   refine h j v ?_
   rw [List.getElem?_append_left (List.getElem?_eq_some_iff.1 hj).1]; exact hj
  | succ i =>
   have h2 : V.has p (off + n) (l.flatMap f) := fun j v hj => by
    have := h (n + j) v (by rw [List.getElem?_append_right (by rw [hn]; omega), hn, Nat.add_sub_cancel_left]; exact hj)
    rwa [← Nat.add_assoc] at this
   have := has_flat hn l (off + n) h2 i x (by simpa using hx)
   rw [Nat.succ_mul, Nat.add_comm (i * n) n, ← Nat.add_assoc]
   exact this
structure Item where
 agg : Int
 tb : ByteArray
 nm : ByteArray
def icells (x : Item) : List Value := [.int .i64 x.agg, .string x.tb, .string x.nm]
def hitI (tb nm : ByteArray) (x : Item) : Bool := x.nm.toList == nm.toList && (tb.toList == noText.toList || x.tb.toList == tb.toList)
/-- the first column of that name -/
def colAt (tb nm : ByteArray) : List Item → List Val → Val × Int
 | x :: l, v :: m => if hitI tb nm x then (v, 0) else colAt tb nm l m
 | _, _ => (v0, 10)
theorem min_run (a b : Int) (t : Array TypeId) (u : TypeId) (w : World) : (Builtin.min_ t u #[.int .i64 a, .int .i64 b]).run Tryz.prog w = .ok (.int .i64 (if b < a then b else a)) w := by
 simp [Builtin.min_, Builtin.min2]
set_option maxHeartbeats 4000000 in
theorem column_spec (its : List Item) (vals : List Val) (p q c d o1 o2 : Nat) (tb nm : ByteArray) (V : View) (h1 : V.has p o1 (its.flatMap icells)) (h2 : V.has q o2 (vals.flatMap vcells)) (hl : its.length ≤ 1000000) (hl2 : vals.length ≤ 1000000) :
  PSpec 87 [.agg #[.slice (some ⟨p, o1, none⟩) its.length c, .slice (some ⟨q, o2, none⟩) vals.length d], .string tb, .string nm] V (fun v _ => v = pairX (colAt tb nm its vals)) := by
 refine pspec [] (args := [.v _, .v _, .v _]) Tryz.func87 (by kernel_rfl) rfl ?_; conv => whnf
 intro b1
 conv => whnf
 intro b2
 conv => whnf
 refine ⟨⟨_, min_run its.length vals.length _ _, ?_⟩⟩
 conv => whnf
 generalize hn : (if (vals.length : Int) < its.length then (vals.length : Int) else its.length) = n
 have hn1 : n ≤ its.length ∧ n ≤ vals.length ∧ (n = its.length ∨ n = vals.length) := by split at hn <;> omega
 refine LoopN.mk' (σ := Nat) (fun i => St.of [(1, .v (.string tb)), (2, .v (.string nm)), (3, .own 3 0), (6, .own 6 0), (16, .v (.int .i64 n)), (17, .v (.int .i64 i))]
   [(3, .box b1 138 [.slice (some ⟨p, o1, none⟩) its.length c, .slice (some ⟨q, o2, none⟩) vals.length d]), (6, .box b2 44 [.int .i64 0, .int .i64 0, .string noText])])
  (fun k i V' => V.le V' ∧ (i : Int) ≤ n ∧ n - i = k ∧ colAt tb nm (its.drop i) (vals.drop i) = colAt tb nm its vals) n.toNat 0
  (weak_of ⟨⟨rfl, _, rfl⟩, ⟨rfl, _, rfl⟩, ⟨rfl, _, rfl⟩, ⟨rfl, _, rfl⟩, ⟨rfl, _, rfl⟩, ⟨rfl, _, rfl⟩, trivial⟩ ⟨rfl, rfl, trivial⟩) ⟨View.le_refl _, by omega, by omega, rfl⟩ fun k i V' ⟨hV, hi, hk, hc⟩ => ?_
 conv => whnf
 apply br <;> intro h3 <;> conv => whnf
 ·have h3 : (i : Int) < n := by simpa using h3
  have hi1 : i < its.length := by omega
  have hi2 : i < vals.length := by omega
  obtain ⟨x, hx⟩ : ∃ x, its[i]? = some x := ⟨_, List.getElem?_eq_getElem hi1⟩
  obtain ⟨v, hv⟩ : ∃ v, vals[i]? = some v := ⟨_, List.getElem?_eq_getElem hi2⟩
  have hstep : colAt tb nm its vals = if hitI tb nm x then (v, 0) else colAt tb nm (its.drop (i + 1)) (vals.drop (i + 1)) := by
   rw [← hc]
   rw [List.drop_eq_getElem_cons hi1, List.drop_eq_getElem_cons hi2]
   have e1 : its[i] = x := by rw [List.getElem?_eq_getElem hi1] at hx; exact Option.some.inj hx
   have e2 : vals[i] = v := by rw [List.getElem?_eq_getElem hi2] at hv; exact Option.some.inj hv
   rw [e1, e2]; rfl
  refine IdxN.of (by omega) (by omega) ?_; conv => whnf
  have hx1 := (has_flat (n := 3) (fun _ => rfl) its o1 h1 i x hx).mono hV
  have hv1 := (has_flat (n := 3) (fun _ => rfl) vals o2 h2 i v hv).mono hV
  refine LoadN.of hx1 0 rfl rfl ?_; conv => whnf
  intro b3
  conv => whnf
  have hw : IntKind.i64.wrap ((i : Int) + 1) = ((i + 1 : Nat) : Int) := by rw [wrapE]; omega
  have found : hitI tb nm x = true → pairX (colAt tb nm its vals) = pairX (v, 0) := fun h => by rw [hstep, if_pos h]
  have next : hitI tb nm x = false → colAt tb nm (its.drop (i + 1)) (vals.drop (i + 1)) = colAt tb nm its vals := fun h => by rw [hstep, h]; rfl
  apply br <;> intro h4 <;> conv => whnf
  ·apply br <;> intro h5 <;> conv => whnf
   ·have hh : hitI tb nm x = true := by
     simp only [hitI, Bool.and_eq_true, Bool.or_eq_true]
     exact ⟨h4, .inl h5⟩
    refine IdxN.of (by omega) (by omega) ?_; conv => whnf
    refine LoadN.of hv1 0 rfl rfl ?_; conv => whnf
    refine ret_pure ?_
    rw [found hh]; rfl
   ·apply br <;> intro h6 <;> conv => whnf
    ·have hh : hitI tb nm x = true := by
      simp only [hitI, Bool.and_eq_true, Bool.or_eq_true]
      exact ⟨h4, .inr h6⟩
     refine IdxN.of (by omega) (by omega) ?_; conv => whnf
     refine LoadN.of hv1 0 rfl rfl ?_; conv => whnf
     refine ret_pure ?_
     rw [found hh]; rfl
    ·have hh : hitI tb nm x = false := by
      simp only [hitI]
      rw [show (tb.toList == noText.toList) = false from h5, h6]; simp
     refine ⟨k - 1, _, by omega, ?_, i + 1, rfl, hV, by omega, by omega, next hh⟩
     exact weak_of ⟨⟨rfl, _, rfl⟩, ⟨rfl, _, rfl⟩, ⟨rfl, _, rfl⟩, ⟨rfl, _, rfl⟩, ⟨rfl, _, rfl⟩, ⟨by rw [← hw]; rfl, _, rfl⟩, trivial⟩ ⟨rfl, rfl, trivial⟩
  ·have hh : hitI tb nm x = false := by
    simp only [hitI]
    rw [h4]; simp
   refine ⟨k - 1, _, by omega, ?_, i + 1, rfl, hV, by omega, by omega, next hh⟩
   exact weak_of ⟨⟨rfl, _, rfl⟩, ⟨rfl, _, rfl⟩, ⟨rfl, _, rfl⟩, ⟨rfl, _, rfl⟩, ⟨rfl, _, rfl⟩, ⟨by rw [← hw]; rfl, _, rfl⟩, trivial⟩ ⟨rfl, rfl, trivial⟩
 ·have h3 : ¬ (i : Int) < n := by simpa using h3
  have hend : colAt tb nm its vals = (v0, 10) := by
   rw [← hc]
   rcases hn1.2.2 with h | h
   ·have e : its.drop i = [] := List.drop_eq_nil_of_le (by omega)
    rw [e]; rfl
   ·have e : vals.drop i = [] := List.drop_eq_nil_of_le (by omega)
    rw [e]
    cases its.drop i <;> rfl
  refine ret_pure ?_
  rw [hend]; rfl
end Go.Proofs.YtenpginanhnkbaaGreat
end
