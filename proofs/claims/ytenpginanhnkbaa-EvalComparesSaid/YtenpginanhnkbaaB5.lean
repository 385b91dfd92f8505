/- One part of a proof: an evaluator of the model, shown right, and contracts that it yields. No condition beyond those that each theorem names. -/
import Derived.Test.YtenpginanhnkbaaB4
namespace Go.Proofs.Ytenpginanhnkbaa
open Go.X
set_option maxRecDepth 100000
set_option linter.unusedSimpArgs false

/-! ## the document's arithmetic -/
theorem wrapU (x : Int) : IntKind.u64.wrap x = x % 18446744073709551616 := by
  simp [IntKind.wrap, IntKind.signed, IntKind.bits]
theorem radd_spec (a b : Int) (ha : InR a) (hb : InR b) (V : View) : PSpec 36 [.int .i64 a, .int .i64 b] V (fun v _ => v = pairV (fits (a + b))) := by
  refine pspec [] (args := [.v _, .v _]) Try.func36 (by kernel_rfl) rfl ?_
  conv => whnf
  obtain ⟨h1, h2⟩ := ha
  obtain ⟨h3, h4⟩ := hb
  repeat' (apply br <;> intro h <;> conv => whnf)
  all_goals (refine ret_pure ?_)
  all_goals
    simp only [decide_eq_true_eq, decide_eq_false_iff_not, wrapE] at *
    first
      | (show pairV (0, 8) = _
         unfold fits
         rw [if_neg (by omega)])
      | (unfold fits
         rw [if_pos (by omega)]
         show pairV ((a + b + 9223372036854775808) % 18446744073709551616 - 9223372036854775808, 0) = _
         congr 2
         omega)
theorem rsub_spec (a b : Int) (ha : InR a) (hb : InR b) (V : View) : PSpec 71 [.int .i64 a, .int .i64 b] V (fun v _ => v = pairV (fits (a - b))) := by
  refine pspec [] (args := [.v _, .v _]) Try.func71 (by kernel_rfl) rfl ?_
  conv => whnf
  obtain ⟨h1, h2⟩ := ha
  obtain ⟨h3, h4⟩ := hb
  repeat' (apply br <;> intro h <;> conv => whnf)
  all_goals (refine ret_pure ?_)
  all_goals
    simp only [decide_eq_true_eq, decide_eq_false_iff_not, wrapE] at *
    first
      | (show pairV (0, 8) = _
         unfold fits
         rw [if_neg (by omega)])
      | (unfold fits
         rw [if_pos (by omega)]
         show pairV ((a - b + 9223372036854775808) % 18446744073709551616 - 9223372036854775808, 0) = _
         congr 2
         omega)
theorem rneg_spec (a : Int) (ha : InR a) (V : View) : PSpec 44 [.int .i64 a] V (fun v _ => v = pairV (fits (-a))) := by
  refine pspec [] (args := [.v _]) Try.func44 (by kernel_rfl) rfl ?_
  conv => whnf
  refine CallN.pure (rsub_spec 0 a ⟨by decide, by decide⟩ ha _) fun v V' _ _ hv => ?_
  subst hv
  conv => whnf
  refine ret_pure ?_
  show pairV (fits (0 - a)) = _
  rw [Int.zero_sub]
theorem rsize_spec (a : Int) (ha : InR a) (V : View) : PSpec 98 [.int .i64 a] V (fun v _ => v = .int .u64 a.natAbs) := by
  refine pspec [] (args := [.v _]) Try.func98 (by kernel_rfl) rfl ?_
  conv => whnf
  obtain ⟨h1, h2⟩ := ha
  repeat' (apply br <;> intro h <;> conv => whnf)
  all_goals (refine ret_pure ?_)
  all_goals simp only [decide_eq_true_eq, decide_eq_false_iff_not] at h
  all_goals
    show Value.int IntKind.u64 _ = _
    congr 1
    simp only [wrapU, wrapE]
    omega
theorem quo_runU (x y : Operand) (p b : Int) (h : b ≠ 0) (w : World) : Sem.run Try.prog (do
      eqGuard BinOp.quo 150 x y (.int .u64 p) (.int .u64 b)
      binOp BinOp.quo 150 (.int .u64 p) (.int .u64 b)) w = .ok (.int .u64 (IntKind.u64.wrap (p.tdiv b))) w := by
  simp [eqGuard, binOp, Op.intDiv, h]
theorem sign_law (a b : Int) : ((a < 0 ↔ b < 0) → 0 ≤ a * b) ∧ (¬ (a < 0 ↔ b < 0) → a * b ≤ 0) := by
  refine ⟨fun h => ?_, fun h => ?_⟩
  · by_cases ha : a < 0
    · exact Int.mul_nonneg_of_nonpos_of_nonpos (by omega) (by have := h.1 ha; omega)
    · exact Int.mul_nonneg (by omega) (by
        by_cases hb : b < 0
        · exact absurd (h.2 hb) ha
        · omega)
  · by_cases ha : a < 0
    · exact Int.mul_nonpos_of_nonpos_of_nonneg (by omega) (by
        by_cases hb : b < 0
        · exact absurd ⟨fun _ => hb, fun _ => ha⟩ h
        · omega)
    · exact Int.mul_nonpos_of_nonneg_of_nonpos (by omega) (by
        by_cases hb : b < 0
        · omega
        · exact absurd ⟨fun h => absurd h ha, fun h => absurd h hb⟩ h)
theorem rmul_spec (a b : Int) (ha : InR a) (hb : InR b) (V : View) : PSpec 72 [.int .i64 a, .int .i64 b] V (fun v _ => v = pairV (fits (a * b))) := by
  refine pspec [] (args := [.v _, .v _]) Try.func72 (by kernel_rfl) rfl ?_
  conv => whnf
  apply br <;> intro h0 <;> conv => whnf
  · refine ret_pure ?_
    simp only [beq_iff_eq] at h0
    subst h0
    show pairV (0, 0) = _
    simp [fits]
  apply br <;> intro h1 <;> conv => whnf
  · refine ret_pure ?_
    simp only [beq_iff_eq] at h1
    subst h1
    show pairV (0, 0) = _
    simp [fits]
  apply br <;> intro h2 <;> conv => whnf
  all_goals
    refine CallN.pure (rsize_spec a ha _) fun v V' _ _ hv => ?_
    subst hv
    conv => whnf
    refine CallN.pure (rsize_spec b hb _) fun v V' _ _ hv => ?_
    subst hv
    conv => whnf
    simp only [beq_eq_false_iff_ne, ne_eq] at h0 h1
    refine ⟨⟨_, quo_runU _ _ _ _ (by omega), ?_⟩⟩
    conv => whnf
    have hB : (0 : Int) < (b.natAbs : Int) := by omega
    have hq : (IntKind.u64.wrap (9223372036854775807 + 1)) = 9223372036854775808 := by rw [wrapU]; rfl
    have hn : (a * b).natAbs = a.natAbs * b.natAbs := Int.natAbs_mul a b
    have hs := sign_law a b
    apply br <;> intro h3 <;> conv => whnf
    all_goals
      refine ret_pure ?_
      simp only [hq, wrapU, gt_iff_lt, decide_eq_true_eq, decide_eq_false_iff_not] at h3
      rw [Int.tdiv_eq_ediv_of_nonneg (by decide)] at h3
      rw [Int.emod_eq_of_lt (Int.ediv_nonneg (by decide) (by omega)) (by
        refine Int.lt_of_le_of_lt (Int.ediv_le_self _ (by decide)) (by decide)), Int.ediv_lt_iff_lt_mul hB] at h3
      rw [← Int.natCast_mul, ← hn] at h3
      simp only [Bool.not_eq_true', Bool.not_eq_false', beq_eq_false_iff_ne, beq_iff_eq, ne_eq, decide_eq_decide] at h2
    · show pairV (0, 8) = _
      unfold fits
      rw [if_neg (by omega)]
    · show pairV (IntKind.i64.wrap (a * b), 0) = _
      unfold fits
      rw [if_pos (by omega), wrapE]
      congr 2
      omega
theorem rtruth_spec (b : Bool) (V : View) : PSpec 45 [.bool b] V (fun v _ => v = vv (truthV b)) := by
  refine pspec [] (args := [.v _]) Try.func45 (by kernel_rfl) rfl ?_
  conv => whnf
  intro b1
  conv => whnf
  apply br <;> intro h <;> conv => whnf
  all_goals
    subst h
    exact ret_pure rfl
theorem rcmp_spec (a b : Val) (ha : a.k = 1) (hb : b.k = 1) (V : View) : PSpec 33 [vv a, vv b] V (fun v _ => v = .int .i64 (cmpI a.n b.n)) := by
  obtain ⟨ak, an, at'⟩ := a
  obtain ⟨bk, bn, bt⟩ := b
  simp only at ha hb
  subst ha; subst hb
  refine pspec [] (args := [.v _, .v _]) Try.func33 (by kernel_rfl) rfl ?_
  conv => whnf
  intro b1
  conv => whnf
  intro b2
  conv => whnf
  refine br_f rfl ?_
  conv => whnf
  refine br_f rfl ?_
  conv => whnf
  refine br_t rfl ?_
  conv => whnf
  apply br <;> intro h <;> conv => whnf
  · refine ret_pure ?_
    simp_all [packVals, cmpI]
  refine br_t rfl ?_
  conv => whnf
  apply br <;> intro h2 <;> conv => whnf
  · refine ret_pure ?_
    simp_all [packVals, cmpI]
  refine br_t rfl ?_
  conv => whnf
  refine ret_pure ?_
  simp_all [packVals, cmpI]
  omega
/-- two values and what comparing them says -/
def binY (c : Int) (op : Int) (a b : Val) : Val × Int :=
  if op = 5 then wholeV (fits (a.n + b.n)) else if op = 6 then wholeV (fits (a.n - b.n)) else if op = 7 then wholeV (fits (a.n * b.n))
  else if op = 8 then (truthV (c == 0), 0) else if op = 9 then (truthV (c != 0), 0) else if op = 10 then (truthV (decide (c < 0)), 0)
  else if op = 11 then (truthV (decide (c ≤ 0)), 0) else if op = 12 then (truthV (decide (0 < c)), 0) else if op = 13 then (truthV (decide (0 ≤ c)), 0) else (v0, 1)
theorem binX_eq (op : Int) (a b : Val) : binX op a b = binY (cmpV a b) op a b := rfl
theorem two_spec (op c : Int) (hop : 5 ≤ op ∧ op ≤ 13) (a b : Val) (ha : InR a.n) (hb : InR b.n) (V : View) (hcmp : 8 ≤ op → ∀ V', V.le V' → PSpec 33 [vv a, vv b] V' (fun v _ => v = .int .i64 c)) :
    PSpec 46 [.int .i64 op, vv a, vv b] V (fun v _ => v = pairX (binY c op a b)) := by
  have hcases : op = 5 ∨ op = 6 ∨ op = 7 ∨ op = 8 ∨ op = 9 ∨ op = 10 ∨ op = 11 ∨ op = 12 ∨ op = 13 := by omega
  rcases hcases with rfl | rfl | rfl | rfl | rfl | rfl | rfl | rfl | rfl
  · refine pspec [] (args := [.v _, .v _, .v _]) Try.func46 (by kernel_rfl) rfl ?_
    conv => whnf
    intro b1
    conv => whnf
    intro b2
    conv => whnf
    intro b3
    conv => whnf
    refine br_f rfl ?_
    conv => whnf
    refine br_f rfl ?_
    conv => whnf
    refine CallN.pure (radd_spec a.n b.n ha hb _) fun v V1 _ hV hv => ?_
    subst hv
    conv => whnf
    refine br_f rfl ?_
    conv => whnf
    refine br_f rfl ?_
    conv => whnf
    apply br <;> intro he <;> conv => whnf
    · have he : (fits (a.n + b.n)).2 ≠ 0 := by simpa using he
      refine ret_pure ?_
      rw [show binY c 5 a b = wholeV (fits (a.n + b.n)) from rfl]
      unfold wholeV
      rw [if_neg he]; rfl
    · have he : (fits (a.n + b.n)).2 = 0 := by simpa using he
      refine ret_pure ?_
      rw [show binY c 5 a b = wholeV (fits (a.n + b.n)) from rfl]
      unfold wholeV
      rw [if_pos he]; rfl
  · refine pspec [] (args := [.v _, .v _, .v _]) Try.func46 (by kernel_rfl) rfl ?_
    conv => whnf
    intro b1
    conv => whnf
    intro b2
    conv => whnf
    intro b3
    conv => whnf
    refine br_f rfl ?_
    conv => whnf
    refine br_f rfl ?_
    conv => whnf
    refine CallN.pure (radd_spec a.n b.n ha hb _) fun v V1 _ hV hv => ?_
    subst hv
    conv => whnf
    refine br_t rfl ?_
    conv => whnf
    refine CallN.pure (rsub_spec a.n b.n ha hb _) fun v V1 _ hV hv => ?_
    subst hv
    conv => whnf
    apply br <;> intro he <;> conv => whnf
    · have he : (fits (a.n - b.n)).2 ≠ 0 := by simpa using he
      refine ret_pure ?_
      rw [show binY c 6 a b = wholeV (fits (a.n - b.n)) from rfl]
      unfold wholeV
      rw [if_neg he]; rfl
    · have he : (fits (a.n - b.n)).2 = 0 := by simpa using he
      refine ret_pure ?_
      rw [show binY c 6 a b = wholeV (fits (a.n - b.n)) from rfl]
      unfold wholeV
      rw [if_pos he]; rfl
  · refine pspec [] (args := [.v _, .v _, .v _]) Try.func46 (by kernel_rfl) rfl ?_
    conv => whnf
    intro b1
    conv => whnf
    intro b2
    conv => whnf
    intro b3
    conv => whnf
    refine br_f rfl ?_
    conv => whnf
    refine br_f rfl ?_
    conv => whnf
    refine CallN.pure (radd_spec a.n b.n ha hb _) fun v V1 _ hV hv => ?_
    subst hv
    conv => whnf
    refine br_f rfl ?_
    conv => whnf
    refine br_t rfl ?_
    conv => whnf
    refine CallN.pure (rmul_spec a.n b.n ha hb _) fun v V1 _ hV hv => ?_
    subst hv
    conv => whnf
    apply br <;> intro he <;> conv => whnf
    · have he : (fits (a.n * b.n)).2 ≠ 0 := by simpa using he
      refine ret_pure ?_
      rw [show binY c 7 a b = wholeV (fits (a.n * b.n)) from rfl]
      unfold wholeV
      rw [if_neg he]; rfl
    · have he : (fits (a.n * b.n)).2 = 0 := by simpa using he
      refine ret_pure ?_
      rw [show binY c 7 a b = wholeV (fits (a.n * b.n)) from rfl]
      unfold wholeV
      rw [if_pos he]; rfl
  · refine pspec [] (args := [.v _, .v _, .v _]) Try.func46 (by kernel_rfl) rfl ?_
    conv => whnf
    intro b1
    conv => whnf
    intro b2
    conv => whnf
    intro b3
    conv => whnf
    refine br_f rfl ?_
    conv => whnf
    refine br_t rfl ?_
    conv => whnf
    refine CallN.pure (hcmp (by decide) _ (View.le_refl _)) fun v V1 _ hV hv => ?_
    subst hv
    conv => whnf
    intro b4 V2 hV2 h4
    conv => whnf
    refine IdxN.lit rfl rfl ?_
    conv => whnf
    refine LoadN.of h4 0 rfl rfl ?_
    conv => whnf
    refine CallN.pure (rtruth_spec _ _) fun v V1 _ hV hv => ?_
    subst hv
    conv => whnf
    refine ret_pure ?_
    rfl
  · refine pspec [] (args := [.v _, .v _, .v _]) Try.func46 (by kernel_rfl) rfl ?_
    conv => whnf
    intro b1
    conv => whnf
    intro b2
    conv => whnf
    intro b3
    conv => whnf
    refine br_f rfl ?_
    conv => whnf
    refine br_t rfl ?_
    conv => whnf
    refine CallN.pure (hcmp (by decide) _ (View.le_refl _)) fun v V1 _ hV hv => ?_
    subst hv
    conv => whnf
    intro b4 V2 hV2 h4
    conv => whnf
    refine IdxN.lit rfl rfl ?_
    conv => whnf
    refine LoadN.of h4 1 rfl rfl ?_
    conv => whnf
    refine CallN.pure (rtruth_spec _ _) fun v V1 _ hV hv => ?_
    subst hv
    conv => whnf
    refine ret_pure ?_
    rfl
  · refine pspec [] (args := [.v _, .v _, .v _]) Try.func46 (by kernel_rfl) rfl ?_
    conv => whnf
    intro b1
    conv => whnf
    intro b2
    conv => whnf
    intro b3
    conv => whnf
    refine br_f rfl ?_
    conv => whnf
    refine br_t rfl ?_
    conv => whnf
    refine CallN.pure (hcmp (by decide) _ (View.le_refl _)) fun v V1 _ hV hv => ?_
    subst hv
    conv => whnf
    intro b4 V2 hV2 h4
    conv => whnf
    refine IdxN.lit rfl rfl ?_
    conv => whnf
    refine LoadN.of h4 2 rfl rfl ?_
    conv => whnf
    refine CallN.pure (rtruth_spec _ _) fun v V1 _ hV hv => ?_
    subst hv
    conv => whnf
    refine ret_pure ?_
    rfl
  · refine pspec [] (args := [.v _, .v _, .v _]) Try.func46 (by kernel_rfl) rfl ?_
    conv => whnf
    intro b1
    conv => whnf
    intro b2
    conv => whnf
    intro b3
    conv => whnf
    refine br_f rfl ?_
    conv => whnf
    refine br_t rfl ?_
    conv => whnf
    refine CallN.pure (hcmp (by decide) _ (View.le_refl _)) fun v V1 _ hV hv => ?_
    subst hv
    conv => whnf
    intro b4 V2 hV2 h4
    conv => whnf
    refine IdxN.lit rfl rfl ?_
    conv => whnf
    refine LoadN.of h4 3 rfl rfl ?_
    conv => whnf
    refine CallN.pure (rtruth_spec _ _) fun v V1 _ hV hv => ?_
    subst hv
    conv => whnf
    refine ret_pure ?_
    rfl
  · refine pspec [] (args := [.v _, .v _, .v _]) Try.func46 (by kernel_rfl) rfl ?_
    conv => whnf
    intro b1
    conv => whnf
    intro b2
    conv => whnf
    intro b3
    conv => whnf
    refine br_f rfl ?_
    conv => whnf
    refine br_t rfl ?_
    conv => whnf
    refine CallN.pure (hcmp (by decide) _ (View.le_refl _)) fun v V1 _ hV hv => ?_
    subst hv
    conv => whnf
    intro b4 V2 hV2 h4
    conv => whnf
    refine IdxN.lit rfl rfl ?_
    conv => whnf
    refine LoadN.of h4 4 rfl rfl ?_
    conv => whnf
    refine CallN.pure (rtruth_spec _ _) fun v V1 _ hV hv => ?_
    subst hv
    conv => whnf
    refine ret_pure ?_
    rfl
  · refine pspec [] (args := [.v _, .v _, .v _]) Try.func46 (by kernel_rfl) rfl ?_
    conv => whnf
    intro b1
    conv => whnf
    intro b2
    conv => whnf
    intro b3
    conv => whnf
    refine br_f rfl ?_
    conv => whnf
    refine br_t rfl ?_
    conv => whnf
    refine CallN.pure (hcmp (by decide) _ (View.le_refl _)) fun v V1 _ hV hv => ?_
    subst hv
    conv => whnf
    intro b4 V2 hV2 h4
    conv => whnf
    refine IdxN.lit rfl rfl ?_
    conv => whnf
    refine LoadN.of h4 5 rfl rfl ?_
    conv => whnf
    refine CallN.pure (rtruth_spec _ _) fun v V1 _ hV hv => ?_
    subst hv
    conv => whnf
    refine ret_pure ?_
    rfl
end Go.Proofs.Ytenpginanhnkbaa
