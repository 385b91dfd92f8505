/- One part of a proof: an evaluator of the model, shown right, and contracts that it yields. No condition beyond those that each theorem names. -/
import Derived.Test.YtenpginanhnkbaaCB
section
set_option linter.unusedSimpArgs false
set_option linter.unusedVariables false
namespace Go.Proofs.Ytenpginanhnkbaa
open Go.X
set_option maxRecDepth 100000

/-! ## what may be -/
theorem str_index (s : ByteArray) (i : Int) (h0 : 0 ≤ i) (h1 : i < s.size) : ∃ y : UInt8, s.data.toList[i.toNat]? = some y ∧ ∀ w, (Instr.index 9 (.string s) (.int .i64 i)).run Try.prog w = .ok (.int .u8 y.toNat) w := by
  have hlt : i.toNat < s.size := by omega
  have u9 : Try.prog.underlying 9 = some .string := by kernel_rfl
  refine ⟨s.data.toList[i.toNat]'(by simpa using hlt), List.getElem?_eq_getElem _, fun w => ?_⟩
  have hy : s[i.toNat]? = some (s.data.toList[i.toNat]'(by simpa using hlt)) := by
    show (if h : i.toNat < s.size then some s[i.toNat] else none) = _
    rw [dif_pos hlt]; rfl
  simp [Instr.index, asIntOf, run_underlying u9, h0, hy]
def May (x : Val) : Prop := (x.k = 1 ∧ x.t.toList = []) ∨ (x.k = 2 ∧ x.n = 0)
theorem may_spec (x : Val) (V : View) : PSpec 24 [vv x] V (fun v _ => ∃ r, v = .bool r ∧ (r = true → May x)) := by
  refine pspec [] (args := [.v _]) Try.func24 (by kernel_rfl) rfl ?_
  conv => whnf
  intro b1
  conv => whnf
  apply br <;> intro h1 <;> conv => whnf
  · refine ret_pure ⟨_, rfl, fun h => .inl ⟨by simpa using h1, ?_⟩⟩
    simpa using h
  apply br <;> intro h2 <;> conv => whnf
  · exact ret_pure ⟨_, rfl, fun h => by cases h⟩
  apply br <;> intro h3 <;> conv => whnf
  · exact ret_pure ⟨_, rfl, fun h => by cases h⟩
  apply br <;> intro h4 <;> conv => whnf
  · exact ret_pure ⟨_, rfl, fun h => by cases h⟩
  refine LoopN.mk' (σ := Int) (fun i => St.of [(1, .own 1 0), (3, .v (.int .i64 i))] [(1, .box b1 38 (vcells x))]) (fun k i _ => 0 ≤ i ∧ i ≤ x.t.size ∧ x.t.size - i = k) x.t.size 0
    (weak_of ⟨⟨rfl, _, rfl⟩, ⟨rfl, _, rfl⟩, trivial⟩ ⟨rfl, trivial⟩) ⟨by decide, by omega, by omega⟩ fun k i V ⟨hi0, hi1, hk⟩ => ?_
  have hsz : (x.t.size : Int) ≤ 30 := by simpa using h4
  conv => whnf
  apply br <;> intro h5 <;> conv => whnf
  · have h5 : i < (x.t.size : Int) := by simpa using h5
    obtain ⟨y, _, hy⟩ := str_index x.t i hi0 h5
    refine ⟨⟨_, hy, ?_⟩⟩
    conv => whnf
    apply br <;> intro h6 <;> conv => whnf
    · exact ret_pure ⟨_, rfl, fun h => by cases h⟩
    refine ⟨⟨_, hy, ?_⟩⟩
    conv => whnf
    apply br <;> intro h7 <;> conv => whnf
    · exact ret_pure ⟨_, rfl, fun h => by cases h⟩
    have hw : IntKind.i64.wrap (i + 1) = i + 1 := by rw [wrapE]; omega
    refine ⟨k - 1, _, by omega, ?_, IntKind.i64.wrap (i + 1), rfl, by rw [hw]; omega, by rw [hw]; omega, by rw [hw]; omega⟩
    exact weak_of ⟨⟨rfl, _, rfl⟩, ⟨rfl, _, rfl⟩, trivial⟩ ⟨rfl, trivial⟩
  · exact ret_pure ⟨_, rfl, fun _ => .inr ⟨by simpa using h2, by simpa using h3⟩⟩
/-! ## EvalCompares -/
theorem cmpV_three (a b : Val) : cmpV a b = -1 ∨ cmpV a b = 0 ∨ cmpV a b = 1 := by
  unfold cmpV orI cmpI cmpS
  repeat' split
  all_goals simp_all
theorem cmpI_zero {a b : Int} : cmpI a b = 0 ↔ a = b := by
  unfold cmpI
  repeat' split
  all_goals simp_all
  all_goals omega
theorem cmpS_zero {a b : ByteArray} : cmpS a b = 0 ↔ a.toList = b.toList := by
  unfold cmpS
  split
  · rename_i h
    refine ⟨fun e => by simp at e, fun e => ?_⟩
    rw [e, less_self] at h; cases h
  · split <;> simp_all
theorem same_iff (a b : Val) : sameV a b = decide (cmpV a b = 0) := by
  unfold sameV cmpV orI
  have h1 := @cmpI_zero a.k b.k
  have h2 := @cmpI_zero a.n b.n
  have h3 := @cmpS_zero a.t b.t
  by_cases e1 : a.k = b.k <;> by_cases e2 : a.n = b.n <;> by_cases e3 : a.t.toList = b.t.toList <;> simp_all
def pl6 : Plans := [(13, [(0, []), (1, []), (2, []), (3, []), (4, []), (5, []), (6, []), (7, []), (8, []), (9, []), (10, []), (11, []), (12, []), (13, []), (14, []), (15, []), (16, []), (17, []), (18, []), (19, []), (20, []), (21, []), (22, []), (23, []), (24, []), (25, []), (26, []), (27, []), (28, []), (29, []), (30, []), (31, []), (32, []), (33, []), (34, []), (35, []), (36, []), (37, []), (38, []), (39, []), (40, []), (41, []), (42, []), (43, []), (44, []), (45, []), (46, []), (47, []), (48, []), (49, []), (50, []), (51, []), (52, [])])]
/-- what the six say so far -/
def arrC (c : Int) (i : Nat) : List Value := [.bool (decide (0 < i) && c == 0), .bool (decide (1 < i) && c != 0), .bool (decide (2 < i) && decide (c < 0)), .bool (decide (3 < i) && decide (c ≤ 0)), .bool (decide (4 < i) && decide (0 < c)), .bool (decide (5 < i) && decide (0 ≤ c))]
theorem compares_spec (a b : Val) (ha : InR a.n) (hb : InR b.n) (V : View) : PSpec 6 [vv a, vv b] V (fun v _ => v = .bool true) := by
  refine pspec pl6 (args := [.v _, .v _]) Try.func6 (by kernel_rfl) rfl ?_
  conv => whnf
  intro b1
  conv => whnf
  intro b2
  conv => whnf
  refine CallN.pure (begun_spec _) fun v V1 _ hV1 hv => ?_
  subst hv
  conv => whnf
  refine br_f rfl ?_
  conv => whnf
  refine CallN.pure (may_spec a _) fun v V2 _ hV2 hv => ?_
  obtain ⟨r, rfl, hr⟩ := hv
  conv => whnf
  apply br <;> intro h1 <;> conv => whnf
  · exact ret_pure rfl
  refine CallN.pure (may_spec b _) fun v V3 _ hV3 hv => ?_
  obtain ⟨s, rfl, hs⟩ := hv
  conv => whnf
  apply br <;> intro h2 <;> conv => whnf
  · exact ret_pure rfl
  apply br <;> intro h3 <;> conv => whnf
  · exact ret_pure rfl
  intro b3
  conv => whnf
  have hc := cmpV_three a b
  have hsame := same_iff a b
  generalize hcc : cmpV a b = c at hc hsame
  have ev0 : evalX col0 (.bin 8 (.lit a) (.lit b)) = (truthV (c == 0), 0) := by rw [← hcc]; rfl
  have ev1 : evalX col0 (.bin 9 (.lit a) (.lit b)) = (truthV (c != 0), 0) := by rw [← hcc]; rfl
  have ev2 : evalX col0 (.bin 10 (.lit a) (.lit b)) = (truthV (decide (c < 0)), 0) := by rw [← hcc]; rfl
  have ev3 : evalX col0 (.bin 11 (.lit a) (.lit b)) = (truthV (decide (c ≤ 0)), 0) := by rw [← hcc]; rfl
  have ev4 : evalX col0 (.bin 12 (.lit a) (.lit b)) = (truthV (decide (0 < c)), 0) := by rw [← hcc]; rfl
  have ev5 : evalX col0 (.bin 13 (.lit a) (.lit b)) = (truthV (decide (0 ≤ c)), 0) := by rw [← hcc]; rfl
  rcases hc with rfl | rfl | rfl
  · refine LoopN.mk' (σ := Nat) (fun i => St.of [(2, .own 2 0), (3, .own 3 0), (5, .own 5 0), (6, .v (.int .i64 i))] [(2, .box b1 38 (vcells a)), (3, .box b2 38 (vcells b)), (5, .box b3 57 (arrC (-1) i))])
      (fun k i _ => i ≤ 6 ∧ k = 6 - i) 6 0 (weak_of ⟨⟨rfl, _, rfl⟩, ⟨rfl, _, rfl⟩, ⟨rfl, _, rfl⟩, ⟨rfl, _, rfl⟩, trivial⟩ ⟨rfl, rfl, rfl, trivial⟩) ⟨by decide, rfl⟩ fun k i V ⟨hi, hk⟩ => ?_
    subst hk
    have hi : i = 0 ∨ i = 1 ∨ i = 2 ∨ i = 3 ∨ i = 4 ∨ i = 5 ∨ i = 6 := by omega
    rcases hi with rfl | rfl | rfl | rfl | rfl | rfl | rfl
    · conv => whnf
      refine br_t rfl ?_
      conv => whnf
      intro c0 W0 hW0 hc0
      conv => whnf
      refine CallN.pure (Eval0_spec (.bin 8 (.lit a) (.lit b)) ⟨8, v0, noText, noText, some ⟨c0, 0, none⟩, 2, 2⟩ _ ⟨ha, hb⟩
        ⟨rfl, by decide, rfl, c0, 0, litX a, litX b, rfl, hc0, ⟨rfl, rfl⟩, ⟨rfl, rfl⟩⟩) fun v U0 _ hU0 hv => ?_
      subst hv
      rw [ev0]
      conv => whnf
      intro d0
      conv => whnf
      repeat (first | (refine br_t rfl ?_; conv => whnf) | (refine br_f rfl ?_; conv => whnf))
      refine ⟨5, _, by decide, ?_, 1, rfl, by decide, rfl⟩
      exact weak_of ⟨⟨rfl, _, rfl⟩, ⟨rfl, _, rfl⟩, ⟨rfl, _, rfl⟩, ⟨rfl, _, rfl⟩, trivial⟩ ⟨rfl, rfl, rfl, trivial⟩
    · conv => whnf
      refine br_t rfl ?_
      conv => whnf
      intro c0 W0 hW0 hc0
      conv => whnf
      refine CallN.pure (Eval0_spec (.bin 9 (.lit a) (.lit b)) ⟨9, v0, noText, noText, some ⟨c0, 0, none⟩, 2, 2⟩ _ ⟨ha, hb⟩
        ⟨rfl, by decide, rfl, c0, 0, litX a, litX b, rfl, hc0, ⟨rfl, rfl⟩, ⟨rfl, rfl⟩⟩) fun v U0 _ hU0 hv => ?_
      subst hv
      rw [ev1]
      conv => whnf
      intro d0
      conv => whnf
      repeat (first | (refine br_t rfl ?_; conv => whnf) | (refine br_f rfl ?_; conv => whnf))
      refine ⟨4, _, by decide, ?_, 2, rfl, by decide, rfl⟩
      exact weak_of ⟨⟨rfl, _, rfl⟩, ⟨rfl, _, rfl⟩, ⟨rfl, _, rfl⟩, ⟨rfl, _, rfl⟩, trivial⟩ ⟨rfl, rfl, rfl, trivial⟩
    · conv => whnf
      refine br_t rfl ?_
      conv => whnf
      intro c0 W0 hW0 hc0
      conv => whnf
      refine CallN.pure (Eval0_spec (.bin 10 (.lit a) (.lit b)) ⟨10, v0, noText, noText, some ⟨c0, 0, none⟩, 2, 2⟩ _ ⟨ha, hb⟩
        ⟨rfl, by decide, rfl, c0, 0, litX a, litX b, rfl, hc0, ⟨rfl, rfl⟩, ⟨rfl, rfl⟩⟩) fun v U0 _ hU0 hv => ?_
      subst hv
      rw [ev2]
      conv => whnf
      intro d0
      conv => whnf
      repeat (first | (refine br_t rfl ?_; conv => whnf) | (refine br_f rfl ?_; conv => whnf))
      refine ⟨3, _, by decide, ?_, 3, rfl, by decide, rfl⟩
      exact weak_of ⟨⟨rfl, _, rfl⟩, ⟨rfl, _, rfl⟩, ⟨rfl, _, rfl⟩, ⟨rfl, _, rfl⟩, trivial⟩ ⟨rfl, rfl, rfl, trivial⟩
    · conv => whnf
      refine br_t rfl ?_
      conv => whnf
      intro c0 W0 hW0 hc0
      conv => whnf
      refine CallN.pure (Eval0_spec (.bin 11 (.lit a) (.lit b)) ⟨11, v0, noText, noText, some ⟨c0, 0, none⟩, 2, 2⟩ _ ⟨ha, hb⟩
        ⟨rfl, by decide, rfl, c0, 0, litX a, litX b, rfl, hc0, ⟨rfl, rfl⟩, ⟨rfl, rfl⟩⟩) fun v U0 _ hU0 hv => ?_
      subst hv
      rw [ev3]
      conv => whnf
      intro d0
      conv => whnf
      repeat (first | (refine br_t rfl ?_; conv => whnf) | (refine br_f rfl ?_; conv => whnf))
      refine ⟨2, _, by decide, ?_, 4, rfl, by decide, rfl⟩
      exact weak_of ⟨⟨rfl, _, rfl⟩, ⟨rfl, _, rfl⟩, ⟨rfl, _, rfl⟩, ⟨rfl, _, rfl⟩, trivial⟩ ⟨rfl, rfl, rfl, trivial⟩
    · conv => whnf
      refine br_t rfl ?_
      conv => whnf
      intro c0 W0 hW0 hc0
      conv => whnf
      refine CallN.pure (Eval0_spec (.bin 12 (.lit a) (.lit b)) ⟨12, v0, noText, noText, some ⟨c0, 0, none⟩, 2, 2⟩ _ ⟨ha, hb⟩
        ⟨rfl, by decide, rfl, c0, 0, litX a, litX b, rfl, hc0, ⟨rfl, rfl⟩, ⟨rfl, rfl⟩⟩) fun v U0 _ hU0 hv => ?_
      subst hv
      rw [ev4]
      conv => whnf
      intro d0
      conv => whnf
      repeat (first | (refine br_t rfl ?_; conv => whnf) | (refine br_f rfl ?_; conv => whnf))
      refine ⟨1, _, by decide, ?_, 5, rfl, by decide, rfl⟩
      exact weak_of ⟨⟨rfl, _, rfl⟩, ⟨rfl, _, rfl⟩, ⟨rfl, _, rfl⟩, ⟨rfl, _, rfl⟩, trivial⟩ ⟨rfl, rfl, rfl, trivial⟩
    · conv => whnf
      refine br_t rfl ?_
      conv => whnf
      intro c0 W0 hW0 hc0
      conv => whnf
      refine CallN.pure (Eval0_spec (.bin 13 (.lit a) (.lit b)) ⟨13, v0, noText, noText, some ⟨c0, 0, none⟩, 2, 2⟩ _ ⟨ha, hb⟩
        ⟨rfl, by decide, rfl, c0, 0, litX a, litX b, rfl, hc0, ⟨rfl, rfl⟩, ⟨rfl, rfl⟩⟩) fun v U0 _ hU0 hv => ?_
      subst hv
      rw [ev5]
      conv => whnf
      intro d0
      conv => whnf
      repeat (first | (refine br_t rfl ?_; conv => whnf) | (refine br_f rfl ?_; conv => whnf))
      refine ⟨0, _, by decide, ?_, 6, rfl, by decide, rfl⟩
      exact weak_of ⟨⟨rfl, _, rfl⟩, ⟨rfl, _, rfl⟩, ⟨rfl, _, rfl⟩, ⟨rfl, _, rfl⟩, trivial⟩ ⟨rfl, rfl, rfl, trivial⟩
    · conv => whnf
      refine br_f rfl ?_
      conv => whnf
      refine ⟨⟨_, eqv_run _ _ a b, ?_⟩⟩
      rw [hsame]
      conv => whnf
      repeat (first | (refine br_t rfl ?_; conv => whnf) | (refine br_f rfl ?_; conv => whnf))
      exact ret_pure rfl
  · refine LoopN.mk' (σ := Nat) (fun i => St.of [(2, .own 2 0), (3, .own 3 0), (5, .own 5 0), (6, .v (.int .i64 i))] [(2, .box b1 38 (vcells a)), (3, .box b2 38 (vcells b)), (5, .box b3 57 (arrC 0 i))])
      (fun k i _ => i ≤ 6 ∧ k = 6 - i) 6 0 (weak_of ⟨⟨rfl, _, rfl⟩, ⟨rfl, _, rfl⟩, ⟨rfl, _, rfl⟩, ⟨rfl, _, rfl⟩, trivial⟩ ⟨rfl, rfl, rfl, trivial⟩) ⟨by decide, rfl⟩ fun k i V ⟨hi, hk⟩ => ?_
    subst hk
    have hi : i = 0 ∨ i = 1 ∨ i = 2 ∨ i = 3 ∨ i = 4 ∨ i = 5 ∨ i = 6 := by omega
    rcases hi with rfl | rfl | rfl | rfl | rfl | rfl | rfl
    · conv => whnf
      refine br_t rfl ?_
      conv => whnf
      intro c0 W0 hW0 hc0
      conv => whnf
      refine CallN.pure (Eval0_spec (.bin 8 (.lit a) (.lit b)) ⟨8, v0, noText, noText, some ⟨c0, 0, none⟩, 2, 2⟩ _ ⟨ha, hb⟩
        ⟨rfl, by decide, rfl, c0, 0, litX a, litX b, rfl, hc0, ⟨rfl, rfl⟩, ⟨rfl, rfl⟩⟩) fun v U0 _ hU0 hv => ?_
      subst hv
      rw [ev0]
      conv => whnf
      intro d0
      conv => whnf
      repeat (first | (refine br_t rfl ?_; conv => whnf) | (refine br_f rfl ?_; conv => whnf))
      refine ⟨5, _, by decide, ?_, 1, rfl, by decide, rfl⟩
      exact weak_of ⟨⟨rfl, _, rfl⟩, ⟨rfl, _, rfl⟩, ⟨rfl, _, rfl⟩, ⟨rfl, _, rfl⟩, trivial⟩ ⟨rfl, rfl, rfl, trivial⟩
    · conv => whnf
      refine br_t rfl ?_
      conv => whnf
      intro c0 W0 hW0 hc0
      conv => whnf
      refine CallN.pure (Eval0_spec (.bin 9 (.lit a) (.lit b)) ⟨9, v0, noText, noText, some ⟨c0, 0, none⟩, 2, 2⟩ _ ⟨ha, hb⟩
        ⟨rfl, by decide, rfl, c0, 0, litX a, litX b, rfl, hc0, ⟨rfl, rfl⟩, ⟨rfl, rfl⟩⟩) fun v U0 _ hU0 hv => ?_
      subst hv
      rw [ev1]
      conv => whnf
      intro d0
      conv => whnf
      repeat (first | (refine br_t rfl ?_; conv => whnf) | (refine br_f rfl ?_; conv => whnf))
      refine ⟨4, _, by decide, ?_, 2, rfl, by decide, rfl⟩
      exact weak_of ⟨⟨rfl, _, rfl⟩, ⟨rfl, _, rfl⟩, ⟨rfl, _, rfl⟩, ⟨rfl, _, rfl⟩, trivial⟩ ⟨rfl, rfl, rfl, trivial⟩
    · conv => whnf
      refine br_t rfl ?_
      conv => whnf
      intro c0 W0 hW0 hc0
      conv => whnf
      refine CallN.pure (Eval0_spec (.bin 10 (.lit a) (.lit b)) ⟨10, v0, noText, noText, some ⟨c0, 0, none⟩, 2, 2⟩ _ ⟨ha, hb⟩
        ⟨rfl, by decide, rfl, c0, 0, litX a, litX b, rfl, hc0, ⟨rfl, rfl⟩, ⟨rfl, rfl⟩⟩) fun v U0 _ hU0 hv => ?_
      subst hv
      rw [ev2]
      conv => whnf
      intro d0
      conv => whnf
      repeat (first | (refine br_t rfl ?_; conv => whnf) | (refine br_f rfl ?_; conv => whnf))
      refine ⟨3, _, by decide, ?_, 3, rfl, by decide, rfl⟩
      exact weak_of ⟨⟨rfl, _, rfl⟩, ⟨rfl, _, rfl⟩, ⟨rfl, _, rfl⟩, ⟨rfl, _, rfl⟩, trivial⟩ ⟨rfl, rfl, rfl, trivial⟩
    · conv => whnf
      refine br_t rfl ?_
      conv => whnf
      intro c0 W0 hW0 hc0
      conv => whnf
      refine CallN.pure (Eval0_spec (.bin 11 (.lit a) (.lit b)) ⟨11, v0, noText, noText, some ⟨c0, 0, none⟩, 2, 2⟩ _ ⟨ha, hb⟩
        ⟨rfl, by decide, rfl, c0, 0, litX a, litX b, rfl, hc0, ⟨rfl, rfl⟩, ⟨rfl, rfl⟩⟩) fun v U0 _ hU0 hv => ?_
      subst hv
      rw [ev3]
      conv => whnf
      intro d0
      conv => whnf
      repeat (first | (refine br_t rfl ?_; conv => whnf) | (refine br_f rfl ?_; conv => whnf))
      refine ⟨2, _, by decide, ?_, 4, rfl, by decide, rfl⟩
      exact weak_of ⟨⟨rfl, _, rfl⟩, ⟨rfl, _, rfl⟩, ⟨rfl, _, rfl⟩, ⟨rfl, _, rfl⟩, trivial⟩ ⟨rfl, rfl, rfl, trivial⟩
    · conv => whnf
      refine br_t rfl ?_
      conv => whnf
      intro c0 W0 hW0 hc0
      conv => whnf
      refine CallN.pure (Eval0_spec (.bin 12 (.lit a) (.lit b)) ⟨12, v0, noText, noText, some ⟨c0, 0, none⟩, 2, 2⟩ _ ⟨ha, hb⟩
        ⟨rfl, by decide, rfl, c0, 0, litX a, litX b, rfl, hc0, ⟨rfl, rfl⟩, ⟨rfl, rfl⟩⟩) fun v U0 _ hU0 hv => ?_
      subst hv
      rw [ev4]
      conv => whnf
      intro d0
      conv => whnf
      repeat (first | (refine br_t rfl ?_; conv => whnf) | (refine br_f rfl ?_; conv => whnf))
      refine ⟨1, _, by decide, ?_, 5, rfl, by decide, rfl⟩
      exact weak_of ⟨⟨rfl, _, rfl⟩, ⟨rfl, _, rfl⟩, ⟨rfl, _, rfl⟩, ⟨rfl, _, rfl⟩, trivial⟩ ⟨rfl, rfl, rfl, trivial⟩
    · conv => whnf
      refine br_t rfl ?_
      conv => whnf
      intro c0 W0 hW0 hc0
      conv => whnf
      refine CallN.pure (Eval0_spec (.bin 13 (.lit a) (.lit b)) ⟨13, v0, noText, noText, some ⟨c0, 0, none⟩, 2, 2⟩ _ ⟨ha, hb⟩
        ⟨rfl, by decide, rfl, c0, 0, litX a, litX b, rfl, hc0, ⟨rfl, rfl⟩, ⟨rfl, rfl⟩⟩) fun v U0 _ hU0 hv => ?_
      subst hv
      rw [ev5]
      conv => whnf
      intro d0
      conv => whnf
      repeat (first | (refine br_t rfl ?_; conv => whnf) | (refine br_f rfl ?_; conv => whnf))
      refine ⟨0, _, by decide, ?_, 6, rfl, by decide, rfl⟩
      exact weak_of ⟨⟨rfl, _, rfl⟩, ⟨rfl, _, rfl⟩, ⟨rfl, _, rfl⟩, ⟨rfl, _, rfl⟩, trivial⟩ ⟨rfl, rfl, rfl, trivial⟩
    · conv => whnf
      refine br_f rfl ?_
      conv => whnf
      refine ⟨⟨_, eqv_run _ _ a b, ?_⟩⟩
      rw [hsame]
      conv => whnf
      repeat (first | (refine br_t rfl ?_; conv => whnf) | (refine br_f rfl ?_; conv => whnf))
      exact ret_pure rfl
  · refine LoopN.mk' (σ := Nat) (fun i => St.of [(2, .own 2 0), (3, .own 3 0), (5, .own 5 0), (6, .v (.int .i64 i))] [(2, .box b1 38 (vcells a)), (3, .box b2 38 (vcells b)), (5, .box b3 57 (arrC 1 i))])
      (fun k i _ => i ≤ 6 ∧ k = 6 - i) 6 0 (weak_of ⟨⟨rfl, _, rfl⟩, ⟨rfl, _, rfl⟩, ⟨rfl, _, rfl⟩, ⟨rfl, _, rfl⟩, trivial⟩ ⟨rfl, rfl, rfl, trivial⟩) ⟨by decide, rfl⟩ fun k i V ⟨hi, hk⟩ => ?_
    subst hk
    have hi : i = 0 ∨ i = 1 ∨ i = 2 ∨ i = 3 ∨ i = 4 ∨ i = 5 ∨ i = 6 := by omega
    rcases hi with rfl | rfl | rfl | rfl | rfl | rfl | rfl
    · conv => whnf
      refine br_t rfl ?_
      conv => whnf
      intro c0 W0 hW0 hc0
      conv => whnf
      refine CallN.pure (Eval0_spec (.bin 8 (.lit a) (.lit b)) ⟨8, v0, noText, noText, some ⟨c0, 0, none⟩, 2, 2⟩ _ ⟨ha, hb⟩
        ⟨rfl, by decide, rfl, c0, 0, litX a, litX b, rfl, hc0, ⟨rfl, rfl⟩, ⟨rfl, rfl⟩⟩) fun v U0 _ hU0 hv => ?_
      subst hv
      rw [ev0]
      conv => whnf
      intro d0
      conv => whnf
      repeat (first | (refine br_t rfl ?_; conv => whnf) | (refine br_f rfl ?_; conv => whnf))
      refine ⟨5, _, by decide, ?_, 1, rfl, by decide, rfl⟩
      exact weak_of ⟨⟨rfl, _, rfl⟩, ⟨rfl, _, rfl⟩, ⟨rfl, _, rfl⟩, ⟨rfl, _, rfl⟩, trivial⟩ ⟨rfl, rfl, rfl, trivial⟩
    · conv => whnf
      refine br_t rfl ?_
      conv => whnf
      intro c0 W0 hW0 hc0
      conv => whnf
      refine CallN.pure (Eval0_spec (.bin 9 (.lit a) (.lit b)) ⟨9, v0, noText, noText, some ⟨c0, 0, none⟩, 2, 2⟩ _ ⟨ha, hb⟩
        ⟨rfl, by decide, rfl, c0, 0, litX a, litX b, rfl, hc0, ⟨rfl, rfl⟩, ⟨rfl, rfl⟩⟩) fun v U0 _ hU0 hv => ?_
      subst hv
      rw [ev1]
      conv => whnf
      intro d0
      conv => whnf
      repeat (first | (refine br_t rfl ?_; conv => whnf) | (refine br_f rfl ?_; conv => whnf))
      refine ⟨4, _, by decide, ?_, 2, rfl, by decide, rfl⟩
      exact weak_of ⟨⟨rfl, _, rfl⟩, ⟨rfl, _, rfl⟩, ⟨rfl, _, rfl⟩, ⟨rfl, _, rfl⟩, trivial⟩ ⟨rfl, rfl, rfl, trivial⟩
    · conv => whnf
      refine br_t rfl ?_
      conv => whnf
      intro c0 W0 hW0 hc0
      conv => whnf
      refine CallN.pure (Eval0_spec (.bin 10 (.lit a) (.lit b)) ⟨10, v0, noText, noText, some ⟨c0, 0, none⟩, 2, 2⟩ _ ⟨ha, hb⟩
        ⟨rfl, by decide, rfl, c0, 0, litX a, litX b, rfl, hc0, ⟨rfl, rfl⟩, ⟨rfl, rfl⟩⟩) fun v U0 _ hU0 hv => ?_
      subst hv
      rw [ev2]
      conv => whnf
      intro d0
      conv => whnf
      repeat (first | (refine br_t rfl ?_; conv => whnf) | (refine br_f rfl ?_; conv => whnf))
      refine ⟨3, _, by decide, ?_, 3, rfl, by decide, rfl⟩
      exact weak_of ⟨⟨rfl, _, rfl⟩, ⟨rfl, _, rfl⟩, ⟨rfl, _, rfl⟩, ⟨rfl, _, rfl⟩, trivial⟩ ⟨rfl, rfl, rfl, trivial⟩
    · conv => whnf
      refine br_t rfl ?_
      conv => whnf
      intro c0 W0 hW0 hc0
      conv => whnf
      refine CallN.pure (Eval0_spec (.bin 11 (.lit a) (.lit b)) ⟨11, v0, noText, noText, some ⟨c0, 0, none⟩, 2, 2⟩ _ ⟨ha, hb⟩
        ⟨rfl, by decide, rfl, c0, 0, litX a, litX b, rfl, hc0, ⟨rfl, rfl⟩, ⟨rfl, rfl⟩⟩) fun v U0 _ hU0 hv => ?_
      subst hv
      rw [ev3]
      conv => whnf
      intro d0
      conv => whnf
      repeat (first | (refine br_t rfl ?_; conv => whnf) | (refine br_f rfl ?_; conv => whnf))
      refine ⟨2, _, by decide, ?_, 4, rfl, by decide, rfl⟩
      exact weak_of ⟨⟨rfl, _, rfl⟩, ⟨rfl, _, rfl⟩, ⟨rfl, _, rfl⟩, ⟨rfl, _, rfl⟩, trivial⟩ ⟨rfl, rfl, rfl, trivial⟩
    · conv => whnf
      refine br_t rfl ?_
      conv => whnf
      intro c0 W0 hW0 hc0
      conv => whnf
      refine CallN.pure (Eval0_spec (.bin 12 (.lit a) (.lit b)) ⟨12, v0, noText, noText, some ⟨c0, 0, none⟩, 2, 2⟩ _ ⟨ha, hb⟩
        ⟨rfl, by decide, rfl, c0, 0, litX a, litX b, rfl, hc0, ⟨rfl, rfl⟩, ⟨rfl, rfl⟩⟩) fun v U0 _ hU0 hv => ?_
      subst hv
      rw [ev4]
      conv => whnf
      intro d0
      conv => whnf
      repeat (first | (refine br_t rfl ?_; conv => whnf) | (refine br_f rfl ?_; conv => whnf))
      refine ⟨1, _, by decide, ?_, 5, rfl, by decide, rfl⟩
      exact weak_of ⟨⟨rfl, _, rfl⟩, ⟨rfl, _, rfl⟩, ⟨rfl, _, rfl⟩, ⟨rfl, _, rfl⟩, trivial⟩ ⟨rfl, rfl, rfl, trivial⟩
    · conv => whnf
      refine br_t rfl ?_
      conv => whnf
      intro c0 W0 hW0 hc0
      conv => whnf
      refine CallN.pure (Eval0_spec (.bin 13 (.lit a) (.lit b)) ⟨13, v0, noText, noText, some ⟨c0, 0, none⟩, 2, 2⟩ _ ⟨ha, hb⟩
        ⟨rfl, by decide, rfl, c0, 0, litX a, litX b, rfl, hc0, ⟨rfl, rfl⟩, ⟨rfl, rfl⟩⟩) fun v U0 _ hU0 hv => ?_
      subst hv
      rw [ev5]
      conv => whnf
      intro d0
      conv => whnf
      repeat (first | (refine br_t rfl ?_; conv => whnf) | (refine br_f rfl ?_; conv => whnf))
      refine ⟨0, _, by decide, ?_, 6, rfl, by decide, rfl⟩
      exact weak_of ⟨⟨rfl, _, rfl⟩, ⟨rfl, _, rfl⟩, ⟨rfl, _, rfl⟩, ⟨rfl, _, rfl⟩, trivial⟩ ⟨rfl, rfl, rfl, trivial⟩
    · conv => whnf
      refine br_f rfl ?_
      conv => whnf
      refine ⟨⟨_, eqv_run _ _ a b, ?_⟩⟩
      rw [hsame]
      conv => whnf
      repeat (first | (refine br_t rfl ?_; conv => whnf) | (refine br_f rfl ?_; conv => whnf))
      exact ret_pure rfl
end Go.Proofs.Ytenpginanhnkbaa
end

section
set_option linter.unusedSimpArgs false
set_option linter.unusedVariables false
namespace Go.Proofs.Ytenpginanhnkbaa
open Go.X
set_option maxRecDepth 100000

/-! ## texts, byte by byte -/
theorem less_at : ∀ (i : Nat) (l m : List UInt8) (x y : UInt8), l.take i = m.take i → l[i]? = some x → m[i]? = some y → x < y → Op.bytesLess l m = true
  | 0, l, m, x, y, _, hx, hy, h => by
    cases l with
    | nil => simp at hx
    | cons a l =>
      cases m with
      | nil => simp at hy
      | cons b m =>
        simp only [List.getElem?_cons_zero, Option.some.injEq] at hx hy
        subst hx; subst hy
        simp [Op.bytesLess, h]
  | i + 1, l, m, x, y, ht, hx, hy, h => by
    cases l with
    | nil => simp at hx
    | cons a l =>
      cases m with
      | nil => simp at hy
      | cons b m =>
        simp only [List.take_succ_cons, List.cons.injEq] at ht
        simp only [List.getElem?_cons_succ] at hx hy
        simp [Op.bytesLess, ht.1, less_at i l m x y ht.2 hx hy h]
theorem more_at : ∀ (i : Nat) (l m : List UInt8) (x y : UInt8), l.take i = m.take i → l[i]? = some x → m[i]? = some y → y < x → Op.bytesLess l m = false ∧ l ≠ m
  | 0, l, m, x, y, _, hx, hy, h => by
    cases l with
    | nil => simp at hx
    | cons a l =>
      cases m with
      | nil => simp at hy
      | cons b m =>
        simp only [List.getElem?_cons_zero, Option.some.injEq] at hx hy
        subst hx; subst hy
        have hne : a ≠ b := fun e => by subst e; exact absurd h (UInt8.lt_irrefl a)
        have hnl : ¬ a < b := fun h2 => absurd (UInt8.lt_trans h h2) (UInt8.lt_irrefl b)
        simp [Op.bytesLess, hne, hnl]
  | i + 1, l, m, x, y, ht, hx, hy, h => by
    cases l with
    | nil => simp at hx
    | cons a l =>
      cases m with
      | nil => simp at hy
      | cons b m =>
        simp only [List.take_succ_cons, List.cons.injEq] at ht
        simp only [List.getElem?_cons_succ] at hx hy
        have ih := more_at i l m x y ht.2 hx hy h
        simp [Op.bytesLess, ht.1, ih.1, ih.2, UInt8.lt_irrefl]
theorem less_front : ∀ (l m : List UInt8), l = m.take l.length → l.length < m.length → Op.bytesLess l m = true
  | [], [], _, h => by simp at h
  | [], b :: m, _, _ => rfl
  | a :: l, [], _, h => by simp at h
  | a :: l, b :: m, ht, h => by
    simp only [List.length_cons, List.take_succ_cons, List.cons.injEq] at ht
    simp [Op.bytesLess, ht.1, less_front l m ht.2 (by simpa using h)]
theorem more_front : ∀ (l m : List UInt8), m = l.take m.length → m.length < l.length → Op.bytesLess l m = false ∧ l ≠ m
  | l, [], _, h => ⟨by cases l <;> rfl, fun e => by subst e; simp at h⟩
  | [], b :: m, _, h => by simp at h
  | a :: l, b :: m, ht, h => by
    simp only [List.length_cons, List.take_succ_cons, List.cons.injEq] at ht
    have ih := more_front l m ht.2 (by simpa using h)
    simp [Op.bytesLess, ht.1, ih.1, ih.2, UInt8.lt_irrefl]
def pl65 : Plans := [(4, [(0, []), (1, []), (2, []), (3, []), (4, []), (5, []), (6, [])]), (6, [(0, []), (1, []), (2, []), (3, []), (4, []), (5, []), (6, [])])]
theorem text_spec (a b : ByteArray) (ha : (a.size : Int) ≤ 9223372036854775807) (V : View) : PSpec 65 [.string a, .string b] V (fun v _ => v = .int .i64 (cmpS a b)) := by
  refine pspec pl65 (args := [.v _, .v _]) Try.func65 (by kernel_rfl) rfl ?_
  conv => whnf
  have ea : a.toList = a.data.toList := ByteArray.toList_eq a
  have eb : b.toList = b.data.toList := ByteArray.toList_eq b
  have la : a.data.toList.length = a.size := by simp
  have lb : b.data.toList.length = b.size := by simp
  refine LoopN.mk' (σ := Int) (fun i => St.of [(0, .v (.string a)), (1, .v (.string b)), (5, .v (.int .i64 i))] [])
    (fun k i _ => 0 ≤ i ∧ i ≤ a.size ∧ i ≤ b.size ∧ a.size - i = k ∧ a.data.toList.take i.toNat = b.data.toList.take i.toNat) a.size 0
    (weak_of ⟨⟨rfl, _, rfl⟩, ⟨rfl, _, rfl⟩, ⟨rfl, _, rfl⟩, trivial⟩ trivial) ⟨by decide, by omega, by omega, by omega, rfl⟩ fun k i V ⟨hi0, hi1, hi2, hk, ht⟩ => ?_
  have leave : ¬ (i < (a.size : Int) ∧ i < (b.size : Int)) → (if a.size < b.size then (-1 : Int) else if b.size < a.size then 1 else 0) = cmpS a b := fun hn => by
    unfold cmpS
    rw [ea, eb]
    rcases Nat.lt_trichotomy a.size b.size with h | h | h
    · have hi : i.toNat = a.size := by omega
      rw [hi] at ht
      have : a.data.toList = b.data.toList.take a.data.toList.length := by
        rw [la, ← ht, ← la, List.take_length]
      rw [if_pos h, if_pos (less_front _ _ this (by omega))]
    · have hi : i.toNat = a.size := by omega
      rw [hi] at ht
      have e : a.data.toList = b.data.toList := by
        have h1 : a.data.toList.take a.size = a.data.toList := by rw [← la, List.take_length]
        have h2 : b.data.toList.take a.size = b.data.toList := by rw [h, ← lb, List.take_length]
        rw [h1, h2] at ht; exact ht
      rw [if_neg (by omega), if_neg (by omega), e, less_self]
      simp
    · have hi : i.toNat = b.size := by omega
      rw [hi] at ht
      have : b.data.toList = a.data.toList.take b.data.toList.length := by
        rw [lb, ht, ← lb, List.take_length]
      have h2 := more_front _ _ this (by omega)
      rw [if_neg (by omega), if_pos h, h2.1, if_neg (by simp), if_neg h2.2]
  conv => whnf
  apply br <;> intro h1 <;> conv => whnf
  · have h1 : i < (a.size : Int) := by simpa using h1
    apply br <;> intro h2 <;> conv => whnf
    · have h2 : i < (b.size : Int) := by simpa using h2
      obtain ⟨x, hx, rx⟩ := str_index a i hi0 h1
      obtain ⟨y, hy, ry⟩ := str_index b i hi0 h2
      refine ⟨⟨_, rx, ?_⟩⟩
      conv => whnf
      refine ⟨⟨_, ry, ?_⟩⟩
      conv => whnf
      apply br <;> intro h3 <;> conv => whnf
      · have h3 : x < y := by simpa [UInt8.lt_iff_toNat_lt] using h3
        refine ret_pure ?_
        have := less_at _ _ _ x y ht hx hy h3
        simp [packVals, cmpS, ea, eb, this]
      refine ⟨⟨_, rx, ?_⟩⟩
      conv => whnf
      refine ⟨⟨_, ry, ?_⟩⟩
      conv => whnf
      apply br <;> intro h4 <;> conv => whnf
      · have h4 : y < x := by simpa [UInt8.lt_iff_toNat_lt] using h4
        refine ret_pure ?_
        have := more_at _ _ _ x y ht hx hy h4
        simp [packVals, cmpS, ea, eb, this.1, this.2]
      have hxy : x = y := by
        have h3 : ¬ x < y := by simpa [UInt8.lt_iff_toNat_lt] using h3
        have h4 : ¬ y < x := by simpa [UInt8.lt_iff_toNat_lt] using h4
        exact UInt8.le_antisymm (UInt8.not_lt.1 h4) (UInt8.not_lt.1 h3)
      have hw : IntKind.i64.wrap (i + 1) = i + 1 := by rw [wrapE]; omega
      have hn : (i + 1).toNat = i.toNat + 1 := by omega
      refine ⟨k - 1, _, by omega, ?_, IntKind.i64.wrap (i + 1), rfl, by rw [hw]; omega, by rw [hw]; omega, by rw [hw]; omega, by rw [hw]; omega, ?_⟩
      · exact weak_of ⟨⟨rfl, _, rfl⟩, ⟨rfl, _, rfl⟩, ⟨rfl, _, rfl⟩, trivial⟩ trivial
      · rw [hw, hn, List.take_add_one, List.take_add_one, ht, hx, hy, hxy]
    · have h2 : ¬ i < (b.size : Int) := by simpa using h2
      rw [← leave (by omega)]
      have h0 : ¬ a.size < b.size := by omega
      have h5 : b.size < a.size := by omega
      refine br_f (by simpa using h0) ?_
      conv => whnf
      refine br_t (by simpa using h5) ?_
      conv => whnf
      refine ret_pure ?_
      simp [packVals, h0, h5]
  · have h1 : ¬ i < (a.size : Int) := by simpa using h1
    rw [← leave (by omega)]
    apply br <;> intro h2 <;> conv => whnf
    · have h2 : a.size < b.size := by simpa using h2
      refine ret_pure ?_
      simp [packVals, h2]
    · have h2 : ¬ a.size < b.size := by simpa using h2
      have h5 : ¬ b.size < a.size := by omega
      refine br_f (by simpa using h5) ?_
      conv => whnf
      refine ret_pure ?_
      simp [packVals, h2, h5]
/-- how the document holds two values together -/
def cmpR (a b : Val) : Int := if a.k < b.k then -1 else if b.k < a.k then 1 else if a.k = 1 then cmpI a.n b.n else cmpS a.t b.t
theorem rcmpv_spec (a b : Val) (ha : (a.t.size : Int) ≤ 9223372036854775807) (V : View) : PSpec 33 [vv a, vv b] V (fun v _ => v = .int .i64 (cmpR a b)) := by
  refine pspec [] (args := [.v _, .v _]) Try.func33 (by kernel_rfl) rfl ?_
  conv => whnf
  intro b1
  conv => whnf
  intro b2
  conv => whnf
  apply br <;> intro h1 <;> conv => whnf
  · have h1 : a.k < b.k := by simpa using h1
    refine ret_pure ?_
    simp [packVals, cmpR, h1]
  have h1 : ¬ a.k < b.k := by simpa using h1
  apply br <;> intro h2 <;> conv => whnf
  · have h2 : b.k < a.k := by simpa using h2
    refine ret_pure ?_
    simp [packVals, cmpR, h1, h2]
  have h2 : ¬ b.k < a.k := by simpa using h2
  unfold cmpR
  rw [if_neg h1, if_neg h2]
  apply br <;> intro h3 <;> conv => whnf
  · have h3' : a.k = 1 := by simpa using h3
    rw [if_pos h3']
    apply br <;> intro h4 <;> conv => whnf
    · have h4 : a.n < b.n := by simpa using h4
      refine ret_pure ?_
      simp [packVals, cmpI, h4]
    have h4 : ¬ a.n < b.n := by simpa using h4
    refine br_t h3 ?_
    conv => whnf
    apply br <;> intro h5 <;> conv => whnf
    · have h5 : b.n < a.n := by simpa using h5
      refine ret_pure ?_
      simp [packVals, cmpI, h4, h5]
    have h5 : ¬ b.n < a.n := by simpa using h5
    refine br_t h3 ?_
    conv => whnf
    refine ret_pure ?_
    simp [packVals, cmpI, h4, h5]
  · have h3' : ¬ a.k = 1 := by simpa using h3
    rw [if_neg h3']
    refine br_f h3 ?_
    conv => whnf
    refine br_f h3 ?_
    conv => whnf
    refine CallN.pure (text_spec a.t b.t ha _) fun v V1 _ hV1 hv => ?_
    subst hv
    conv => whnf
    exact ret_pure rfl
end Go.Proofs.Ytenpginanhnkbaa
end
