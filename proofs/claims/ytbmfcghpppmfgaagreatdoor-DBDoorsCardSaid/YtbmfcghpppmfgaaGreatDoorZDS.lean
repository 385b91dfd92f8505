/- One part of a proof: an evaluator of the model, shown right, and contracts that it yields. No condition beyond those that each theorem names. -/
import Derived.Test.YtbmfcghpppmfgaaGreatDoorZDLA
import Derived.Test.YtbmfcghpppmfgaaGreatDoorZDMA
import Derived.Test.YtbmfcghpppmfgaaGreatDoorZDMB
import Derived.Test.YtbmfcghpppmfgaaGreatDoorZDLB
import Derived.Test.YtbmfcghpppmfgaaGreatDoorZDMC
import Derived.Test.YtbmfcghpppmfgaaGreatDoorZDLC
import Derived.Test.YtbmfcghpppmfgaaGreatDoorZDMD
import Derived.Test.YtbmfcghpppmfgaaGreatDoorZDLD
import Derived.Test.YtbmfcghpppmfgaaGreatDoorZDME
import Derived.Test.YtbmfcghpppmfgaaGreatDoorZDLE
import Derived.Test.YtbmfcghpppmfgaaGreatDoorZTC
section
set_option linter.unusedSimpArgs false
set_option linter.unusedVariables false
set_option linter.unusedSectionVars false
set_option linter.deprecated false
namespace Go.Z
open Go.X Go.RowKit Go.Proofs Go.Proofs.LB
set_option linter.unusedVariables false
set_option linter.unusedSectionVars false
set_option maxRecDepth 1000000
noncomputable section
theorem prog4_ok : codeOkZ Tryz.f4.ntmps prog4 = true := by kernel_rfl
theorem prog4_st : stB (takeC 5 prog4) = true := by kernel_rfl
theorem r4_ok : codeOkZ Tryz.f4.ntmps r4 = true := by kernel_rfl
theorem r4_st : stB r4 = true := by kernel_rfl
theorem x4_ok : codeOkZ Tryz.f4.ntmps x4 = true := by kernel_rfl
theorem x4_st : stB x4 = true := by kernel_rfl
theorem s4_ok : codeOkZ Tryz.f4.ntmps s4 = true := by kernel_rfl
theorem s4_st : stB s4 = true := by kernel_rfl
theorem f4_n : Tryz.f4.ntmps ≤ 1000000 := by decide
theorem drop4 : dropC 5 prog4 = (r4.seq (.block 0 (.loop x4))).seq s4 := by kernel_rfl
theorem body4 : Tryz.f4.body = some prog4 := by kernel_rfl
section
variable {σ : Nat → Nat → Value} [SigOk σ]
abbrev Loop4 (σ : Nat → Nat → Value) (k i : Nat) : Prop := LoopGoes (envT pdT) σ Tryz.f4 (.bool true) 0 x4 s4 (cpL k i).st
theorem round4 {k i : Nat} (h : roundQ k i = true) (hG : Loop4 σ k (i + 1)) : Loop4 σ k i :=
 LoopGoes.round (E := envT pdT) (envT_ok pdT_ok) stT (d := 80) (cp := cpL k (i + 1)) f4_n x4_ok x4_st h hG
theorem rounds4 {k : Nat} : ∀ {n i : Nat}, roundsQ k i n = true → Loop4 σ k (i + n) → Loop4 σ k i
 | 0, i, _, hG => hG
 | n + 1, i, h, hG => by
  simp only [roundsQ, Bool.and_eq_true] at h
  exact round4 h.1 (rounds4 h.2 (by rw [show i + 1 + n = i + (n + 1) by omega]; exact hG))
theorem last4 {k : Nat} (h : leaveQ k = true) (hr : restQ k = true) : Loop4 σ k k :=
 LoopGoes.last (E := envT pdT) (envT_ok pdT_ok) (d := 80) (cp := cpR k) f4_n x4_ok h (Goes.last (E := envT pdT) (envT_ok pdT_ok) stT (d := 80) rfl f4_n s4_ok s4_st hr)
theorem start4 {k : Nat} (h : newQ k = true) (he : enterQ k = true) (hL : Loop4 σ k 0) : Goes (envT pdT) σ Tryz.f4 (.bool true) prog4 ⟨initT [(0, .complex .f64 784 (320 + k))] .nil, .nil, 0⟩ := by
 refine Goes.cut (E := envT pdT) (envT_ok pdT_ok) stT (d := 80) (m := 5) (cp := cpA k) f4_n prog4_ok prog4_st h ?_
 rw [drop4]
 exact Goes.enter (E := envT pdT) (envT_ok pdT_ok) stT (d := 80) (cp := cpL k 0) f4_n r4_ok r4_st he hL
theorem goes4_0 : Goes (envT pdT) σ Tryz.f4 (.bool true) prog4 ⟨initT [(0, .complex .f64 784 320)] .nil, .nil, 0⟩ := by
 have hb := begin_0
 rw [Bool.and_eq_true, Bool.and_eq_true] at hb
 exact start4 (k := 0) hb.1.1 hb.1.2 (last4 (k := 0) hb.2 rest_0)
theorem goes4_1 : Goes (envT pdT) σ Tryz.f4 (.bool true) prog4 ⟨initT [(0, .complex .f64 784 321)] .nil, .nil, 0⟩ := by
 have hb := begin_1
 rw [Bool.and_eq_true, Bool.and_eq_true] at hb
 exact start4 (k := 1) hb.1.1 hb.1.2 (rounds4 (k := 1) (n := 1) (i := 0) rounds0_1 (last4 (k := 1) hb.2 rest_1))
theorem goes4_2 : Goes (envT pdT) σ Tryz.f4 (.bool true) prog4 ⟨initT [(0, .complex .f64 784 322)] .nil, .nil, 0⟩ := by
 have hb := begin_2
 rw [Bool.and_eq_true, Bool.and_eq_true] at hb
 exact start4 (k := 2) hb.1.1 hb.1.2 (rounds4 (k := 2) (n := 2) (i := 0) rounds0_2 (last4 (k := 2) hb.2 rest_2))
theorem goes4_3 : Goes (envT pdT) σ Tryz.f4 (.bool true) prog4 ⟨initT [(0, .complex .f64 784 323)] .nil, .nil, 0⟩ := by
 have hb := begin_3
 rw [Bool.and_eq_true, Bool.and_eq_true] at hb
 exact start4 (k := 3) hb.1.1 hb.1.2 (rounds4 (k := 3) (n := 3) (i := 0) rounds0_3 (last4 (k := 3) hb.2 rest_3))
theorem goes4_4 : Goes (envT pdT) σ Tryz.f4 (.bool true) prog4 ⟨initT [(0, .complex .f64 784 324)] .nil, .nil, 0⟩ := by
 have hb := begin_4
 rw [Bool.and_eq_true, Bool.and_eq_true] at hb
 exact start4 (k := 4) hb.1.1 hb.1.2 (rounds4 (k := 4) (n := 3) (i := 0) rounds0_4 (rounds4 (k := 4) (n := 1) (i := 3) rounds3_4 (last4 (k := 4) hb.2 rest_4)))
theorem goes4_5 : Goes (envT pdT) σ Tryz.f4 (.bool true) prog4 ⟨initT [(0, .complex .f64 784 325)] .nil, .nil, 0⟩ := by
 have hb := begin_5
 rw [Bool.and_eq_true, Bool.and_eq_true] at hb
 exact start4 (k := 5) hb.1.1 hb.1.2 (rounds4 (k := 5) (n := 3) (i := 0) rounds0_5 (rounds4 (k := 5) (n := 2) (i := 3) rounds3_5 (last4 (k := 5) hb.2 rest_5)))
theorem goes4_6 : Goes (envT pdT) σ Tryz.f4 (.bool true) prog4 ⟨initT [(0, .complex .f64 784 326)] .nil, .nil, 0⟩ := by
 have hb := begin_6
 rw [Bool.and_eq_true, Bool.and_eq_true] at hb
 exact start4 (k := 6) hb.1.1 hb.1.2 (rounds4 (k := 6) (n := 3) (i := 0) rounds0_6 (rounds4 (k := 6) (n := 3) (i := 3) rounds3_6 (last4 (k := 6) hb.2 rest_6)))
theorem goes4_7 : Goes (envT pdT) σ Tryz.f4 (.bool true) prog4 ⟨initT [(0, .complex .f64 784 327)] .nil, .nil, 0⟩ := by
 have hb := begin_7
 rw [Bool.and_eq_true, Bool.and_eq_true] at hb
 exact start4 (k := 7) hb.1.1 hb.1.2 (rounds4 (k := 7) (n := 3) (i := 0) rounds0_7 (rounds4 (k := 7) (n := 3) (i := 3) rounds3_7 (rounds4 (k := 7) (n := 1) (i := 6) rounds6_7 (last4 (k := 7) hb.2 rest_7))))
theorem goes4_8 : Goes (envT pdT) σ Tryz.f4 (.bool true) prog4 ⟨initT [(0, .complex .f64 784 328)] .nil, .nil, 0⟩ := by
 have hb := begin_8
 rw [Bool.and_eq_true, Bool.and_eq_true] at hb
 exact start4 (k := 8) hb.1.1 hb.1.2 (rounds4 (k := 8) (n := 3) (i := 0) rounds0_8 (rounds4 (k := 8) (n := 3) (i := 3) rounds3_8 (rounds4 (k := 8) (n := 2) (i := 6) rounds6_8 (last4 (k := 8) hb.2 rest_8))))
theorem goes4_9 : Goes (envT pdT) σ Tryz.f4 (.bool true) prog4 ⟨initT [(0, .complex .f64 784 329)] .nil, .nil, 0⟩ := by
 have hb := begin_9
 rw [Bool.and_eq_true, Bool.and_eq_true] at hb
 exact start4 (k := 9) hb.1.1 hb.1.2 (rounds4 (k := 9) (n := 3) (i := 0) rounds0_9 (rounds4 (k := 9) (n := 3) (i := 3) rounds3_9 (rounds4 (k := 9) (n := 3) (i := 6) rounds6_9 (last4 (k := 9) hb.2 rest_9))))
theorem goes4 : ∀ (k : Nat), k < 10 → Goes (envT pdT) σ Tryz.f4 (.bool true) prog4 ⟨initT [(0, .complex .f64 784 (320 + k))] .nil, .nil, 0⟩
 | 0, _ => goes4_0
 | 1, _ => goes4_1
 | 2, _ => goes4_2
 | 3, _ => goes4_3
 | 4, _ => goes4_4
 | 5, _ => goes4_5
 | 6, _ => goes4_6
 | 7, _ => goes4_7
 | 8, _ => goes4_8
 | 9, _ => goes4_9
 | k + 10, h => absurd h (by omega)
end
theorem doors_of (W : World) {n m : Int} (hn : 0 ≤ n ∧ n < 256) (hm : 0 ≤ m ∧ m < 256) :
  Calls Tryz.prog 4 #[.int .u8 n, .int .u8 m] W fun e W' => e = .returned (.bool true) ∧ KeptZ W W' := by
 obtain ⟨q, r, hr, hq, rfl⟩ : ∃ q r : Nat, r < 10 ∧ q < 86 ∧ n = ((10 * q + r : Nat) : Int) := ⟨n.toNat / 10, n.toNat % 10, by omega, by omega, by omega⟩
 haveI := sigOf_ok (k := (q : Int)) tags_nil tags_nil (by omega)
 have hs : sigOf [] [] (q : Int) 784 (320 + r) = .int .u8 ((10 * q + r : Nat) : Int) := by
  show sval (Tof [] [] 784) (Kof (q : Int) 784) (320 + r) = _
  rw [sval6 _ _ (by omega), show Kof (q : Int) 784 = (q : Int) from rfl, Int.toNat_natCast, Nat.mod_eq_of_lt hq, show (320 + r) / 32 % 32 = 10 by omega, show (320 + r) % 32 = r by omega]
 have r3 : Rep (sigOf [] [] (q : Int)) (fun _ => none) (.complex .f64 784 (320 + r)) (.int .u8 ((10 * q + r : Nat) : Int)) := by
  have := Rep.sym (σ := sigOf [] [] (q : Int)) (ρ := fun _ => none) (i := 784) (j := 320 + r) (by rw [hs]; rfl)
  rwa [hs] at this
 exact Goes.calls (E := envT pdT) (σ := sigOf [] [] (q : Int)) (args := [.complex .f64 784 (320 + r), .int .u8 m]) Tryz.func4 body4 (fun p hp => by obtain rfl := List.mem_singleton.1 hp; rfl) (show 2 ≤ Tryz.f4.ntmps by decide) (goes4 r hr) (ρ := fun _ => none) (fun _ _ h => by cases h) (.cons r3 (.cons (.plain rfl) .nil)) (wi_start _ W)
end
end Go.Z
end
