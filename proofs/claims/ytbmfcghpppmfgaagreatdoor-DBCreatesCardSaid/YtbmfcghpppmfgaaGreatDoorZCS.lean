/- One part of a proof: an evaluator of the model, shown right, and contracts that it yields. No condition beyond those that each theorem names. -/
import Derived.Test.YtbmfcghpppmfgaaGreatDoorZCR0
import Derived.Test.YtbmfcghpppmfgaaGreatDoorZCR1
import Derived.Test.YtbmfcghpppmfgaaGreatDoorZCR2
import Derived.Test.YtbmfcghpppmfgaaGreatDoorZCR3
import Derived.Test.YtbmfcghpppmfgaaGreatDoorZCR4
import Derived.Test.YtbmfcghpppmfgaaGreatDoorZCR5
import Derived.Test.YtbmfcghpppmfgaaGreatDoorZCR6
import Derived.Test.YtbmfcghpppmfgaaGreatDoorZCR7
import Derived.Test.YtbmfcghpppmfgaaGreatDoorZCR8
import Derived.Test.YtbmfcghpppmfgaaGreatDoorZCR9
import Derived.Test.YtbmfcghpppmfgaaGreatDoorZTE
section
set_option linter.unusedSimpArgs false
set_option linter.unusedVariables false
set_option linter.unusedSectionVars false
set_option linter.deprecated false
namespace Go.Z
open Go.X Go.RowKit Go.Proofs Go.Proofs.LB
open Go.Shelf
attribute [local go_sem] Oper.semAt_some
set_option linter.unusedVariables false
set_option linter.unusedSectionVars false
set_option maxRecDepth 1000000
theorem creates_runs : ∀ (m : Nat), m < 10 → ∀ (o : Bool), partsC m o = true
 | 0, _, false => creates_0_f
 | 0, _, true => creates_0_t
 | 1, _, false => creates_1_f
 | 1, _, true => creates_1_t
 | 2, _, false => creates_2_f
 | 2, _, true => creates_2_t
 | 3, _, false => creates_3_f
 | 3, _, true => creates_3_t
 | 4, _, false => creates_4_f
 | 4, _, true => creates_4_t
 | 5, _, false => creates_5_f
 | 5, _, true => creates_5_t
 | 6, _, false => creates_6_f
 | 6, _, true => creates_6_t
 | 7, _, false => creates_7_f
 | 7, _, true => creates_7_t
 | 8, _, false => creates_8_f
 | 8, _, true => creates_8_t
 | 9, _, false => creates_9_f
 | 9, _, true => creates_9_t
 | m + 10, h, _ => absurd h (by omega)
theorem prog3_ok : codeOkZ Tryz.f3.ntmps prog3 = true := by kernel_rfl
theorem prog3_st : stB (takeC 6 prog3) = true := by kernel_rfl
theorem rest3_ok : codeOkZ Tryz.f3.ntmps (dropC 6 prog3) = true := by kernel_rfl
theorem rest3_st : stB (dropC 6 prog3) = true := by kernel_rfl
theorem f3_n : Tryz.f3.ntmps ≤ 1000000 := by decide
theorem body3 : Tryz.f3.body = some prog3 := by kernel_rfl
theorem allSuf_at {m : Nat} {o : Bool} : ∀ {n r : Nat}, allSuf m o n = true → r < n → sufQ m o r = true
 | 0, r, _, h => absurd h (by omega)
 | n + 1, r, h, hr => by
  simp only [allSuf, Bool.and_eq_true] at h
  by_cases e : r = n
  ·subst e; exact h.1
  ·exact allSuf_at h.2 (by omega)
theorem num_sym {a : List Int} {n q : Int} (hn : 0 ≤ n ∧ n < 256) : sigOf2 a n q 784 16 = .int .u8 n := by
 show sval (Tof a [] 784) (Kof2 n q 784) (16 + 0) = _
 rw [sval2 _ _ 0 (by omega), show Kof2 n q 784 = n from rfl]
 obtain ⟨k, rfl⟩ : ∃ k : Nat, n = (k : Int) := ⟨n.toNat, by omega⟩
 have hk : k < 256 := by omega
 have e1 : u64N (k : Int) = k := by unfold u64N; omega
 have e2 : xkN (k : Int) / 256 ^ 0 % 256 = k := by
  unfold xkN
  rw [e1, Nat.pow_zero, Nat.div_one]
  have := Nat.xor_mod_two_pow (a := k) (b := 9223372036854775808) (n := 8)
  rw [show (256 : Nat) = 2 ^ 8 from rfl, this, Nat.mod_eq_of_lt (show k < 2 ^ 8 from hk)]
  simp
 rw [e2]
theorem creates_of {W : World} {m : Nat} {u : Value} {a : List Int} (ha : ArgOf W m u a) (ta : Tags a) (o : Bool) {n : Int} (hn : 0 ≤ n ∧ n < 256) :
  Calls Tryz.prog 3 #[u, .bool o, .int .u8 n] W fun e W' => e = .returned (.bool true) ∧ KeptZ W W' := by
 have em := ha.len'.1
 have hla := ta.len
 obtain ⟨q, r, hr, hq, hnq⟩ : ∃ q r : Nat, r < 26 ∧ q < 86 ∧ n = ((26 * q + r : Nat) : Int) := ⟨n.toNat / 26, n.toNat % 26, by omega, by omega, by omega⟩
 haveI := sigOf2_ok (k0 := n) (k1 := (q : Int)) ta (by omega) (by omega)
 have rA : RepTs (sigOf2 a n (q : Int)) (cellsA m) a := by unfold cellsA; rw [em]; exact repA2 ta
 obtain ⟨ρ, hf, r1, hw⟩ := start1 ha rA
 have h0 := num_sym (a := a) (q := (q : Int)) hn
 have h1 : sigOf2 a n (q : Int) 785 (832 + r) = .int .u8 n := by
  show sval (Tof a [] 785) (Kof2 n (q : Int) 785) (832 + r) = _
  rw [sval6 _ _ (by omega), show Kof2 n (q : Int) 785 = (q : Int) from rfl, Int.toNat_natCast, Nat.mod_eq_of_lt hq, show (832 + r) / 32 % 32 = 26 by omega, show (832 + r) % 32 = r by omega, hnq]
 have r3 : Rep (sigOf2 a n (q : Int)) ρ (.complex .f64 784 16) (.int .u8 n) := by
  have := Rep.sym (σ := sigOf2 a n (q : Int)) (ρ := ρ) (i := 784) (j := 16) (by rw [h0]; rfl)
  rwa [h0] at this
 have hruns := creates_runs m (by omega) o
 unfold partsC at hruns
 rw [Bool.and_eq_true] at hruns
 obtain ⟨hpre, hsuf⟩ := hruns
 have hG : Goes (envT pcdT) (sigOf2 a n (q : Int)) Tryz.f3 (.bool true) prog3 ⟨initT [(0, labV 0 m), (1, .bool o), (2, .complex .f64 784 16)] .nil, heapA (cellsA m), 2⟩ := by
  refine Goes.cut (E := envT pcdT) (envT_ok pcdT_ok) stT (d := 80) (m := 6) (cp := cpC m o) f3_n prog3_ok prog3_st hpre ?_
  refine Goes.swap (k := 2) (x := .complex .f64 784 16) (y := .complex .f64 785 (832 + r)) (e2 := envC m o r) (fun ρ' v hv => ?_) (fun p hp => ?_) (fun p hp => ?_) (by simp [cpC]) (Goes.last (E := envT pcdT) (envT_ok pcdT_ok) stT (d := 80) rfl f3_n rest3_ok rest3_st (allSuf_at hsuf hr))
  ·have e := hv.sy_inv
   rw [e, h0, ← h1]
   exact Rep.sym (by rw [h1]; rfl)
  ·simp only [envC, List.mem_cons, List.mem_nil_iff, or_false] at hp
   simp only [cpC, List.mem_cons, List.mem_nil_iff, or_false]
   rcases hp with rfl | rfl | rfl | rfl | rfl <;> simp
  ·simp only [cpC, List.mem_cons, List.mem_nil_iff, or_false] at hp ⊢
   rcases hp with rfl | rfl | rfl | rfl | rfl <;> simp [initT, Tr.get_ins_all]
 exact Goes.calls (E := envT pcdT) (σ := sigOf2 a n (q : Int)) (args := [labV 0 m, .bool o, .complex .f64 784 16]) Tryz.func3 body3 (fun p hp => by
  simp only [List.mem_cons, List.mem_nil_iff, or_false] at hp
  rcases hp with rfl | rfl | rfl <;> rfl) (show 3 ≤ Tryz.f3.ntmps by decide) hG hf (.cons r1 (.cons (.plain rfl) (.cons r3 .nil))) hw
set_option maxRecDepth 100000 in
set_option maxHeartbeats 2000000 in
theorem creates_not (a : Lab) (o : Bool) (n : Int) (W : World) (ha : a.at (viewOf W)) (hno : ¬ (Rising a.l ∧ a.l.length ≤ 8)) :
  CallsIn Fence.wide 3 Tryz.prog 3 #[.slice a.base a.l.length a.cap, .bool o, .int .u8 n] W fun e W' => e = .returned (.bool true) ∧ Below W.heap.size W W' := by
 have h7 : Fence.wide.fn 7 := trivial
 have h8 : Fence.wide.fn 8 := trivial
 refine callsIn_of_wp Tryz.func3 rfl trivial ?_ rfl
 simp only [Tryz.ntmps3, List.size_toArray, List.length_cons, List.length_nil, Nat.reduceAdd, Nat.reduceSub, Array.replicate_succ, Array.replicate_zero, List.push_toArray, List.append_toArray, List.nil_append, List.cons_append]
 gi_wp2_with (first
  | (gi_at_call 7; refine (begun_in _ _).mono ?_; rintro e w1 ⟨rfl, hB1⟩)
  | (gi_at_call 8; refine (may_no _ a _ (at_below ha hB1) hno).mono ?_; rintro e w2 ⟨rfl, hB2⟩)
  | gi_in)
 go_ret
 exact ⟨rfl, hB1.trans (hB2.mono hB1.size)⟩
theorem creates_no (a : Lab) (o : Bool) (n : Int) (W : World) (ha : a.at (viewOf W)) (hno : ¬ (Rising a.l ∧ a.l.length ≤ 8)) :
  Calls Tryz.prog 3 #[a.slice, .bool o, .int .u8 n] W fun e W' => e = .returned (.bool true) ∧ Below W.heap.size W W' :=
 callsIn_wide.1 (creates_not a o n W ha hno)
end Go.Z
end
