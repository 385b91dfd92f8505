/- One part of a proof: an evaluator of the model, shown right, and contracts that it yields. No condition beyond those that each theorem names. -/
import Derived.Test.YtnhllgedoimhkaaGreatDoorSA
import Derived.Test.YtnhllgedoimhkaaGreatDoorXY
import Derived.Lib.Strings
set_option linter.unusedSimpArgs false
set_option linter.unusedVariables false
set_option linter.unusedSectionVars false
set_option linter.deprecated false
section
namespace Go.Proofs.LB
open Go.X
set_option maxRecDepth 100000
def BytesV (l : List UInt8) (v : Value) (V : View) : Prop := ∃ b c, v = .slice b l.length c ∧ V.cells (.slice b l.length c) (u8L l) ∧ l.length ≤ c
theorem one_u8L : ∀ l : List UInt8, allOne (u8L l) = true
 | [] => rfl
 | x :: l => by show (true && allOne (u8L l)) = true; rw [one_u8L l]; rfl
theorem wrapM (n : Int) (h : 0 ≤ n ∧ n < 8) : IntKind.u8.wrap (IntKind.i64.wrap (n * 8)) = ((UInt8.ofNat (n.toNat * 8)).toNat : Int) := by
 rw [ofNat_toNat (by omega), wrapE, IntKind.wrap_u8]; omega
theorem wrapM5 (n : Int) (h : 0 ≤ n ∧ n < 8) : IntKind.u8.wrap (IntKind.i64.wrap (IntKind.i64.wrap (n * 8) + 5)) = ((UInt8.ofNat (n.toNat * 8 + 5)).toNat : Int) := by
 rw [ofNat_toNat (by omega), wrapE, wrapE, IntKind.wrap_u8]; omega
theorem wrapL (n : Nat) (h : n ≤ 255) : IntKind.u8.wrap (n : Int) = ((UInt8.ofNat n).toNat : Int) := by
 rw [ofNat_toNat (by omega), IntKind.wrap_u8]; omega
theorem text_nil (t : ByteArray) : (t.toList == ({ data := #[] } : ByteArray).toList) = true ↔ t.size = 0 := by
 rw [Lib.toList_data, Lib.toList_data, beq_iff_eq]
 constructor
 ·intro h
  have := congrArg List.length h
  rw [Array.length_toList] at this
  exact this
 ·intro h
  exact List.eq_nil_of_length_eq_zero (by rw [Array.length_toList]; exact h)
set_option maxHeartbeats 1000000 in
theorem octets_spec (x : Val) (V : View) : PSpec 30 [.agg #[.int .i64 x.k, .int .i64 x.n, .string x.t]] V (fun v V' => BytesV (octS x) v V') := by
 obtain ⟨k, n, t⟩ := x
 show PSpec _ [.agg #[.int .i64 k, .int .i64 n, .string t]] V _
 refine does_of_zfun [] mixed (args := [.v _]) (ms := []) Tryz.func30 (by kernel_rfl) rfl ?_; conv => whnf
 repeat' ((first | refine br_t rfl ?_ | refine br_f rfl ?_ | refine IdxN.lit rfl rfl ?_ | intro _); conv => whnf)
 apply br <;> intro h3 <;> conv => whnf
 ·have h3 : n < 0 := of_decide_eq_true h3
  have ho : octS ⟨k, n, t⟩ = [] := by unfold octS; rw [if_pos (.inl h3)]
  repeat' ((first | refine br_t rfl ?_ | refine br_f rfl ?_ | refine IdxN.lit rfl rfl ?_ | intro _); conv => whnf)
  exact ret_pure (by rw [ho]; exact ⟨none, 0, rfl, rfl, Nat.le_refl _⟩)
 have h3 : ¬ n < 0 := of_decide_eq_false h3
 apply br <;> intro h4 <;> conv => whnf
 ·have h4 : 8 ≤ n := of_decide_eq_true h4
  have ho : octS ⟨k, n, t⟩ = [] := by unfold octS; rw [if_pos (.inr h4)]
  repeat' ((first | refine br_t rfl ?_ | refine br_f rfl ?_ | refine IdxN.lit rfl rfl ?_ | intro _); conv => whnf)
  exact ret_pure (by rw [ho]; exact ⟨none, 0, rfl, rfl, Nat.le_refl _⟩)
 have h4 : ¬ 8 ≤ n := of_decide_eq_false h4
 repeat' ((first | refine br_t rfl ?_ | refine br_f rfl ?_ | refine IdxN.lit rfl rfl ?_ | intro _); conv => whnf)
 have hn : 0 ≤ n ∧ n < 8 := by omega
 have hneg : ¬ (n < 0 ∨ 8 ≤ n) := by omega
 apply br <;> intro h5 <;> conv => whnf
 ·have h5 : k = 2 := by simpa using h5
  subst h5
  apply br <;> intro h6 <;> conv => whnf
  ·have h6 : t.size = 0 := (text_nil t).1 h6
   have ho : octS ⟨2, n, t⟩ = [UInt8.ofNat (n.toNat * 8)] := by
    unfold octS
    rw [if_neg hneg, if_pos ⟨rfl, h6⟩]
   repeat' ((first | refine br_t rfl ?_ | refine br_f rfl ?_ | refine IdxN.lit rfl rfl ?_ | intro _); conv => whnf)
   rename_i b5 V2 hV2 h2
   rw [wrapM n hn] at h2
   exact ret_pure (by rw [ho]; exact ⟨some ⟨b5, 0, none⟩, 1, rfl, h2, Nat.le_refl _⟩)
  ·have h6 : ¬ t.size = 0 := fun hh => by rw [(text_nil t).2 hh] at h6; cases h6
   have ho : octS ⟨2, n, t⟩ = [] := by
    unfold octS
    rw [if_neg hneg, if_neg (by rintro ⟨_, h1⟩; exact h6 h1), if_neg (by rintro ⟨h1, _⟩; cases h1)]
   repeat' ((first | refine br_t rfl ?_ | refine br_f rfl ?_ | refine IdxN.lit rfl rfl ?_ | intro _); conv => whnf)
   exact ret_pure (by rw [ho]; exact ⟨none, 0, rfl, rfl, Nat.le_refl _⟩)
 ·have h5 : ¬ k = 2 := by simpa using h5
  repeat' ((first | refine br_t rfl ?_ | refine br_f rfl ?_ | refine IdxN.lit rfl rfl ?_ | intro _); conv => whnf)
  apply br <;> intro h7 <;> conv => whnf
  ·have h7 : k = 1 := by simpa using h7
   subst h7
   apply br <;> intro h8 <;> conv => whnf
   ·have h8 : t.size ≤ 255 := by have := of_decide_eq_true h8; omega
    have ho : octS ⟨1, n, t⟩ = UInt8.ofNat (n.toNat * 8 + 5) :: UInt8.ofNat t.size :: t.data.toList := by
     unfold octS
     rw [if_neg hneg, if_neg (by rintro ⟨h1, _⟩; cases h1), if_pos ⟨rfl, h8⟩]
    have hcs : u8L (octS ⟨1, n, t⟩) = [Value.int .u8 ((UInt8.ofNat (n.toNat * 8 + 5)).toNat : Int), Value.int .u8 ((UInt8.ofNat t.size).toNat : Int)] ++ t.data.toList.map fun b => Value.int .u8 b.toNat := by rw [ho]; rfl
    have hol : (octS ⟨1, n, t⟩).length = 2 + t.size := by rw [ho]; show t.data.toList.length + 1 + 1 = _; rw [Array.length_toList]; show t.size + 1 + 1 = _; omega
    repeat' ((first | refine br_t rfl ?_ | refine br_f rfl ?_ | refine IdxN.lit rfl rfl ?_ | intro _); conv => whnf)
    rename_i b5 V2 hV2 h2
    have e1 := wrapM5 n hn
    have e2 := wrapL t.size h8
    rw [e1, e2] at h2
    by_cases ht : t.size = 0
    ·have ht2 : t.data.toList = [] := List.eq_nil_of_length_eq_zero (by rw [Array.length_toList]; exact ht)
     rw [ht2, List.map_nil, List.append_nil] at hcs
     rw [ht] at hol
     refine AppVN.zeroS 1000 rfl ht (by decide) (by decide) ?_; conv => whnf
     repeat' ((first | refine br_t rfl ?_ | refine br_f rfl ?_ | refine IdxN.lit rfl rfl ?_ | intro _); conv => whnf)
     refine ret_pure ⟨some ⟨b5, 0, none⟩, 2, by rw [hol]; rfl, ?_, by omega⟩
     rw [hcs]; exact h2
    ·refine AppVN.fullS 1000 rfl (by omega) ?_
     refine AppF.toS (2 + t.size) t rfl _ h2 rfl (by omega) (by decide) fun base' cap' V3 hV3 hc3 hcap => ?_; conv => whnf
     repeat' ((first | refine br_t rfl ?_ | refine br_f rfl ?_ | refine IdxN.lit rfl rfl ?_ | intro _); conv => whnf)
     rw [← hcs, ← hol] at hc3
     exact ret_pure ⟨base', cap', by rw [hol]; rfl, hc3, by rw [hol]; exact hcap⟩
   ·have h8 : ¬ t.size ≤ 255 := by have := of_decide_eq_false h8; omega
    have ho : octS ⟨1, n, t⟩ = [] := by
     unfold octS
     rw [if_neg hneg, if_neg (by rintro ⟨h1, _⟩; cases h1), if_neg (by rintro ⟨_, h1⟩; exact h8 h1)]
    repeat' ((first | refine br_t rfl ?_ | refine br_f rfl ?_ | refine IdxN.lit rfl rfl ?_ | intro _); conv => whnf)
    exact ret_pure (by rw [ho]; exact ⟨none, 0, rfl, rfl, Nat.le_refl _⟩)
  ·have h7 : ¬ k = 1 := by simpa using h7
   have ho : octS ⟨k, n, t⟩ = [] := by
    unfold octS
    rw [if_neg hneg, if_neg (by rintro ⟨h1, _⟩; exact h5 h1), if_neg (by rintro ⟨h1, _⟩; exact h7 h1)]
   repeat' ((first | refine br_t rfl ?_ | refine br_f rfl ?_ | refine IdxN.lit rfl rfl ?_ | intro _); conv => whnf)
   exact ret_pure (by rw [ho]; exact ⟨none, 0, rfl, rfl, Nat.le_refl _⟩)
theorem oct_len (x : Val) : (octS x).length ≤ 257 := by
 unfold octS
 split
 ·simp
 ·split
  ·simp
  ·split
   ·rename_i h
    show x.t.data.toList.length + 1 + 1 ≤ 257
    rw [Array.length_toList]
    have : x.t.data.size ≤ 255 := h.2
    omega
   ·simp
theorem enc_take {l : List Val} {i : Nat} {x : Val} (hx : l[i]? = some x) : encS (l.take (i + 1)) = encS (l.take i) ++ octS x := by
 rw [List.take_succ, hx]; simp [encS]
theorem enc_len (l : List Val) : (encS l).length ≤ 257 * l.length := by
 induction l with
 | nil => exact Nat.le_refl _
 | cons x l ih =>
  show (octS x ++ encS l).length ≤ _
  have := oct_len x
  rw [List.length_append, List.length_cons]; omega
theorem u8L_app (a b : List UInt8) : u8L (a ++ b) = u8L a ++ u8L b := List.map_append ..
set_option maxHeartbeats 2000000 in
theorem rencode_spec (l : List Val) (base : Option Addr) (cap : Nat) (V : View) (h : ValsAt V l base) (hl : l.length ≤ 1000) :
  PSpec 22 [.slice base l.length cap] V (fun v V' => BytesV (encS l) v V') := by
 refine does_of_zfun [(10, [(0, []), (1, []), (2, []), (3, []), (4, []), (5, []), (6, []), (7, []), (8, []), (9, []), (12, []), (13, []), (10, []), (11, []), (14, []), (15, [])])] mixed (args := [.v _]) (ms := []) Tryz.func22 (by kernel_rfl) rfl ?_; conv => whnf
 repeat' ((first | refine br_t rfl ?_ | refine br_f rfl ?_ | refine IdxN.lit rfl rfl ?_ | intro _); conv => whnf)
 refine loopz (σ := Nat × Option Addr × Nat × Nat × Bool) (fun z => [(0, .v (.slice base l.length cap)), (3, .row (cond z.2.2.2.2 38 62)), (4, .v (.int .i64 (z.1 : Int)))]) (fun z => [(cond z.2.2.2.2 38 62, .row (.slice z.2.1 z.2.2.1 z.2.2.2.1) 5 1 z.2.2.1)])
  (fun j z V' => V.le V' ∧ z.1 ≤ l.length ∧ l.length - z.1 = j ∧ V'.cells (.slice z.2.1 z.2.2.1 z.2.2.2.1) (u8L (encS (l.take z.1))) ∧ (encS (l.take z.1)).length = z.2.2.1 ∧ z.2.2.1 ≤ z.2.2.2.1) l.length (0, none, 0, 0, true) ?_ ?_ ?_ ?_
 ·repeat' (first | exact sees_nil | refine sees_cons rfl rfl rfl ?_)
 ·repeat' (first | exact keeps_nil | refine keeps_cons rfl ?_ | refine keeps_free ?_)
 ·exact ⟨View.le_refl _, Nat.zero_le _, Nat.sub_zero _, rfl, rfl, Nat.le_refl _⟩
 rintro j ⟨i, b0, n, k0, fl⟩ V' ⟨hV, hi, hj, hxs, hnl, hcap⟩
 simp only at hi hj hxs hnl hcap
 cases fl with
 | true =>
  conv => whnf
  apply br <;> intro h3 <;> conv => whnf
  ·have h3 : i < l.length := by have := of_decide_eq_true h3; omega
   obtain ⟨⟨k, s, t⟩, hx⟩ : ∃ x, l[i]? = some x := ⟨_, List.getElem?_eq_getElem h3⟩
   obtain ⟨p, off, hb, hh⟩ := h.at hx
   subst hb
   have hw := wrap_nat (i := i) (by omega)
   have hen := enc_len (l.take i)
   have hlt : (l.take i).length ≤ i := by rw [List.length_take]; omega
   refine IdxN.of (by omega) (by omega) ?_; conv => whnf
   refine LoadN.of (hh.mono le_auto) 0 rfl rfl ?_; conv => whnf
   repeat' ((first | refine br_t rfl ?_ | refine br_f rfl ?_ | refine IdxN.lit rfl rfl ?_ | intro _); conv => whnf)
   apply br <;> intro h4 <;> conv => whnf
   ·have h4 : s < 0 := of_decide_eq_true h4
    have ho : octS ⟨k, s, t⟩ = [] := by unfold octS; rw [if_pos (.inl h4)]
    have hout : encS (l.take (i + 1)) = encS (l.take i) := by rw [enc_take hx, ho, List.append_nil]
    repeat' ((first | refine br_t rfl ?_ | refine br_f rfl ?_ | refine IdxN.lit rfl rfl ?_ | intro _); conv => whnf)
    rw [hw]
    refine ⟨j - 1, (i + 1, b0, n, k0, true), by omega, ?_, ?_, hV, by show i + 1 ≤ _; omega, by show l.length - (i + 1) = _; omega, ?_, by show (encS (l.take (i + 1))).length = n; rw [hout, hnl], hcap⟩
    ·repeat' (first | exact sees_nil | refine sees_cons rfl rfl rfl ?_)
    ·repeat' (first | exact keeps_nil | refine keeps_cons rfl ?_ | refine keeps_free ?_)
    ·show V'.cells (.slice b0 n k0) (u8L (encS (l.take (i + 1))))
     rw [hout]
     exact hxs
   have h4 : ¬ s < 0 := of_decide_eq_false h4
   apply br <;> intro h5 <;> conv => whnf
   ·have h5 : 7 < s := of_decide_eq_true h5
    have ho : octS ⟨k, s, t⟩ = [] := by unfold octS; rw [if_pos (.inr (by show 8 ≤ s; omega))]
    have hout : encS (l.take (i + 1)) = encS (l.take i) := by rw [enc_take hx, ho, List.append_nil]
    repeat' ((first | refine br_t rfl ?_ | refine br_f rfl ?_ | refine IdxN.lit rfl rfl ?_ | intro _); conv => whnf)
    rw [hw]
    refine ⟨j - 1, (i + 1, b0, n, k0, true), by omega, ?_, ?_, hV, by show i + 1 ≤ _; omega, by show l.length - (i + 1) = _; omega, ?_, by show (encS (l.take (i + 1))).length = n; rw [hout, hnl], hcap⟩
    ·repeat' (first | exact sees_nil | refine sees_cons rfl rfl rfl ?_)
    ·repeat' (first | exact keeps_nil | refine keeps_cons rfl ?_ | refine keeps_free ?_)
    ·show V'.cells (.slice b0 n k0) (u8L (encS (l.take (i + 1))))
     rw [hout]
     exact hxs
   have h5 : ¬ 7 < s := of_decide_eq_false h5
   have hn : 0 ≤ s ∧ s < 8 := by omega
   have hneg : ¬ (s < 0 ∨ 8 ≤ s) := by omega
   repeat' ((first | refine br_t rfl ?_ | refine br_f rfl ?_ | refine IdxN.lit rfl rfl ?_ | intro _); conv => whnf)
   apply br <;> intro h6 <;> conv => whnf
   ·have h6 : k = 2 := by simpa using h6
    subst h6
    apply br <;> intro h9 <;> conv => whnf
    ·have h9 : t.size = 0 := (text_nil t).1 h9
     have ho : octS ⟨2, s, t⟩ = [UInt8.ofNat (s.toNat * 8)] := by
      unfold octS
      rw [if_neg hneg, if_pos ⟨rfl, h9⟩]
     repeat' ((first | refine br_t rfl ?_ | refine br_f rfl ?_ | refine IdxN.lit rfl rfl ?_ | intro _); conv => whnf)
     rename_i b5 V2 hV2 h2
     rw [wrapM s hn] at h2
     refine AppN.toR (n + 1) rfl (u8L (encS (l.take i))) (u8L [UInt8.ofNat (s.toNat * 8)]) (hxs.mono le_auto) (by rw [u8L_len, hnl]; exact (Nat.mul_one _).symm) (.inr h2) rfl rfl (by omega) (by decide) fun base' cap' V3 hV3 hc3 hcap3 => ?_; conv => whnf
     repeat' ((first | refine br_t rfl ?_ | refine br_f rfl ?_ | refine IdxN.lit rfl rfl ?_ | intro _); conv => whnf)
     rw [hw]
     have hout : encS (l.take (i + 1)) = encS (l.take i) ++ [UInt8.ofNat (s.toNat * 8)] := by rw [enc_take hx, ho]
     refine ⟨j - 1, (i + 1, base', n + 1, cap', true), by omega, ?_, ?_, le_auto, by show i + 1 ≤ _; omega, by show l.length - (i + 1) = _; omega, ?_, by show (encS (l.take (i + 1))).length = n + 1; rw [hout, List.length_append, hnl]; rfl, hcap3⟩
     ·repeat' (first | exact sees_nil | refine sees_cons rfl rfl rfl ?_)
     ·repeat' (first | exact keeps_nil | refine keeps_cons rfl ?_ | refine keeps_free ?_)
     ·show V3.cells (.slice base' (n + 1) cap') (u8L (encS (l.take (i + 1))))
      rw [hout, u8L_app]
      exact hc3
    ·have h9 : ¬ t.size = 0 := fun hh => by rw [(text_nil t).2 hh] at h9; cases h9
     have ho : octS ⟨2, s, t⟩ = [] := by
      unfold octS
      rw [if_neg hneg, if_neg (by rintro ⟨_, h1⟩; exact h9 h1), if_neg (by rintro ⟨h1, _⟩; cases h1)]
     have hout : encS (l.take (i + 1)) = encS (l.take i) := by rw [enc_take hx, ho, List.append_nil]
     repeat' ((first | refine br_t rfl ?_ | refine br_f rfl ?_ | refine IdxN.lit rfl rfl ?_ | intro _); conv => whnf)
     rw [hw]
     refine ⟨j - 1, (i + 1, b0, n, k0, true), by omega, ?_, ?_, hV, by show i + 1 ≤ _; omega, by show l.length - (i + 1) = _; omega, ?_, by show (encS (l.take (i + 1))).length = n; rw [hout, hnl], hcap⟩
     ·repeat' (first | exact sees_nil | refine sees_cons rfl rfl rfl ?_)
     ·repeat' (first | exact keeps_nil | refine keeps_cons rfl ?_ | refine keeps_free ?_)
     ·show V'.cells (.slice b0 n k0) (u8L (encS (l.take (i + 1))))
      rw [hout]
      exact hxs
   ·have h6 : ¬ k = 2 := by simpa using h6
    repeat' ((first | refine br_t rfl ?_ | refine br_f rfl ?_ | refine IdxN.lit rfl rfl ?_ | intro _); conv => whnf)
    apply br <;> intro h7 <;> conv => whnf
    ·have h7 : k = 1 := by simpa using h7
     subst h7
     apply br <;> intro h8 <;> conv => whnf
     ·have h8 : t.size ≤ 255 := by have h8 : (t.size : Int) ≤ 255 := of_decide_eq_true h8; omega
      have ho : octS ⟨1, s, t⟩ = UInt8.ofNat (s.toNat * 8 + 5) :: UInt8.ofNat t.size :: t.data.toList := by
       unfold octS
       rw [if_neg hneg, if_neg (by rintro ⟨h1, _⟩; cases h1), if_pos ⟨rfl, h8⟩]
      repeat' ((first | refine br_t rfl ?_ | refine br_f rfl ?_ | refine IdxN.lit rfl rfl ?_ | intro _); conv => whnf)
      rename_i b5 l5
      have e1 := wrapM5 s hn
      have e2 := wrapL t.size h8
      refine AppN.toR (n + 2) rfl (u8L (encS (l.take i))) [Value.int .u8 (IntKind.u8.wrap (IntKind.i64.wrap (IntKind.i64.wrap (s * 8) + 5))), Value.int .u8 (IntKind.u8.wrap (t.size : Int))] (hxs.mono le_auto) (by rw [u8L_len, hnl]; exact (Nat.mul_one _).symm) (.inr l5.has) rfl rfl (by omega) (by decide) fun base' cap' V3 hV3 hc3 hcap3 => ?_; conv => whnf
      repeat' ((first | refine br_t rfl ?_ | refine br_f rfl ?_ | refine IdxN.lit rfl rfl ?_ | intro _); conv => whnf)
      refine AppN.toS (n + 2 + t.size) t rfl _ hc3 (by rw [List.length_append, u8L_len, hnl]; rfl) (by omega) (by decide) fun base2 cap2 V4 hV4 hc4 hcap4 => ?_; conv => whnf
      repeat' ((first | refine br_t rfl ?_ | refine br_f rfl ?_ | refine IdxN.lit rfl rfl ?_ | intro _); conv => whnf)
      rw [hw]
      have hout : encS (l.take (i + 1)) = encS (l.take i) ++ (UInt8.ofNat (s.toNat * 8 + 5) :: UInt8.ofNat t.size :: t.data.toList) := by rw [enc_take hx, ho]
      have hlen : (UInt8.ofNat (s.toNat * 8 + 5) :: UInt8.ofNat t.size :: t.data.toList).length = 2 + t.size := by
       show t.data.toList.length + 1 + 1 = _
       rw [Array.length_toList]; show t.size + 1 + 1 = _; omega
      refine ⟨j - 1, (i + 1, base2, n + 2 + t.size, cap2, false), by omega, ?_, ?_, le_auto, by show i + 1 ≤ _; omega, by show l.length - (i + 1) = _; omega, ?_, by show (encS (l.take (i + 1))).length = n + 2 + t.size; rw [hout, List.length_append, hnl, hlen, Nat.add_assoc], hcap4⟩
      ·repeat' (first | exact sees_nil | refine sees_cons rfl rfl rfl ?_)
      ·repeat' (first | exact keeps_nil | refine keeps_cons rfl ?_ | refine keeps_free ?_)
      ·show V4.cells (.slice base2 (n + 2 + t.size) cap2) (u8L (encS (l.take (i + 1))))
       rw [hout, u8L_app]
       rw [e1, e2] at hc4
       rw [List.append_assoc] at hc4
       exact hc4
     ·have h8 : ¬ t.size ≤ 255 := by have h8 : ¬ (t.size : Int) ≤ 255 := of_decide_eq_false h8; omega
      have ho : octS ⟨1, s, t⟩ = [] := by
       unfold octS
       rw [if_neg hneg, if_neg (by rintro ⟨h1, _⟩; cases h1), if_neg (by rintro ⟨_, h1⟩; exact h8 h1)]
      have hout : encS (l.take (i + 1)) = encS (l.take i) := by rw [enc_take hx, ho, List.append_nil]
      repeat' ((first | refine br_t rfl ?_ | refine br_f rfl ?_ | refine IdxN.lit rfl rfl ?_ | intro _); conv => whnf)
      rw [hw]
      refine ⟨j - 1, (i + 1, b0, n, k0, true), by omega, ?_, ?_, hV, by show i + 1 ≤ _; omega, by show l.length - (i + 1) = _; omega, ?_, by show (encS (l.take (i + 1))).length = n; rw [hout, hnl], hcap⟩
      ·repeat' (first | exact sees_nil | refine sees_cons rfl rfl rfl ?_)
      ·repeat' (first | exact keeps_nil | refine keeps_cons rfl ?_ | refine keeps_free ?_)
      ·show V'.cells (.slice b0 n k0) (u8L (encS (l.take (i + 1))))
       rw [hout]
       exact hxs
    ·have h7 : ¬ k = 1 := by simpa using h7
     have ho : octS ⟨k, s, t⟩ = [] := by
      unfold octS
      rw [if_neg hneg, if_neg (by rintro ⟨h1, _⟩; exact h6 h1), if_neg (by rintro ⟨h1, _⟩; exact h7 h1)]
     have hout : encS (l.take (i + 1)) = encS (l.take i) := by rw [enc_take hx, ho, List.append_nil]
     repeat' ((first | refine br_t rfl ?_ | refine br_f rfl ?_ | refine IdxN.lit rfl rfl ?_ | intro _); conv => whnf)
     rw [hw]
     refine ⟨j - 1, (i + 1, b0, n, k0, true), by omega, ?_, ?_, hV, by show i + 1 ≤ _; omega, by show l.length - (i + 1) = _; omega, ?_, by show (encS (l.take (i + 1))).length = n; rw [hout, hnl], hcap⟩
     ·repeat' (first | exact sees_nil | refine sees_cons rfl rfl rfl ?_)
     ·repeat' (first | exact keeps_nil | refine keeps_cons rfl ?_ | refine keeps_free ?_)
     ·show V'.cells (.slice b0 n k0) (u8L (encS (l.take (i + 1))))
      rw [hout]
      exact hxs
  ·have h3 : ¬ i < l.length := by have := of_decide_eq_false h3; omega
   have ht : l.take i = l := List.take_of_length_le (by omega)
   rw [ht] at hxs hnl
   subst hnl
   repeat' ((first | refine br_t rfl ?_ | refine br_f rfl ?_ | refine IdxN.lit rfl rfl ?_ | intro _); conv => whnf)
   exact ret_pure ⟨_, _, rfl, hxs, hcap⟩
 | false =>
  conv => whnf
  apply br <;> intro h3 <;> conv => whnf
  ·have h3 : i < l.length := by have := of_decide_eq_true h3; omega
   obtain ⟨⟨k, s, t⟩, hx⟩ : ∃ x, l[i]? = some x := ⟨_, List.getElem?_eq_getElem h3⟩
   obtain ⟨p, off, hb, hh⟩ := h.at hx
   subst hb
   have hw := wrap_nat (i := i) (by omega)
   have hen := enc_len (l.take i)
   have hlt : (l.take i).length ≤ i := by rw [List.length_take]; omega
   refine IdxN.of (by omega) (by omega) ?_; conv => whnf
   refine LoadN.of (hh.mono le_auto) 0 rfl rfl ?_; conv => whnf
   repeat' ((first | refine br_t rfl ?_ | refine br_f rfl ?_ | refine IdxN.lit rfl rfl ?_ | intro _); conv => whnf)
   apply br <;> intro h4 <;> conv => whnf
   ·have h4 : s < 0 := of_decide_eq_true h4
    have ho : octS ⟨k, s, t⟩ = [] := by unfold octS; rw [if_pos (.inl h4)]
    have hout : encS (l.take (i + 1)) = encS (l.take i) := by rw [enc_take hx, ho, List.append_nil]
    repeat' ((first | refine br_t rfl ?_ | refine br_f rfl ?_ | refine IdxN.lit rfl rfl ?_ | intro _); conv => whnf)
    rw [hw]
    refine ⟨j - 1, (i + 1, b0, n, k0, false), by omega, ?_, ?_, hV, by show i + 1 ≤ _; omega, by show l.length - (i + 1) = _; omega, ?_, by show (encS (l.take (i + 1))).length = n; rw [hout, hnl], hcap⟩
    ·repeat' (first | exact sees_nil | refine sees_cons rfl rfl rfl ?_)
    ·repeat' (first | exact keeps_nil | refine keeps_cons rfl ?_ | refine keeps_free ?_)
    ·show V'.cells (.slice b0 n k0) (u8L (encS (l.take (i + 1))))
     rw [hout]
     exact hxs
   have h4 : ¬ s < 0 := of_decide_eq_false h4
   apply br <;> intro h5 <;> conv => whnf
   ·have h5 : 7 < s := of_decide_eq_true h5
    have ho : octS ⟨k, s, t⟩ = [] := by unfold octS; rw [if_pos (.inr (by show 8 ≤ s; omega))]
    have hout : encS (l.take (i + 1)) = encS (l.take i) := by rw [enc_take hx, ho, List.append_nil]
    repeat' ((first | refine br_t rfl ?_ | refine br_f rfl ?_ | refine IdxN.lit rfl rfl ?_ | intro _); conv => whnf)
    rw [hw]
    refine ⟨j - 1, (i + 1, b0, n, k0, false), by omega, ?_, ?_, hV, by show i + 1 ≤ _; omega, by show l.length - (i + 1) = _; omega, ?_, by show (encS (l.take (i + 1))).length = n; rw [hout, hnl], hcap⟩
    ·repeat' (first | exact sees_nil | refine sees_cons rfl rfl rfl ?_)
    ·repeat' (first | exact keeps_nil | refine keeps_cons rfl ?_ | refine keeps_free ?_)
    ·show V'.cells (.slice b0 n k0) (u8L (encS (l.take (i + 1))))
     rw [hout]
     exact hxs
   have h5 : ¬ 7 < s := of_decide_eq_false h5
   have hn : 0 ≤ s ∧ s < 8 := by omega
   have hneg : ¬ (s < 0 ∨ 8 ≤ s) := by omega
   repeat' ((first | refine br_t rfl ?_ | refine br_f rfl ?_ | refine IdxN.lit rfl rfl ?_ | intro _); conv => whnf)
   apply br <;> intro h6 <;> conv => whnf
   ·have h6 : k = 2 := by simpa using h6
    subst h6
    apply br <;> intro h9 <;> conv => whnf
    ·have h9 : t.size = 0 := (text_nil t).1 h9
     have ho : octS ⟨2, s, t⟩ = [UInt8.ofNat (s.toNat * 8)] := by
      unfold octS
      rw [if_neg hneg, if_pos ⟨rfl, h9⟩]
     repeat' ((first | refine br_t rfl ?_ | refine br_f rfl ?_ | refine IdxN.lit rfl rfl ?_ | intro _); conv => whnf)
     rename_i b5 V2 hV2 h2
     rw [wrapM s hn] at h2
     refine AppN.toR (n + 1) rfl (u8L (encS (l.take i))) (u8L [UInt8.ofNat (s.toNat * 8)]) (hxs.mono le_auto) (by rw [u8L_len, hnl]; exact (Nat.mul_one _).symm) (.inr h2) rfl rfl (by omega) (by decide) fun base' cap' V3 hV3 hc3 hcap3 => ?_; conv => whnf
     repeat' ((first | refine br_t rfl ?_ | refine br_f rfl ?_ | refine IdxN.lit rfl rfl ?_ | intro _); conv => whnf)
     rw [hw]
     have hout : encS (l.take (i + 1)) = encS (l.take i) ++ [UInt8.ofNat (s.toNat * 8)] := by rw [enc_take hx, ho]
     refine ⟨j - 1, (i + 1, base', n + 1, cap', true), by omega, ?_, ?_, le_auto, by show i + 1 ≤ _; omega, by show l.length - (i + 1) = _; omega, ?_, by show (encS (l.take (i + 1))).length = n + 1; rw [hout, List.length_append, hnl]; rfl, hcap3⟩
     ·repeat' (first | exact sees_nil | refine sees_cons rfl rfl rfl ?_)
     ·repeat' (first | exact keeps_nil | refine keeps_cons rfl ?_ | refine keeps_free ?_)
     ·show V3.cells (.slice base' (n + 1) cap') (u8L (encS (l.take (i + 1))))
      rw [hout, u8L_app]
      exact hc3
    ·have h9 : ¬ t.size = 0 := fun hh => by rw [(text_nil t).2 hh] at h9; cases h9
     have ho : octS ⟨2, s, t⟩ = [] := by
      unfold octS
      rw [if_neg hneg, if_neg (by rintro ⟨_, h1⟩; exact h9 h1), if_neg (by rintro ⟨h1, _⟩; cases h1)]
     have hout : encS (l.take (i + 1)) = encS (l.take i) := by rw [enc_take hx, ho, List.append_nil]
     repeat' ((first | refine br_t rfl ?_ | refine br_f rfl ?_ | refine IdxN.lit rfl rfl ?_ | intro _); conv => whnf)
     rw [hw]
     refine ⟨j - 1, (i + 1, b0, n, k0, false), by omega, ?_, ?_, hV, by show i + 1 ≤ _; omega, by show l.length - (i + 1) = _; omega, ?_, by show (encS (l.take (i + 1))).length = n; rw [hout, hnl], hcap⟩
     ·repeat' (first | exact sees_nil | refine sees_cons rfl rfl rfl ?_)
     ·repeat' (first | exact keeps_nil | refine keeps_cons rfl ?_ | refine keeps_free ?_)
     ·show V'.cells (.slice b0 n k0) (u8L (encS (l.take (i + 1))))
      rw [hout]
      exact hxs
   ·have h6 : ¬ k = 2 := by simpa using h6
    repeat' ((first | refine br_t rfl ?_ | refine br_f rfl ?_ | refine IdxN.lit rfl rfl ?_ | intro _); conv => whnf)
    apply br <;> intro h7 <;> conv => whnf
    ·have h7 : k = 1 := by simpa using h7
     subst h7
     apply br <;> intro h8 <;> conv => whnf
     ·have h8 : t.size ≤ 255 := by have h8 : (t.size : Int) ≤ 255 := of_decide_eq_true h8; omega
      have ho : octS ⟨1, s, t⟩ = UInt8.ofNat (s.toNat * 8 + 5) :: UInt8.ofNat t.size :: t.data.toList := by
       unfold octS
       rw [if_neg hneg, if_neg (by rintro ⟨h1, _⟩; cases h1), if_pos ⟨rfl, h8⟩]
      repeat' ((first | refine br_t rfl ?_ | refine br_f rfl ?_ | refine IdxN.lit rfl rfl ?_ | intro _); conv => whnf)
      rename_i b5 l5
      have e1 := wrapM5 s hn
      have e2 := wrapL t.size h8
      refine AppN.toR (n + 2) rfl (u8L (encS (l.take i))) [Value.int .u8 (IntKind.u8.wrap (IntKind.i64.wrap (IntKind.i64.wrap (s * 8) + 5))), Value.int .u8 (IntKind.u8.wrap (t.size : Int))] (hxs.mono le_auto) (by rw [u8L_len, hnl]; exact (Nat.mul_one _).symm) (.inr l5.has) rfl rfl (by omega) (by decide) fun base' cap' V3 hV3 hc3 hcap3 => ?_; conv => whnf
      repeat' ((first | refine br_t rfl ?_ | refine br_f rfl ?_ | refine IdxN.lit rfl rfl ?_ | intro _); conv => whnf)
      refine AppN.toS (n + 2 + t.size) t rfl _ hc3 (by rw [List.length_append, u8L_len, hnl]; rfl) (by omega) (by decide) fun base2 cap2 V4 hV4 hc4 hcap4 => ?_; conv => whnf
      repeat' ((first | refine br_t rfl ?_ | refine br_f rfl ?_ | refine IdxN.lit rfl rfl ?_ | intro _); conv => whnf)
      rw [hw]
      have hout : encS (l.take (i + 1)) = encS (l.take i) ++ (UInt8.ofNat (s.toNat * 8 + 5) :: UInt8.ofNat t.size :: t.data.toList) := by rw [enc_take hx, ho]
      have hlen : (UInt8.ofNat (s.toNat * 8 + 5) :: UInt8.ofNat t.size :: t.data.toList).length = 2 + t.size := by
       show t.data.toList.length + 1 + 1 = _
       rw [Array.length_toList]; show t.size + 1 + 1 = _; omega
      refine ⟨j - 1, (i + 1, base2, n + 2 + t.size, cap2, false), by omega, ?_, ?_, le_auto, by show i + 1 ≤ _; omega, by show l.length - (i + 1) = _; omega, ?_, by show (encS (l.take (i + 1))).length = n + 2 + t.size; rw [hout, List.length_append, hnl, hlen, Nat.add_assoc], hcap4⟩
      ·repeat' (first | exact sees_nil | refine sees_cons rfl rfl rfl ?_)
      ·repeat' (first | exact keeps_nil | refine keeps_cons rfl ?_ | refine keeps_free ?_)
      ·show V4.cells (.slice base2 (n + 2 + t.size) cap2) (u8L (encS (l.take (i + 1))))
       rw [hout, u8L_app]
       rw [e1, e2] at hc4
       rw [List.append_assoc] at hc4
       exact hc4
     ·have h8 : ¬ t.size ≤ 255 := by have h8 : ¬ (t.size : Int) ≤ 255 := of_decide_eq_false h8; omega
      have ho : octS ⟨1, s, t⟩ = [] := by
       unfold octS
       rw [if_neg hneg, if_neg (by rintro ⟨h1, _⟩; cases h1), if_neg (by rintro ⟨_, h1⟩; exact h8 h1)]
      have hout : encS (l.take (i + 1)) = encS (l.take i) := by rw [enc_take hx, ho, List.append_nil]
      repeat' ((first | refine br_t rfl ?_ | refine br_f rfl ?_ | refine IdxN.lit rfl rfl ?_ | intro _); conv => whnf)
      rw [hw]
      refine ⟨j - 1, (i + 1, b0, n, k0, false), by omega, ?_, ?_, hV, by show i + 1 ≤ _; omega, by show l.length - (i + 1) = _; omega, ?_, by show (encS (l.take (i + 1))).length = n; rw [hout, hnl], hcap⟩
      ·repeat' (first | exact sees_nil | refine sees_cons rfl rfl rfl ?_)
      ·repeat' (first | exact keeps_nil | refine keeps_cons rfl ?_ | refine keeps_free ?_)
      ·show V'.cells (.slice b0 n k0) (u8L (encS (l.take (i + 1))))
       rw [hout]
       exact hxs
    ·have h7 : ¬ k = 1 := by simpa using h7
     have ho : octS ⟨k, s, t⟩ = [] := by
      unfold octS
      rw [if_neg hneg, if_neg (by rintro ⟨h1, _⟩; exact h6 h1), if_neg (by rintro ⟨h1, _⟩; exact h7 h1)]
     have hout : encS (l.take (i + 1)) = encS (l.take i) := by rw [enc_take hx, ho, List.append_nil]
     repeat' ((first | refine br_t rfl ?_ | refine br_f rfl ?_ | refine IdxN.lit rfl rfl ?_ | intro _); conv => whnf)
     rw [hw]
     refine ⟨j - 1, (i + 1, b0, n, k0, false), by omega, ?_, ?_, hV, by show i + 1 ≤ _; omega, by show l.length - (i + 1) = _; omega, ?_, by show (encS (l.take (i + 1))).length = n; rw [hout, hnl], hcap⟩
     ·repeat' (first | exact sees_nil | refine sees_cons rfl rfl rfl ?_)
     ·repeat' (first | exact keeps_nil | refine keeps_cons rfl ?_ | refine keeps_free ?_)
     ·show V'.cells (.slice b0 n k0) (u8L (encS (l.take (i + 1))))
      rw [hout]
      exact hxs
  ·have h3 : ¬ i < l.length := by have := of_decide_eq_false h3; omega
   have ht : l.take i = l := List.take_of_length_le (by omega)
   rw [ht] at hxs hnl
   subst hnl
   repeat' ((first | refine br_t rfl ?_ | refine br_f rfl ?_ | refine IdxN.lit rfl rfl ?_ | intro _); conv => whnf)
   exact ret_pure ⟨_, _, rfl, hxs, hcap⟩
theorem BytesV.mono {l : List UInt8} {v : Value} {V V' : View} (h : BytesV l v V) (hV : V.le V') : BytesV l v V' := by
 obtain ⟨b, c, h1, h2, h3⟩ := h
 exact ⟨b, c, h1, h2.mono hV, h3⟩
structure BsC (V : View) (ls : List (List UInt8)) (cs : List Value) : Prop where
 len : cs.length = ls.length
 at' : ∀ (i : Nat) (l : List UInt8) (c : Value), ls[i]? = some l → cs[i]? = some c → BytesV l c V
theorem BsC.mono {V V' : View} {ls : List (List UInt8)} {cs : List Value} (h : BsC V ls cs) (hV : V.le V') : BsC V' ls cs := ⟨h.len, fun i l c h1 h2 => (h.at' i l c h1 h2).mono hV⟩
theorem BsC.nil {V : View} : BsC V [] [] := ⟨rfl, fun i r c h => by simp at h⟩
theorem BsC.snoc {V : View} {ls : List (List UInt8)} {cs : List Value} {l : List UInt8} {c : Value} (h : BsC V ls cs) (hr : BytesV l c V) : BsC V (ls ++ [l]) (cs ++ [c]) := by
 refine ⟨by simp [h.len], fun i r' c' h1 h2 => ?_⟩
 by_cases hi : i < ls.length
 ·rw [List.getElem?_append_left hi] at h1
  rw [List.getElem?_append_left (by rw [h.len]; exact hi)] at h2
  exact h.at' i r' c' h1 h2
 ·rw [List.getElem?_append_right (by omega)] at h1
  rw [List.getElem?_append_right (by rw [h.len]; omega), h.len] at h2
  cases hd : i - ls.length with
  | zero =>
   rw [hd] at h1 h2
   simp only [List.getElem?_cons_zero, Option.some.injEq] at h1 h2
   subst h1; subst h2; exact hr
  | succ d => rw [hd] at h1; simp at h1
theorem allOne_mem : ∀ {cs : List Value}, (∀ c ∈ cs, c.oneCell' = true) → allOne cs = true
 | [], _ => rfl
 | c :: cs, h => by
  have h1 := h c List.mem_cons_self
  have h2 := allOne_mem (cs := cs) fun x hx => h x (List.mem_cons_of_mem _ hx)
  unfold allOne
  rw [h1, h2]
theorem BsC.get {V : View} {ls : List (List UInt8)} {cs : List Value} (h : BsC V ls cs) {i : Nat} (hi : i < cs.length) : ∃ b l c, ls[i]? = some l ∧ cs[i]? = some (.slice b l.length c) ∧ (l.length = 0 ∨ V.cells (.slice b l.length c) (u8L l)) ∧ l.length ≤ c := by
 obtain ⟨x, hx⟩ : ∃ x, cs[i]? = some x := ⟨_, List.getElem?_eq_getElem hi⟩
 obtain ⟨l, hl⟩ : ∃ l, ls[i]? = some l := ⟨_, List.getElem?_eq_getElem (by rw [← h.len]; exact hi)⟩
 obtain ⟨b, c, rfl, h1, h2⟩ := h.at' i l x hl hx
 exact ⟨b, l, c, hl, hx, .inr h1, h2⟩
theorem BsC.one {V : View} {ls : List (List UInt8)} {cs : List Value} (h : BsC V ls cs) : allOne cs = true := allOne_mem fun c hc => by
 obtain ⟨i, hi⟩ := List.mem_iff_getElem?.1 hc
 obtain ⟨b, l, k, _, hx, _⟩ := h.get (List.getElem?_eq_some_iff.1 hi).1
 rw [hi] at hx
 cases hx
 rfl
structure WrC (V : View) (cs ws : List Value) : Prop where
 len : ws.length = cs.length
 at' : ∀ (i : Nat) (c w : Value), cs[i]? = some c → ws[i]? = some w → ∃ q, w = .slice (some ⟨q, 0, none⟩) 1 1 ∧ V.has q 0 [c]
theorem WrC.mono {V V' : View} {cs ws : List Value} (h : WrC V cs ws) (hV : V.le V') : WrC V' cs ws := ⟨h.len, fun i c w h1 h2 => by
 obtain ⟨q, h3, h4⟩ := h.at' i c w h1 h2
 exact ⟨q, h3, h4.mono hV⟩⟩
theorem WrC.snoc {V : View} {cs ws : List Value} {c : Value} {q : Nat} (h : WrC V cs ws) (hr : V.has q 0 [c]) : WrC V (cs ++ [c]) (ws ++ [.slice (some ⟨q, 0, none⟩) 1 1]) := by
 refine ⟨by simp [h.len], fun i r' c' h1 h2 => ?_⟩
 by_cases hi : i < cs.length
 ·rw [List.getElem?_append_left hi] at h1
  rw [List.getElem?_append_left (by rw [h.len]; exact hi)] at h2
  exact h.at' i r' c' h1 h2
 ·rw [List.getElem?_append_right (by omega)] at h1
  rw [List.getElem?_append_right (by rw [h.len]; omega), h.len] at h2
  cases hd : i - cs.length with
  | zero =>
   rw [hd] at h1 h2
   simp only [List.getElem?_cons_zero, Option.some.injEq] at h1 h2
   subst h1; subst h2; exact ⟨q, rfl, hr⟩
  | succ d => rw [hd] at h1; simp at h1
theorem take_succV {l : List Value} {i : Nat} {x : Value} (hx : l[i]? = some x) : l.take (i + 1) = l.take i ++ [x] := by rw [List.take_succ, hx]; rfl
theorem WrC.one {V : View} {cs ws : List Value} (h : WrC V cs ws) : allOne ws = true := allOne_mem fun c hc => by
 obtain ⟨i, hi⟩ := List.mem_iff_getElem?.1 hc
 have hlt := (List.getElem?_eq_some_iff.1 hi).1
 obtain ⟨x, hx⟩ : ∃ x, cs[i]? = some x := ⟨_, List.getElem?_eq_getElem (by rw [← h.len]; exact hlt)⟩
 obtain ⟨q, rfl, _⟩ := h.at' i x c hx hi
 rfl
set_option maxHeartbeats 1000000 in
theorem wrapped_spec (ls : List (List UInt8)) (cs : List Value) (base : Option Addr) (cap : Nat) (V : View) (hb : BsC V ls cs) (h : V.cells (.slice base cs.length cap) cs) (hl : cs.length ≤ 1000) :
  PSpec 33 [.slice base cs.length cap] V (fun v V' => ∃ b c ws, v = .slice b cs.length c ∧ V'.cells (.slice b cs.length c) ws ∧ WrC V' cs ws) := by
 refine does_of_zfun [] mixed (args := [.v _]) (ms := []) Tryz.func33 (by kernel_rfl) rfl ?_; conv => whnf
 repeat' ((first | refine br_t rfl ?_ | refine br_f rfl ?_ | refine IdxN.lit rfl rfl ?_ | intro _); conv => whnf)
 refine loopz (σ := Nat × List Value × Option Addr × Nat × Nat) (fun z => [(0, .v (.slice base cs.length cap)), (3, .row 16), (6, .v (.slice base cs.length cap)), (7, .v (.int .i64 (cs.length : Int))), (8, .v (.int .i64 (z.1 : Int)))]) (fun z => [(16, .row (.slice z.2.2.1 z.2.2.2.1 z.2.2.2.2) 64 1 z.2.2.2.1)])
  (fun j z V' => V.le V' ∧ z.1 ≤ cs.length ∧ cs.length - z.1 = j ∧ z.2.2.2.1 = z.1 ∧ V'.cells (.slice z.2.2.1 z.2.2.2.1 z.2.2.2.2) z.2.1 ∧ WrC V' (cs.take z.1) z.2.1) cs.length (0, [], none, 0, 0) ?_ ?_ ?_ ?_
 ·repeat' (first | exact sees_nil | refine sees_cons rfl rfl rfl ?_)
 ·repeat' (first | exact keeps_nil | refine keeps_cons rfl ?_ | refine keeps_free ?_)
 ·exact ⟨View.le_refl _, Nat.zero_le _, Nat.sub_zero _, rfl, rfl, ⟨rfl, fun i c w hc => by simp at hc⟩⟩
 rintro j ⟨i, ws, b0, n, k0⟩ V' ⟨hV, hi, hj, hn, hxs, hw⟩
 simp only at hi hj hn hxs hw
 subst hn; conv => whnf
 apply br <;> intro h3 <;> conv => whnf
 ·have h3 : n < cs.length := by have := of_decide_eq_true h3; omega
  obtain ⟨xb, l, xc, hl1, hx, hlc, _⟩ := hb.get h3
  obtain ⟨p, off, hpb, hh⟩ := cells_some h (fun e => by rw [e] at h3; simp at h3)
  subst hpb
  have hcell := has_one hh hx
  have hwl : ws.length = n := by rw [hw.len, List.length_take]; omega
  refine IdxN.of (by omega) (by omega) ?_; conv => whnf
  refine LoadN.of (hcell.mono le_auto) 0 (by show off + n * 1 = off + n + 0; omega) rfl ?_; conv => whnf
  repeat' ((first | refine br_t rfl ?_ | refine br_f rfl ?_ | refine IdxN.lit rfl rfl ?_ | intro _); conv => whnf)
  rename_i b1 V1 hV1 g1 b2 V2 hV2 g2
  refine AppN.to (n + 1) rfl ws [.slice (some ⟨b1, 0, none⟩) 1 1] (hxs.mono le_auto) (by rw [hwl]; exact (Nat.mul_one _).symm) g2 rfl rfl (by omega) (by decide) fun base' cap' V3 hV3 hc3 => ?_; conv => whnf
  repeat' ((first | refine br_t rfl ?_ | refine br_f rfl ?_ | refine IdxN.lit rfl rfl ?_ | intro _); conv => whnf)
  have hwr := wrap_nat (i := n) (by omega)
  rw [hwr]
  refine ⟨j - 1, (n + 1, ws ++ [.slice (some ⟨b1, 0, none⟩) 1 1], base', n + 1, cap'), by omega, ?_, ?_, le_auto, by show n + 1 ≤ _; omega, by show cs.length - (n + 1) = _; omega, rfl, hc3, ?_⟩
  ·repeat' (first | exact sees_nil | refine sees_cons rfl rfl rfl ?_)
  ·repeat' (first | exact keeps_nil | refine keeps_cons rfl ?_ | refine keeps_free ?_)
  ·show WrC V3 (cs.take (n + 1)) _
   rw [take_succV hx]
   exact (hw.mono le_auto).snoc (g1.mono le_auto)
 ·have h3 : ¬ n < cs.length := by have := of_decide_eq_false h3; omega
  have hn : n = cs.length := by omega
  subst hn
  rw [List.take_length] at hw
  repeat' ((first | refine br_t rfl ?_ | refine br_f rfl ?_ | refine IdxN.lit rfl rfl ?_ | intro _); conv => whnf)
  exact ret_pure ⟨_, _, ws, rfl, hxs, hw⟩
end Go.Proofs.LB
end
