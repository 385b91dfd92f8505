/- One part of a proof: an evaluator of the model, shown right, and contracts that it yields. No condition beyond those that each theorem names. -/
import Derived.Test.YtenpginanhnkbaaB1
namespace Go.Proofs.Ytenpginanhnkbaa
open Go.X
set_option maxRecDepth 100000
set_option linter.unusedSimpArgs false

theorem has_part {V : View} {b off : Nat} {l : List Value} (h : V.has b off l) (k n : Nat) : V.has b (off + k) ((l.drop k).take n) := fun i v hi => by
  rw [List.getElem?_take] at hi
  split at hi
  · rw [List.getElem?_drop] at hi
    have := h (k + i) v hi
    rwa [← Nat.add_assoc] at this
  · cases hi
theorem LoadN.of {V : View} {b off off0 n : Nat} {K : List Value → Prop} {l : List Value} (h : V.has b off0 l) (k : Nat) (ho : off = off0 + k) (hn : ((l.drop k).take n).length = n) (hK : K ((l.drop k).take n)) : LoadN V b off n K :=
  ⟨⟨_, hn, by subst ho; exact has_part h k n, hK⟩⟩
theorem IdxN.of {b off len size : Nat} {i : Int} {K : Nat → Nat → Prop} (h0 : 0 ≤ i) (hl : i < len) (hK : K b (off + i.toNat * size)) : IdxN (some ⟨b, off, none⟩) len i size K := ⟨⟨b, off, rfl, h0, hl, hK⟩⟩

/-! ## operations -/
def unX (op : Int) (a : Val) : Val × Int := if op = 3 then wholeV (fits (-a.n)) else (truthV (a.n == 0), 0)
def binX (op : Int) (a b : Val) : Val × Int :=
  if op = 5 then wholeV (fits (a.n + b.n)) else if op = 6 then wholeV (fits (a.n - b.n)) else if op = 7 then wholeV (fits (a.n * b.n))
  else if op = 8 then (truthV (cmpV a b == 0), 0) else if op = 9 then (truthV (cmpV a b != 0), 0) else if op = 10 then (truthV (decide (cmpV a b < 0)), 0)
  else if op = 11 then (truthV (decide (cmpV a b ≤ 0)), 0) else if op = 12 then (truthV (decide (0 < cmpV a b)), 0) else if op = 13 then (truthV (decide (0 ≤ cmpV a b)), 0) else (v0, 1)
def pl70 : Plans := [(7, [(0, []), (1, []), (2, []), (3, []), (4, []), (5, []), (6, []), (7, []), (8, []), (9, []), (10, []), (11, []), (12, []), (13, []), (14, []), (15, [])]), (9, [(0, []), (1, []), (2, []), (3, []), (4, []), (5, []), (6, []), (7, []), (8, []), (9, []), (10, []), (11, []), (12, []), (13, []), (14, []), (15, [])]), (11, [(0, []), (1, []), (2, []), (3, []), (4, []), (5, []), (6, []), (7, []), (8, []), (9, []), (10, []), (11, []), (12, []), (13, []), (14, []), (15, [])]), (12, [(0, []), (1, []), (2, []), (3, []), (4, []), (5, []), (6, []), (7, [])])]
theorem does1_spec (op : Int) (hop : op = 3 ∨ op = 4) (a : Val) (ha : InR a.n) (p off cap : Nat) (V : View) (hs : V.has p off (vcells a)) :
    PSpec 70 [.int .i64 op, .slice (some ⟨p, off, none⟩) 1 cap] V (fun v _ => v = pairX (unX op a)) := by
  refine pspec pl70 (args := [.v _, .v _]) Try.func70 (by kernel_rfl) rfl ?_
  conv => whnf
  intro b1
  conv => whnf
  apply br <;> intro h <;> conv => whnf
  · refine IdxN.of (by decide) (by decide) ?_
    conv => whnf
    refine LoadN.of hs 1 rfl rfl ?_
    conv => whnf
    refine CallN.pure (neg_spec a.n ha _) fun v V1 _ hV hv => ?_
    subst hv
    conv => whnf
    refine CallN.pure (whole_spec (fits (-a.n)) _) fun v V1 _ hV hv => ?_
    subst hv
    conv => whnf
    refine ret_pure ?_
    simp only [beq_iff_eq] at h
    simp only [unX, h, if_true]
    rfl
  · apply br <;> intro h2 <;> conv => whnf
    · refine IdxN.of (by decide) (by decide) ?_
      conv => whnf
      refine LoadN.of hs 1 rfl rfl ?_
      conv => whnf
      refine CallN.pure (truth_spec (a.n == 0) _) fun v V1 _ hV hv => ?_
      subst hv
      conv => whnf
      refine ret_pure ?_
      simp only [beq_iff_eq, beq_eq_false_iff_ne, ne_eq] at h h2
      simp only [unX, h, if_false]
      rfl
    · simp only [beq_iff_eq, beq_eq_false_iff_ne, ne_eq] at h h2
      omega
theorem vcells_two {V : View} {p off : Nat} {a b : Val} (hs : V.has p off (vcells a ++ vcells b)) : V.has p off (vcells a) ∧ V.has p (off + 3) (vcells b) := ⟨has_part hs 0 3, has_part hs 3 3⟩
theorem does2_spec (op : Int) (hop : 5 ≤ op ∧ op ≤ 13) (a b : Val) (ha : InR a.n) (hb : InR b.n) (p off cap : Nat) (V : View) (hs : V.has p off (vcells a ++ vcells b)) :
    PSpec 70 [.int .i64 op, .slice (some ⟨p, off, none⟩) 2 cap] V (fun v _ => v = pairX (binX op a b)) := by
  refine pspec pl70 (args := [.v _, .v _]) Try.func70 (by kernel_rfl) rfl ?_
  conv => whnf
  intro b1
  conv => whnf
  apply br <;> intro h3 <;> conv => whnf
  · simp only [beq_iff_eq] at h3; omega
  apply br <;> intro h4 <;> conv => whnf
  · simp only [beq_iff_eq] at h4; omega
  apply br <;> intro h5 <;> conv => whnf
  · refine IdxN.of (by decide) (by decide) ?_
    conv => whnf
    refine LoadN.of hs 1 rfl rfl ?_
    conv => whnf
    refine IdxN.of (by decide) (by decide) ?_
    conv => whnf
    refine LoadN.of hs 4 rfl rfl ?_
    conv => whnf
    refine CallN.pure (add_spec a.n b.n ha hb _) fun v V1 _ hV hv => ?_
    subst hv
    refine Prot.refl ?_
    conv => whnf
    refine CallN.pure (whole_spec (fits (a.n + b.n)) _) fun v V1 _ hV hv => ?_
    subst hv
    refine Prot.refl ?_
    conv => whnf
    refine ret_pure ?_
    simp only [beq_iff_eq] at h5
    subst h5
    rfl
  apply br <;> intro h6 <;> conv => whnf
  · refine IdxN.of (by decide) (by decide) ?_
    conv => whnf
    refine LoadN.of hs 1 rfl rfl ?_
    conv => whnf
    refine IdxN.of (by decide) (by decide) ?_
    conv => whnf
    refine LoadN.of hs 4 rfl rfl ?_
    conv => whnf
    refine CallN.pure (sub_spec a.n b.n ha hb _) fun v V1 _ hV hv => ?_
    subst hv
    refine Prot.refl ?_
    conv => whnf
    refine CallN.pure (whole_spec (fits (a.n - b.n)) _) fun v V1 _ hV hv => ?_
    subst hv
    refine Prot.refl ?_
    conv => whnf
    refine ret_pure ?_
    simp only [beq_iff_eq] at h6
    subst h6
    rfl
  apply br <;> intro h7 <;> conv => whnf
  · refine IdxN.of (by decide) (by decide) ?_
    conv => whnf
    refine LoadN.of hs 1 rfl rfl ?_
    conv => whnf
    refine IdxN.of (by decide) (by decide) ?_
    conv => whnf
    refine LoadN.of hs 4 rfl rfl ?_
    conv => whnf
    refine CallN.pure (mul_spec a.n b.n ha hb _) fun v V1 _ hV hv => ?_
    subst hv
    refine Prot.refl ?_
    conv => whnf
    refine CallN.pure (whole_spec (fits (a.n * b.n)) _) fun v V1 _ hV hv => ?_
    subst hv
    refine Prot.refl ?_
    conv => whnf
    refine ret_pure ?_
    simp only [beq_iff_eq] at h7
    subst h7
    rfl
  refine IdxN.of (by decide) (by decide) ?_
  conv => whnf
  refine LoadN.of hs 0 rfl rfl ?_
  conv => whnf
  refine IdxN.of (by decide) (by decide) ?_
  conv => whnf
  refine LoadN.of hs 3 rfl rfl ?_
  conv => whnf
  refine CallN.pure (compare_spec a b _) fun v V1 _ hV hv => ?_
  subst hv
  refine Prot.refl ?_
  conv => whnf
  apply br <;> intro h8 <;> conv => whnf
  · refine CallN.pure (truth_spec (cmpV a b == 0) _) fun v V1 _ hV hv => ?_
    subst hv
    conv => whnf
    refine ret_pure ?_
    simp only [beq_iff_eq] at h8
    subst h8
    rfl
  apply br <;> intro h9 <;> conv => whnf
  · refine CallN.pure (truth_spec (cmpV a b != 0) _) fun v V1 _ hV hv => ?_
    subst hv
    conv => whnf
    refine ret_pure ?_
    simp only [beq_iff_eq] at h9
    subst h9
    rfl
  apply br <;> intro h10 <;> conv => whnf
  · refine CallN.pure (truth_spec (decide (cmpV a b < 0)) _) fun v V1 _ hV hv => ?_
    subst hv
    conv => whnf
    refine ret_pure ?_
    simp only [beq_iff_eq] at h10
    subst h10
    rfl
  apply br <;> intro h11 <;> conv => whnf
  · refine CallN.pure (truth_spec (decide (cmpV a b ≤ 0)) _) fun v V1 _ hV hv => ?_
    subst hv
    conv => whnf
    refine ret_pure ?_
    simp only [beq_iff_eq] at h11
    subst h11
    rfl
  apply br <;> intro h12 <;> conv => whnf
  · refine CallN.pure (truth_spec (decide (0 < cmpV a b)) _) fun v V1 _ hV hv => ?_
    subst hv
    conv => whnf
    refine ret_pure ?_
    simp only [beq_iff_eq] at h12
    subst h12
    rfl
  apply br <;> intro h13 <;> conv => whnf
  · refine CallN.pure (truth_spec (decide (0 ≤ cmpV a b)) _) fun v V1 _ hV hv => ?_
    subst hv
    conv => whnf
    refine ret_pure ?_
    simp only [beq_iff_eq] at h13
    subst h13
    rfl
  simp only [beq_eq_false_iff_ne, ne_eq] at *
  omega
theorem one_spec (op : Int) (V : View) : PSpec 68 [.int .i64 op] V (fun v _ => v = .int .i64 (if op = 3 ∨ op = 4 then 1 else 0)) := by
  refine pspec [] (args := [.v _]) Try.func68 (by kernel_rfl) rfl ?_
  conv => whnf
  apply br <;> intro h <;> conv => whnf
  · refine ret_pure ?_
    simp_all [packVals]
  · apply br <;> intro h2 <;> conv => whnf
    · refine ret_pure ?_
      simp_all [packVals]
    · refine ret_pure ?_
      simp_all [packVals]
end Go.Proofs.Ytenpginanhnkbaa
