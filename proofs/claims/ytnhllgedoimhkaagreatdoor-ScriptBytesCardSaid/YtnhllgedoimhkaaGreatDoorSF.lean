/- One part of a proof: an evaluator of the model, shown right, and contracts that it yields. No condition beyond those that each theorem names. -/
import Derived.Test.YtnhllgedoimhkaaGreatDoorSD
import Derived.Test.YtnhllgedoimhkaaGreatDoorSE
set_option linter.unusedSimpArgs false
set_option linter.unusedVariables false
set_option linter.unusedSectionVars false
set_option linter.deprecated false
section
namespace Go.Proofs.LB
open Go.X
set_option maxRecDepth 100000
theorem cloneW0_spec (wb : Option Addr) (wc : Nat) (V : View) : PSpec 43 [.slice wb 0 wc] V (fun v _ => ∃ b c, v = .slice b 0 c) := by
 refine does_of_zfun [] mixed (args := [.v _]) (ms := []) Tryz.func43 (by kernel_rfl) rfl ?_; conv => whnf
 rcases wb with _ | a
 ·repeat' ((first | refine br_t rfl ?_ | refine br_f rfl ?_ | refine IdxN.lit rfl rfl ?_ | intro _); conv => whnf)
  exact ret_pure ⟨_, _, rfl⟩
 ·repeat' ((first | refine br_t rfl ?_ | refine br_f rfl ?_ | refine IdxN.lit rfl rfl ?_ | intro _); conv => whnf)
  rename_i b1 V1 hV1 hb1
  refine AppN.toR 0 rfl [] [] hb1 rfl (.inl rfl) rfl rfl (by omega) (by decide) fun base' cap' V3 hV3 hc3 _ => ?_; conv => whnf
  repeat' ((first | refine br_t rfl ?_ | refine br_f rfl ?_ | refine IdxN.lit rfl rfl ?_ | intro _); conv => whnf)
  exact ret_pure ⟨_, _, rfl⟩
theorem concat00_spec (b : Option Addr) (c : Nat) (V : View) : PSpec 44 [.slice b 0 c] V (fun v _ => v = .slice none 0 0) := by
 refine does_of_zfun [] mixed (args := [.v _]) (ms := []) Tryz.func44 (by kernel_rfl) rfl ?_; conv => whnf
 repeat' ((first | refine br_t rfl ?_ | refine br_f rfl ?_ | refine IdxN.lit rfl rfl ?_ | intro _); conv => whnf)
 refine unrollz 1 ?_; conv => whnf
 repeat' ((first | refine br_t rfl ?_ | refine br_f rfl ?_ | refine IdxN.lit rfl rfl ?_ | intro _); conv => whnf)
 refine CallN.pure (growW0_spec _) fun v V1 _ hV1 hv => ?_
 subst hv; conv => whnf
 repeat' ((first | refine br_t rfl ?_ | refine br_f rfl ?_ | refine IdxN.lit rfl rfl ?_ | intro _); conv => whnf)
 refine unrollz 1 ?_; conv => whnf
 repeat' ((first | refine br_t rfl ?_ | refine br_f rfl ?_ | refine IdxN.lit rfl rfl ?_ | intro _); conv => whnf)
 exact ret_pure rfl
theorem merge0_spec (wb : Option Addr) (wc : Nat) (V : View) : PSpec 32 [.slice wb 0 wc, .slice none 0 0] V (fun v V' => ∃ b c, v = .slice b 0 c ∧ V'.cells (.slice b 0 c) []) := by
 refine does_of_zfun [] mixed (args := [.v _, .v _]) (ms := []) Tryz.func32 (by kernel_rfl) rfl ?_; conv => whnf
 refine CallN.pure (cloneW0_spec wb wc _) fun v V1 _ hV1 ⟨b, c, hv⟩ => ?_
 subst hv; conv => whnf
 repeat' ((first | refine br_t rfl ?_ | refine br_f rfl ?_ | refine IdxN.lit rfl rfl ?_ | intro _); conv => whnf)
 refine unrollz 1 ?_; conv => whnf
 repeat' ((first | refine br_t rfl ?_ | refine br_f rfl ?_ | refine IdxN.lit rfl rfl ?_ | intro _); conv => whnf)
 refine CallN.pure (concat00_spec b c _) fun v V2 _ hV2 hv => ?_
 subst hv; conv => whnf
 repeat' ((first | refine br_t rfl ?_ | refine br_f rfl ?_ | refine IdxN.lit rfl rfl ?_ | intro _); conv => whnf)
 refine AppN.toR 0 rfl [] [] (show View.cells _ (.slice none 0 0) [] from rfl) rfl (.inl rfl) rfl rfl (by omega) (by decide) fun base' cap' V5 hV5 hc5 hcap5 => ?_; conv => whnf
 repeat' ((first | refine br_t rfl ?_ | refine br_f rfl ?_ | refine IdxN.lit rfl rfl ?_ | intro _); conv => whnf)
 exact ret_pure ⟨_, _, rfl, hc5⟩
set_option maxHeartbeats 1000000 in
theorem encode0_spec (base : Option Addr) (cap : Nat) (V : View) : PSpec 21 [.slice base 0 cap] V (fun v V' => BytesV [] v V') := by
 refine does_of_zfun [] mixed (args := [.v _]) (ms := []) Tryz.func21 (by kernel_rfl) rfl ?_; conv => whnf
 repeat' ((first | refine br_t rfl ?_ | refine br_f rfl ?_ | refine IdxN.lit rfl rfl ?_ | intro _); conv => whnf)
 refine unrollz 1 ?_; conv => whnf
 repeat' ((first | refine br_t rfl ?_ | refine br_f rfl ?_ | refine IdxN.lit rfl rfl ?_ | intro _); conv => whnf)
 refine CallN.pure (wrapped_spec [] [] none 0 _ BsC.nil rfl (Nat.zero_le _)) fun v V1 _ hV1 ⟨wb, wc, ws, hv, hws, hw⟩ => ?_
 subst hv; conv => whnf
 repeat' ((first | refine br_t rfl ?_ | refine br_f rfl ?_ | refine IdxN.lit rfl rfl ?_ | intro _); conv => whnf)
 refine CallN.pure (merge0_spec wb wc _) fun v V2 _ hV2 ⟨b, c, hv, hc⟩ => ?_
 subst hv; conv => whnf
 repeat' ((first | refine br_t rfl ?_ | refine br_f rfl ?_ | refine IdxN.lit rfl rfl ?_ | intro _); conv => whnf)
 refine CallN.pure (concatB_spec [] [] b c _ BsC.nil hc (Nat.zero_le _) (Nat.zero_le _)) fun v V3 _ hV3 hv => ?_
 obtain ⟨b2, c2, hv, hbc⟩ := hv
 subst hv; conv => whnf
 repeat' ((first | refine br_t rfl ?_ | refine br_f rfl ?_ | refine IdxN.lit rfl rfl ?_ | intro _); conv => whnf)
 exact ret_pure ⟨_, _, rfl, hbc⟩
theorem take_map_succ {l : List Val} {i : Nat} {x : Val} (hx : l[i]? = some x) : (l.take (i + 1)).map octS = (l.take i).map octS ++ [octS x] := by rw [List.take_succ, hx]; simp
set_option maxHeartbeats 2000000 in
theorem encode1_spec (l : List Val) (base : Option Addr) (cap : Nat) (V : View) (h : ValsAt V l base) (h0 : 0 < l.length) (hl : l.length ≤ 1000) : PSpec 21 [.slice base l.length cap] V (fun v V' => BytesV (encS l) v V') := by
 refine does_of_zfun [] mixed (args := [.v _]) (ms := []) Tryz.func21 (by kernel_rfl) rfl ?_; conv => whnf
 repeat' ((first | refine br_t rfl ?_ | refine br_f rfl ?_ | refine IdxN.lit rfl rfl ?_ | intro _); conv => whnf)
 refine loopz (σ := Nat × List Value × (Option Addr × Nat) × Option Addr × Nat) (fun z => [(3, .row 18), (4, .row 22), (7, .v (.slice base l.length cap)), (8, .v (.int .i64 (l.length : Int))), (9, .v (.int .i64 (z.1 : Int)))])
  (fun z => [(18, .row (.slice z.2.2.1.1 z.1 z.2.2.1.2) 37 1 z.1), (22, .row (.slice z.2.2.2.1 z.1 z.2.2.2.2) 3 1 z.1)])
  (fun j z V' => V.le V' ∧ z.1 ≤ l.length ∧ l.length - z.1 = j ∧ V'.cells (.slice z.2.2.1.1 z.1 z.2.2.1.2) z.2.1 ∧ BsC V' ((l.take z.1).map octS) z.2.1 ∧ V'.cells (.slice z.2.2.2.1 z.1 z.2.2.2.2) (ints z.1)) l.length (0, [], (none, 0), none, 0) ?_ ?_ ?_ ?_
 ·repeat' (first | exact sees_nil | refine sees_cons rfl rfl rfl ?_)
 ·repeat' (first | exact keeps_nil | refine keeps_cons rfl ?_ | refine keeps_free ?_)
 ·exact ⟨View.le_refl _, Nat.zero_le _, Nat.sub_zero _, rfl, BsC.nil, rfl⟩
 rintro j ⟨i, cs, ⟨ab, ak⟩, bb, bk⟩ V' ⟨hV, hi, hj, hxs, hbs, hos⟩
 simp only at hi hj hxs hbs hos
 have hcl : cs.length = i := by rw [hbs.len, List.length_map, List.length_take]; omega
 conv => whnf
 apply br <;> intro h3 <;> conv => whnf
 ·have h3 : i < l.length := by have := of_decide_eq_true h3; omega
  obtain ⟨⟨k, s, t⟩, hx⟩ : ∃ x, l[i]? = some x := ⟨_, List.getElem?_eq_getElem h3⟩
  obtain ⟨p, off, hb, hh⟩ := h.at hx
  subst hb
  refine IdxN.of (by omega) (by omega) ?_; conv => whnf
  refine LoadN.of (hh.mono le_auto) 0 rfl rfl ?_; conv => whnf
  repeat' ((first | refine br_t rfl ?_ | refine br_f rfl ?_ | refine IdxN.lit rfl rfl ?_ | intro _); conv => whnf)
  refine CallN.pure (octets_spec ⟨k, s, t⟩ _) fun v V2 _ hV2 hv => ?_
  have hv2 := hv
  obtain ⟨ob, oc, hv, hbc⟩ := hv
  subst hv; conv => whnf
  repeat' ((first | refine br_t rfl ?_ | refine br_f rfl ?_ | refine IdxN.lit rfl rfl ?_ | intro _); conv => whnf)
  rename_i b1 V3 hV3 g3
  refine AppN.to (i + 1) rfl cs [.slice ob (octS ⟨k, s, t⟩).length oc] (hxs.mono le_auto) (by rw [hcl]; exact (Nat.mul_one _).symm) g3 rfl rfl (by omega) (by decide) fun b4 c4 V4 hV4 hc4 => ?_; conv => whnf
  repeat' ((first | refine br_t rfl ?_ | refine br_f rfl ?_ | refine IdxN.lit rfl rfl ?_ | intro _); conv => whnf)
  rename_i b5 V5 hV5 g5
  refine AppN.to (i + 1) rfl (ints i) [.int .i64 (i : Nat)] (hos.mono le_auto) (by rw [ints_len]; exact (Nat.mul_one _).symm) g5 rfl rfl (by omega) (by decide) fun b6 c6 V6 hV6 hc6 => ?_; conv => whnf
  repeat' ((first | refine br_t rfl ?_ | refine br_f rfl ?_ | refine IdxN.lit rfl rfl ?_ | intro _); conv => whnf)
  have hwr := wrap_nat (i := i) (by omega)
  rw [hwr]
  refine ⟨j - 1, (i + 1, cs ++ [.slice ob (octS ⟨k, s, t⟩).length oc], (b4, c4), b6, c6), by omega, ?_, ?_, le_auto, by show i + 1 ≤ _; omega, by show l.length - (i + 1) = _; omega, (hc4.mono le_auto), ?_, ?_⟩
  ·repeat' (first | exact sees_nil | refine sees_cons rfl rfl rfl ?_)
  ·repeat' (first | exact keeps_nil | refine keeps_cons rfl ?_ | refine keeps_free ?_)
  ·show BsC V6 ((l.take (i + 1)).map octS) _
   rw [take_map_succ hx]
   exact (hbs.mono le_auto).snoc (hv2.mono le_auto)
  ·show V6.cells (.slice b6 (i + 1) c6) (ints (i + 1))
   rw [ints_succ]
   exact hc6
 ·have h3 : ¬ i < l.length := by have := of_decide_eq_false h3; omega
  have ht : l.take i = l := List.take_of_length_le (by omega)
  rw [ht] at hbs
  subst hcl
  have hfl : (l.map octS).flatten = encS l := rfl
  have hel := enc_len l
  repeat' ((first | refine br_t rfl ?_ | refine br_f rfl ?_ | refine IdxN.lit rfl rfl ?_ | intro _); conv => whnf)
  refine CallN.pure (wrapped_spec (l.map octS) cs ab ak _ hbs hxs (by omega)) fun v V1 _ hV1 ⟨wb, wc, ws, hv, hws, hw⟩ => ?_
  subst hv; conv => whnf
  repeat' ((first | refine br_t rfl ?_ | refine br_f rfl ?_ | refine IdxN.lit rfl rfl ?_ | intro _); conv => whnf)
  refine CallN.pure (merge_spec (l.map octS) cs ws wb bb wc bk _ (hbs.mono le_auto) hw hws (hos.mono le_auto) (by omega) (by omega)) fun v V2 _ hV2 ⟨b, c, hv, hc⟩ => ?_
  subst hv; conv => whnf
  repeat' ((first | refine br_t rfl ?_ | refine br_f rfl ?_ | refine IdxN.lit rfl rfl ?_ | intro _); conv => whnf)
  refine CallN.pure (concatB_spec (l.map octS) cs b c _ (hbs.mono le_auto) hc (by omega) (by rw [hfl]; omega)) fun v V3 _ hV3 hv => ?_
  rw [hfl] at hv
  obtain ⟨b2, c2, hv, hbc⟩ := hv
  subst hv; conv => whnf
  repeat' ((first | refine br_t rfl ?_ | refine br_f rfl ?_ | refine IdxN.lit rfl rfl ?_ | intro _); conv => whnf)
  exact ret_pure ⟨_, _, rfl, hbc⟩
theorem encode_spec (l : List Val) (base : Option Addr) (cap : Nat) (V : View) (h : ValsAt V l base) (hl : l.length ≤ 1000) : PSpec 21 [.slice base l.length cap] V (fun v V' => BytesV (encS l) v V') := by
 by_cases h0 : 0 < l.length
 ·exact encode1_spec l base cap V h h0 hl
 ·have : l = [] := List.eq_nil_of_length_eq_zero (by omega)
  subst this
  exact encode0_spec base cap V
end Go.Proofs.LB
end
