/- One part of a proof: an evaluator of the model, shown right, and contracts that it yields. No condition beyond those that each theorem names. -/
import Derived.Test.YtnhllgedoimhkaaGreatDoorProg
import Derived.KernelRfl
import Derived.IntWalk
import Derived.Test.YtnhllgedoimhkaaGreatDoorXY
set_option linter.unusedSimpArgs false
set_option linter.unusedVariables false
set_option linter.unusedSectionVars false
set_option linter.deprecated false
section
namespace Go.Proofs.LB
open Go.X
set_option maxRecDepth 100000
theorem mixed : Tryz.prog.follows .mixedOrders = true := by kernel_rfl
def PSpec (f : FuncId) (args : List Value) (V : View) (R : Value → View → Prop) : Prop := Does Tryz.prog f args V [] (fun v V' _ => R v V')
theorem ret_pure {v : Value} {mem : Nat → Option Res} {V : View} {R : Value → View → Prop} (h : R v V) : RetN v mem V (fun v V _ => R v V) := ⟨[], List.nodup_nil, [], rfl, h⟩
theorem br {c : Bool} {A B : Prop} (h1 : c = true → A) (h2 : c = false → B) : Br c A B := ⟨h1, h2⟩
theorem br_t {c : Bool} {A B : Prop} (h : c = true) (a : A) : Br c A B := ⟨fun _ => a, fun hc => by rw [h] at hc; cases hc⟩
theorem br_f {c : Bool} {A B : Prop} (h : c = false) (b : B) : Br c A B := ⟨fun hc => (by rw [h] at hc; cases hc), fun _ => b⟩
theorem wrapE (x : Int) : IntKind.i64.wrap x = (x + 9223372036854775808) % 18446744073709551616 - 9223372036854775808 := IntKind.wrap_i64 x
theorem has_part {V : View} {b off : Nat} {l : List Value} (h : V.has b off l) (k n : Nat) : V.has b (off + k) ((l.drop k).take n) := fun i v hi => by
 rw [List.getElem?_take] at hi
 split at hi
 ·rw [List.getElem?_drop] at hi
  have := h (k + i) v hi
  rwa [← Nat.add_assoc] at this
 ·cases hi
theorem LoadN.of {V : View} {mem : Nat → Option Res} {b off off0 n : Nat} {K : List Value → Prop} {l : List Value} (h : V.has b off0 l) (k : Nat) (ho : off = off0 + k) (hn : ((l.drop k).take n).length = n) (hK : K ((l.drop k).take n)) : LoadN V mem b off n K :=
 ⟨⟨_, hn, .inl (by subst ho; exact has_part h k n), hK⟩⟩
theorem IdxN.of {b off len size : Nat} {i : Int} {K : Nat → Nat → Prop} (h0 : 0 ≤ i) (hl : i < len) (hK : K b (off + i.toNat * size)) : IdxN (some ⟨b, off, none⟩) len i size K := ⟨⟨b, off, rfl, h0, hl, hK⟩⟩
theorem IdxN.lit {b off len size : Nat} {i : Int} {K : Nat → Nat → Prop} (h0 : decide (0 ≤ i) = true) (hl : decide (i < (len : Int)) = true) (hK : K b (off + i.toNat * size)) : IdxN (some ⟨b, off, none⟩) len i size K :=
 IdxN.of (of_decide_eq_true h0) (of_decide_eq_true hl) hK
theorem wrap_nat {i : Nat} (h : i ≤ 2000000) : IntKind.i64.wrap ((i : Int) + 1) = ((i + 1 : Nat) : Int) := by rw [wrapE]; omega
structure Lab where
 base : Option Addr
 cap : Nat
 l : List Int
def Lab.slice (a : Lab) : Value := .slice a.base a.l.length a.cap
structure Lab.at (a : Lab) (V : View) : Prop where
 has : a.l ≠ [] → ∃ p off, a.base = some ⟨p, off, none⟩ ∧ V.has p off (a.l.map (Value.int .u16))
 num : ∀ x ∈ a.l, 0 ≤ x ∧ x < 65536
theorem Lab.at.mono {a : Lab} {V V' : View} (h : a.at V) (hV : V.le V') : a.at V' := ⟨fun hn => (let ⟨p, off, hb, hh⟩ := h.has hn; ⟨p, off, hb, hh.mono hV⟩), h.num⟩
theorem Lab.at.get {a : Lab} {V : View} (h : a.at V) {i : Nat} (hi : i < a.l.length) : ∃ p off x, a.base = some ⟨p, off, none⟩ ∧ a.l[i]? = some x ∧ V.has p (off + i * 1) [.int .u16 x] ∧ 0 ≤ x ∧ x < 65536 := by
 obtain ⟨p, off, hb, hh⟩ := h.has (fun e => by rw [e] at hi; exact absurd hi (Nat.not_lt_zero _))
 refine ⟨p, off, a.l[i], hb, List.getElem?_eq_getElem hi, fun j v hj => ?_, h.num _ (List.getElem_mem hi)⟩
 cases j with
 | zero =>
  simp only [List.getElem?_cons_zero, Option.some.injEq] at hj
  subst hj
  rw [Nat.mul_one]; exact hh i _ (by simp [List.getElem?_eq_getElem hi])
 | succ j => simp at hj
def Rising (l : List Int) : Prop := ∀ (i : Nat) (x y : Int), l[i]? = some x → l[i + 1]? = some y → x < y
def lexS : List Int → List Int → Int
 | [], [] => 0
 | [], _ :: _ => -1
 | _ :: _, [] => 1
 | a :: l, b :: m => if a < b then -1 else if b < a then 1 else lexS l m
def cmpA (l m : List Int) : Int := if l.length < m.length then -1 else if m.length < l.length then 1 else lexS l m
theorem rise_ge {l : List Int} (hn : ∀ x ∈ l, 0 ≤ x ∧ x < 65536) : ∀ (i : Nat) (x : Int), (∀ (k : Nat) (x y : Int), k < i → l[k]? = some x → l[k + 1]? = some y → x < y) → l[i]? = some x → (i : Int) ≤ x
 | 0, x, _, hx => (hn x (List.mem_of_getElem? hx)).1
 | i + 1, x, hr, hx => by
  have hlt : i < l.length := by have := (List.getElem?_eq_some_iff.1 hx).1; omega
  have h1 := rise_ge hn i l[i] (fun k x y hk => hr k x y (by omega)) (List.getElem?_eq_getElem hlt)
  have h2 := hr i _ _ (by omega) (List.getElem?_eq_getElem hlt) hx
  omega
theorem may_spec (a : Lab) (V : View) (h : a.at V) : PSpec 7 [a.slice] V (fun v _ => ∃ b, v = .bool b ∧ (b = true ↔ Rising a.l ∧ a.l.length ≤ 8)) := by
 obtain ⟨base, cap, l⟩ := a
 show PSpec _ [.slice base l.length cap] V (fun v _ => ∃ b, v = .bool b ∧ (b = true ↔ Rising l ∧ l.length ≤ 8))
 refine does_of_zfun [(4, [(0, []), (1, []), (2, []), (3, []), (4, []), (5, []), (6, []), (7, []), (8, []), (9, [])])] mixed (args := [.v _]) (ms := []) Tryz.func7 (by kernel_rfl) rfl ?_; conv => whnf
 repeat' ((first | refine br_t rfl ?_ | refine br_f rfl ?_ | refine IdxN.lit rfl rfl ?_ | intro _); conv => whnf)
 refine loopz (σ := Nat) (fun i => [(0, .v (.slice base l.length cap)), (3, .v (.int .i64 ((i : Int) + 1)))]) (fun _ => [])
  (fun j i V' => V.le V' ∧ (i ≤ l.length) ∧ l.length - i = j ∧ ∀ (k : Nat) (x y : Int), k < i → l[k]? = some x → l[k + 1]? = some y → x < y) l.length 0 ?_ ?_ ?_ ?_
 ·repeat' (first | exact sees_nil | refine sees_cons rfl rfl rfl ?_)
 ·exact keeps_nil
 ·exact ⟨View.le_refl _, Nat.zero_le _, Nat.sub_zero _, fun k x y hk => absurd hk (Nat.not_lt_zero _)⟩
 rintro j i V' ⟨hV, hi, hj, hr⟩
 conv => whnf
 apply br <;> intro h3 <;> conv => whnf
 ·have h3 : i + 1 < l.length := by have := of_decide_eq_true h3; omega
  obtain ⟨p, off, x, hb, hx, hax, hx0, hx1⟩ := h.get (i := i) (by show i < l.length; omega)
  obtain ⟨p', off', y, hb', hy, hay, hy0, hy1⟩ := h.get (i := i + 1) (by show i + 1 < l.length; omega)
  simp only at hb hb' hx hy
  subst hb
  cases hb'
  have hge := rise_ge h.num i x hr hx
  have hw : IntKind.i64.wrap ((i : Int) + 1 - 1) = (i : Int) := by rw [wrapE]; omega
  rw [hw]
  refine IdxN.of (by omega) (by omega) ?_; conv => whnf
  refine LoadN.of (hax.mono le_auto) 0 rfl rfl ?_; conv => whnf
  refine IdxN.of (by omega) (by omega) ?_; conv => whnf
  refine LoadN.of (hay.mono le_auto) 0 rfl rfl ?_; conv => whnf
  repeat' ((first | refine br_t rfl ?_ | refine br_f rfl ?_ | refine IdxN.lit rfl rfl ?_ | intro _); conv => whnf)
  apply br <;> intro h4 <;> conv => whnf
  ·have h4 : y ≤ x := of_decide_eq_true h4
   refine ret_pure ⟨_, rfl, ?_⟩
   constructor
   ·intro e; cases e
   ·rintro ⟨hr, _⟩
    have := hr i x y hx hy
    omega
  ·have h4 : ¬ y ≤ x := of_decide_eq_false h4
   have hw : IntKind.i64.wrap ((i : Int) + 1 + 1) = ((i + 1 : Nat) : Int) + 1 := by rw [wrapE]; omega
   rw [hw]
   refine ⟨j - 1, i + 1, by omega, ?_, ?_, hV, by omega, by omega, fun k u v hk hu hv => ?_⟩
   ·repeat' (first | exact sees_nil | refine sees_cons rfl rfl rfl ?_)
   ·exact keeps_nil
   ·by_cases hki : k < i
    ·exact hr k u v hki hu hv
    ·obtain rfl : k = i := by omega
     rw [hx] at hu; rw [hy] at hv
     cases hu; cases hv
     omega
 ·have h3 : ¬ i + 1 < l.length := by have := of_decide_eq_false h3; omega
  repeat' ((first | refine br_t rfl ?_ | refine br_f rfl ?_ | refine IdxN.lit rfl rfl ?_ | intro _); conv => whnf)
  refine ret_pure ⟨_, rfl, ?_⟩
  rw [decide_eq_true_iff]
  have hrise : Rising l := fun k x y hx hy => hr k x y (by have := (List.getElem?_eq_some_iff.1 hy).1; omega) hx hy
  constructor
  ·intro h8
   exact ⟨hrise, by omega⟩
  ·rintro ⟨_, h8⟩
   omega
theorem mem_take_step {l : List Int} {i : Nat} {x y : Int} (hx : l[i]? = some x) : (y ∈ l.take (i + 1)) ↔ (y ∈ l.take i ∨ y = x) := by
 rw [List.take_add_one, hx]
 simp
theorem take_all {l : List Int} {i : Nat} (h : ¬ i < l.length) : l.take i = l := List.take_of_length_le (by omega)
theorem lexS_drop {l m : List Int} {i : Nat} {x y : Int} (hx : l[i]? = some x) (hy : m[i]? = some y) : lexS (l.drop i) (m.drop i) = if x < y then -1 else if y < x then 1 else lexS (l.drop (i + 1)) (m.drop (i + 1)) := by
 have h1 := List.getElem?_eq_some_iff.1 hx
 have h2 := List.getElem?_eq_some_iff.1 hy
 obtain ⟨h1, e1⟩ := h1
 obtain ⟨h2, e2⟩ := h2
 rw [List.drop_eq_getElem_cons h1, List.drop_eq_getElem_cons h2, e1, e2, lexS]
theorem nanI_spec (x : Int) (V : View) : PSpec 242 [.int .i64 x] V (fun v _ => v = .bool false) := by
 refine does_of_zfun [] mixed (args := [.v _]) (ms := []) Tryz.func242 (by kernel_rfl) rfl ?_; conv => whnf
 repeat' ((first | refine br_t rfl ?_ | refine br_f rfl ?_ | refine IdxN.lit rfl rfl ?_ | intro _); conv => whnf)
 refine ret_pure ?_
 simp
 rfl
theorem nanU_spec (x : Int) (V : View) : PSpec 313 [.int .u16 x] V (fun v _ => v = .bool false) := by
 refine does_of_zfun [] mixed (args := [.v _]) (ms := []) Tryz.func313 (by kernel_rfl) rfl ?_; conv => whnf
 repeat' ((first | refine br_t rfl ?_ | refine br_f rfl ?_ | refine IdxN.lit rfl rfl ?_ | intro _); conv => whnf)
 refine ret_pure ?_
 simp
 rfl
def sgn (x y : Int) : Int := if x < y then -1 else if y < x then 1 else 0
theorem cmpI_spec (x y : Int) (V : View) : PSpec 184 [.int .i64 x, .int .i64 y] V (fun v _ => v = .int .i64 (sgn x y)) := by
 refine does_of_zfun [] mixed (args := [.v _, .v _]) (ms := []) Tryz.func184 (by kernel_rfl) rfl ?_; conv => whnf
 repeat' ((first | refine br_t rfl ?_ | refine br_f rfl ?_ | refine IdxN.lit rfl rfl ?_ | intro _); conv => whnf)
 refine CallN.pure (nanI_spec x _) fun v V1 _ hV1 hv => ?_
 subst hv; conv => whnf
 repeat' ((first | refine br_t rfl ?_ | refine br_f rfl ?_ | refine IdxN.lit rfl rfl ?_ | intro _); conv => whnf)
 refine CallN.pure (nanI_spec y _) fun v V2 _ hV2 hv => ?_
 subst hv; conv => whnf
 repeat' ((first | refine br_t rfl ?_ | refine br_f rfl ?_ | refine IdxN.lit rfl rfl ?_ | intro _); conv => whnf)
 apply br <;> intro h1 <;> conv => whnf
 ·have h1 : x < y := of_decide_eq_true h1
  refine ret_pure ?_
  unfold sgn
  rw [if_pos h1]; rfl
 have h1 : ¬ x < y := of_decide_eq_false h1
 apply br <;> intro h2 <;> conv => whnf
 ·have h2 : y < x := of_decide_eq_true h2
  refine ret_pure ?_
  unfold sgn
  rw [if_neg h1, if_pos h2]; rfl
 have h2 : ¬ y < x := of_decide_eq_false h2
 repeat' ((first | refine br_t rfl ?_ | refine br_f rfl ?_ | refine IdxN.lit rfl rfl ?_ | intro _); conv => whnf)
 refine ret_pure ?_
 unfold sgn
 rw [if_neg h1, if_neg h2]; rfl
theorem cmpU_spec (x y : Int) (V : View) : PSpec 243 [.int .u16 x, .int .u16 y] V (fun v _ => v = .int .i64 (sgn x y)) := by
 refine does_of_zfun [] mixed (args := [.v _, .v _]) (ms := []) Tryz.func243 (by kernel_rfl) rfl ?_; conv => whnf
 repeat' ((first | refine br_t rfl ?_ | refine br_f rfl ?_ | refine IdxN.lit rfl rfl ?_ | intro _); conv => whnf)
 refine CallN.pure (nanU_spec x _) fun v V1 _ hV1 hv => ?_
 subst hv; conv => whnf
 repeat' ((first | refine br_t rfl ?_ | refine br_f rfl ?_ | refine IdxN.lit rfl rfl ?_ | intro _); conv => whnf)
 refine CallN.pure (nanU_spec y _) fun v V2 _ hV2 hv => ?_
 subst hv; conv => whnf
 repeat' ((first | refine br_t rfl ?_ | refine br_f rfl ?_ | refine IdxN.lit rfl rfl ?_ | intro _); conv => whnf)
 apply br <;> intro h1 <;> conv => whnf
 ·have h1 : x < y := of_decide_eq_true h1
  refine ret_pure ?_
  unfold sgn
  rw [if_pos h1]; rfl
 have h1 : ¬ x < y := of_decide_eq_false h1
 apply br <;> intro h2 <;> conv => whnf
 ·have h2 : y < x := of_decide_eq_true h2
  refine ret_pure ?_
  unfold sgn
  rw [if_neg h1, if_pos h2]; rfl
 have h2 : ¬ y < x := of_decide_eq_false h2
 repeat' ((first | refine br_t rfl ?_ | refine br_f rfl ?_ | refine IdxN.lit rfl rfl ?_ | intro _); conv => whnf)
 refine ret_pure ?_
 unfold sgn
 rw [if_neg h1, if_neg h2]; rfl
theorem scompare_spec (a c : Lab) (V : View) (h : a.at V) (hc : c.at V) (h8 : a.l.length ≤ 1000) : PSpec 185 [a.slice, c.slice] V (fun v _ => v = .int .i64 (lexS a.l c.l)) := by
 obtain ⟨base, cap, l⟩ := a
 obtain ⟨base2, cap2, m⟩ := c
 show PSpec _ [.slice base l.length cap, .slice base2 m.length cap2] V (fun v _ => v = .int .i64 (lexS l m))
 replace h8 : l.length ≤ 1000 := h8
 refine does_of_zfun [] mixed (args := [.v _, .v _]) (ms := []) Tryz.func185 (by kernel_rfl) rfl ?_; conv => whnf
 repeat' ((first | refine br_t rfl ?_ | refine br_f rfl ?_ | refine IdxN.lit rfl rfl ?_ | intro _); conv => whnf)
 refine loopz (σ := Nat) (fun i => [(0, .v (.slice base l.length cap)), (1, .v (.slice base2 m.length cap2)), (9, .v (.slice base l.length cap)), (10, .v (.int .i64 (l.length : Int))), (11, .v (.int .i64 (i : Int)))]) (fun _ => [])
  (fun j i V' => V.le V' ∧ (i ≤ l.length) ∧ i ≤ m.length ∧ l.length - i = j ∧ lexS (l.drop i) (m.drop i) = lexS l m) l.length 0 ?_ ?_ ?_ ?_
 ·repeat' (first | exact sees_nil | refine sees_cons rfl rfl rfl ?_)
 ·exact keeps_nil
 ·exact ⟨View.le_refl _, Nat.zero_le _, Nat.zero_le _, Nat.sub_zero _, rfl⟩
 rintro j i V' ⟨hV, hi, hi2, hj, hr⟩
 conv => whnf
 apply br <;> intro h3 <;> conv => whnf
 ·have h3 : i < l.length := by have := of_decide_eq_true h3; omega
  obtain ⟨p, off, x, hb, hx, hax, hx0, hx1⟩ := h.get (i := i) h3
  simp only at hb hx
  subst hb
  refine IdxN.of (by omega) (by omega) ?_; conv => whnf
  refine LoadN.of (hax.mono le_auto) 0 rfl rfl ?_; conv => whnf
  repeat' ((first | refine br_t rfl ?_ | refine br_f rfl ?_ | refine IdxN.lit rfl rfl ?_ | intro _); conv => whnf)
  apply br <;> intro h6 <;> conv => whnf
  ·have h6 : ¬ i < m.length := by have := of_decide_eq_true h6; omega
   refine ret_pure ?_
   rw [List.drop_of_length_le (l := m) (by omega), List.drop_eq_getElem_cons h3] at hr
   rw [← hr]
   rfl
  have h6 : i < m.length := by have := of_decide_eq_false h6; omega
  obtain ⟨p', off', y, hb', hy, hay, hy0, hy1⟩ := hc.get (i := i) h6
  simp only at hb' hy
  subst hb'
  rw [lexS_drop hx hy] at hr
  refine IdxN.of (by omega) (by omega) ?_; conv => whnf
  refine LoadN.of (hay.mono le_auto) 0 rfl rfl ?_; conv => whnf
  repeat' ((first | refine br_t rfl ?_ | refine br_f rfl ?_ | refine IdxN.lit rfl rfl ?_ | intro _); conv => whnf)
  refine CallN.pure (cmpU_spec x y _) fun v V1 _ hV1 hv => ?_
  subst hv; conv => whnf
  apply br <;> intro h4 <;> conv => whnf
  ·have h4 : sgn x y ≠ 0 := by simpa using h4
   refine ret_pure ?_
   rw [← hr]
   unfold sgn at *
   show Value.int .i64 _ = _
   split
   ·rfl
   ·split
    ·rfl
    ·rename_i h1 h2; rw [if_neg h1, if_neg h2] at h4; exact absurd rfl h4
  have h4 : sgn x y = 0 := by simpa using h4
  have hxy : ¬ x < y ∧ ¬ y < x := by
   unfold sgn at h4
   split at h4
   ·cases h4
   ·split at h4
    ·cases h4
    ·exact ⟨by assumption, by assumption⟩
  rw [if_neg hxy.1, if_neg hxy.2] at hr
  have hw := wrap_nat (i := i) (by omega)
  repeat' ((first | refine br_t rfl ?_ | refine br_f rfl ?_ | refine IdxN.lit rfl rfl ?_ | intro _); conv => whnf)
  rw [hw]
  refine ⟨j - 1, i + 1, by omega, ?_, ?_, View.le_trans hV hV1, by omega, by omega, by omega, hr⟩
  ·repeat' (first | exact sees_nil | refine sees_cons rfl rfl rfl ?_)
  ·exact keeps_nil
 ·have h3 : ¬ i < l.length := by have := of_decide_eq_false h3; omega
  rw [List.drop_of_length_le (by omega)] at hr
  apply br <;> intro h5 <;> conv => whnf
  ·have h5 : l.length < m.length := by have := of_decide_eq_true h5; omega
   refine ret_pure ?_
   rw [List.drop_eq_getElem_cons (by omega : i < m.length)] at hr
   rw [← hr]; rfl
  ·have h5 : ¬ l.length < m.length := by have := of_decide_eq_false h5; omega
   refine ret_pure ?_
   rw [List.drop_of_length_le (by omega)] at hr
   rw [← hr]; rfl
theorem or_spec (p off c : Nat) (x y : Int) (V : View) (h : V.has p off [.int .i64 x, .int .i64 y]) : PSpec 183 [.slice (some ⟨p, off, none⟩) 2 c] V (fun v _ => v = .int .i64 (if x = 0 then y else x)) := by
 refine does_of_zfun [] mixed (args := [.v _]) (ms := []) Tryz.func183 (by kernel_rfl) rfl ?_; conv => whnf
 repeat' ((first | refine br_t rfl ?_ | refine br_f rfl ?_ | refine IdxN.lit rfl rfl ?_ | intro _); conv => whnf)
 refine unrollz 3 ?_; conv => whnf
 repeat' ((first | refine br_t rfl ?_ | refine br_f rfl ?_ | refine IdxN.lit rfl rfl ?_ | intro _); conv => whnf)
 refine LoadN.of (h.mono le_auto) 0 rfl rfl ?_; conv => whnf
 repeat' ((first | refine br_t rfl ?_ | refine br_f rfl ?_ | refine IdxN.lit rfl rfl ?_ | intro _); conv => whnf)
 apply br <;> intro h1 <;> conv => whnf
 ·have h1 : x ≠ 0 := by simpa using h1
  refine ret_pure ?_
  rw [if_neg h1]; rfl
 have h1 : x = 0 := by simpa using h1
 repeat' ((first | refine br_t rfl ?_ | refine br_f rfl ?_ | refine IdxN.lit rfl rfl ?_ | intro _); conv => whnf)
 refine LoadN.of (h.mono le_auto) 1 rfl rfl ?_; conv => whnf
 repeat' ((first | refine br_t rfl ?_ | refine br_f rfl ?_ | refine IdxN.lit rfl rfl ?_ | intro _); conv => whnf)
 apply br <;> intro h2 <;> conv => whnf
 ·refine ret_pure ?_
  rw [if_pos h1]; rfl
 have h2 : y = 0 := by simpa using h2
 repeat' ((first | refine br_t rfl ?_ | refine br_f rfl ?_ | refine IdxN.lit rfl rfl ?_ | intro _); conv => whnf)
 refine ret_pure ?_
 rw [if_pos h1, h2]; rfl
theorem lcompare_spec (a c : Lab) (V : View) (h : a.at V) (hc : c.at V) (h8 : a.l.length ≤ 1000) : PSpec 132 [a.slice, c.slice] V (fun v _ => v = .int .i64 (cmpA a.l c.l)) := by
 refine does_of_zfun [] mixed (args := [.v _, .v _]) (ms := []) Tryz.func132 (by kernel_rfl) rfl ?_; conv => whnf
 repeat' ((first | refine br_t rfl ?_ | refine br_f rfl ?_ | refine IdxN.lit rfl rfl ?_ | intro _); conv => whnf)
 refine CallN.pure (cmpI_spec _ _ _) fun v V1 _ hV1 hv => ?_
 subst hv; conv => whnf
 repeat' ((first | refine br_t rfl ?_ | refine br_f rfl ?_ | refine IdxN.lit rfl rfl ?_ | intro _); conv => whnf)
 refine CallN.pure (scompare_spec a c _ (h.mono le_auto) (hc.mono le_auto) h8) fun v V2 _ hV2 hv => ?_
 subst hv; conv => whnf
 repeat' ((first | refine br_t rfl ?_ | refine br_f rfl ?_ | refine IdxN.lit rfl rfl ?_ | intro _); conv => whnf)
 rename_i b1 V3 hV3 h3
 refine CallN.pure (or_spec _ _ _ _ _ _ h3) fun v V4 _ hV4 hv => ?_
 subst hv; conv => whnf
 repeat' ((first | refine br_t rfl ?_ | refine br_f rfl ?_ | refine IdxN.lit rfl rfl ?_ | intro _); conv => whnf)
 refine ret_pure ?_
 show Value.int .i64 _ = _
 congr 1
 unfold sgn cmpA
 by_cases h1 : a.l.length < c.l.length
 ·rw [if_pos (by omega : (a.l.length : Int) < c.l.length), if_pos h1, if_neg (by decide)]
 ·rw [if_neg (by omega : ¬ (a.l.length : Int) < c.l.length), if_neg h1]
  by_cases h2 : c.l.length < a.l.length
  ·rw [if_pos (by omega : (c.l.length : Int) < a.l.length), if_pos h2, if_neg (by decide)]
  ·rw [if_neg (by omega : ¬ (c.l.length : Int) < a.l.length), if_neg h2, if_pos rfl]
theorem index_spec (a : Lab) (x : Int) (V : View) (h : a.at V) (h8 : a.l.length ≤ 1000) : PSpec 73 [a.slice, .int .u16 x] V (fun v _ => ∃ k : Int, v = .int .i64 k ∧ (0 ≤ k ↔ x ∈ a.l)) := by
 obtain ⟨base, cap, l⟩ := a
 show PSpec _ [.slice base l.length cap, .int .u16 x] V (fun v _ => ∃ k : Int, v = .int .i64 k ∧ (0 ≤ k ↔ x ∈ l))
 replace h8 : l.length ≤ 1000 := h8
 refine does_of_zfun [] mixed (args := [.v _, .v _]) (ms := []) Tryz.func73 (by kernel_rfl) rfl ?_; conv => whnf
 repeat' ((first | refine br_t rfl ?_ | refine br_f rfl ?_ | refine IdxN.lit rfl rfl ?_ | intro _); conv => whnf)
 refine loopz (σ := Nat) (fun i => [(0, .v (.slice base l.length cap)), (1, .v (.int .u16 x)), (7, .v (.int .i64 (l.length : Int))), (8, .v (.int .i64 (i : Int)))]) (fun _ => [])
  (fun j i V' => V.le V' ∧ (i ≤ l.length) ∧ l.length - i = j ∧ x ∉ l.take i) l.length 0 ?_ ?_ ?_ ?_
 ·repeat' (first | exact sees_nil | refine sees_cons rfl rfl rfl ?_)
 ·exact keeps_nil
 ·exact ⟨View.le_refl _, Nat.zero_le _, Nat.sub_zero _, by simp⟩
 rintro j i V' ⟨hV, hi, hj, hr⟩
 conv => whnf
 apply br <;> intro h3 <;> conv => whnf
 ·have h3 : i < l.length := by have := of_decide_eq_true h3; omega
  obtain ⟨p, off, y, hb, hy, hay, hy0, hy1⟩ := h.get (i := i) h3
  simp only at hb hy
  subst hb
  repeat' ((first | refine br_t rfl ?_ | refine br_f rfl ?_ | refine IdxN.lit rfl rfl ?_ | intro _); conv => whnf)
  refine IdxN.of (by omega) (by omega) ?_; conv => whnf
  refine LoadN.of (hay.mono le_auto) 0 rfl rfl ?_; conv => whnf
  repeat' ((first | refine br_t rfl ?_ | refine br_f rfl ?_ | refine IdxN.lit rfl rfl ?_ | intro _); conv => whnf)
  apply br <;> intro h4 <;> conv => whnf
  ·have h4 : x = y := of_decide_eq_true h4
   refine ret_pure ⟨_, rfl, ?_⟩
   subst h4
   simp [List.mem_of_getElem? hy]
  ·have h4 : ¬ x = y := of_decide_eq_false h4
   have hw := wrap_nat (i := i) (by omega)
   rw [hw]
   refine ⟨j - 1, i + 1, by omega, ?_, ?_, hV, by omega, by omega, ?_⟩
   ·repeat' (first | exact sees_nil | refine sees_cons rfl rfl rfl ?_)
   ·exact keeps_nil
   ·rw [mem_take_step hy]
    rintro (h5 | h5)
    ·exact hr h5
    ·exact h4 h5
 ·have h3 : ¬ i < l.length := by have := of_decide_eq_false h3; omega
  repeat' ((first | refine br_t rfl ?_ | refine br_f rfl ?_ | refine IdxN.lit rfl rfl ?_ | intro _); conv => whnf)
  refine ret_pure ⟨_, rfl, ?_⟩
  rw [take_all h3] at hr
  simp [hr]
theorem contains_spec (a : Lab) (x : Int) (V : View) (h : a.at V) (h8 : a.l.length ≤ 1000) : PSpec 55 [a.slice, .int .u16 x] V (fun v _ => ∃ b, v = .bool b ∧ (b = true ↔ x ∈ a.l)) := by
 refine does_of_zfun [] mixed (args := [.v _, .v _]) (ms := []) Tryz.func55 (by kernel_rfl) rfl ?_; conv => whnf
 repeat' ((first | refine br_t rfl ?_ | refine br_f rfl ?_ | refine IdxN.lit rfl rfl ?_ | intro _); conv => whnf)
 refine CallN.pure (index_spec a x _ (h.mono le_auto) h8) fun v V1 _ hV1 ⟨k, hv, hk⟩ => ?_
 subst hv; conv => whnf
 repeat' ((first | refine br_t rfl ?_ | refine br_f rfl ?_ | refine IdxN.lit rfl rfl ?_ | intro _); conv => whnf)
 refine ret_pure ⟨_, rfl, ?_⟩
 rw [← hk]
 simp
theorem minus1_spec (a : Lab) (x : Int) (p : Nat) (V : View) (hp : V.has p 0 [a.slice]) (h : a.at V) (h8 : a.l.length ≤ 1000) : PSpec 54 [.int .u16 x, .pointer (some ⟨p, 0, none⟩)] V (fun v _ => ∃ b, v = .bool b ∧ (b = true ↔ ¬ x ∈ a.l)) := by
 refine does_of_zfun [] mixed (args := [.v _, .v _]) (ms := []) Tryz.func54 (by kernel_rfl) rfl ?_; conv => whnf
 refine LoadN.of (hp.mono le_auto) 0 rfl rfl ?_; conv => whnf
 repeat' ((first | refine br_t rfl ?_ | refine br_f rfl ?_ | refine IdxN.lit rfl rfl ?_ | intro _); conv => whnf)
 refine CallN.pure (contains_spec a x _ (h.mono le_auto) h8) fun v V1 _ hV1 ⟨b, hv, hb⟩ => ?_
 subst hv; conv => whnf
 repeat' ((first | refine br_t rfl ?_ | refine br_f rfl ?_ | refine IdxN.lit rfl rfl ?_ | intro _); conv => whnf)
 refine ret_pure ⟨_, rfl, ?_⟩
 cases b with
 | true => simp [hb.1 rfl]
 | false =>
  simp
  intro hm
  cases hb.2 hm
theorem those_spec (a c : Lab) (p : Nat) (V : View) (hp : V.has p 0 [c.slice]) (h : a.at V) (hc : c.at V) (h8 : a.l.length ≤ 1000) (h9 : c.l.length ≤ 1000) :
  PSpec 53 [a.slice, .func (.func 54) #[] #[.pointer (some ⟨p, 0, none⟩)]] V (fun v _ => ∃ b n k, v = .slice b n k ∧ (n = 0 ↔ ∀ x ∈ a.l, x ∈ c.l)) := by
 obtain ⟨base, cap, l⟩ := a
 show PSpec _ [.slice base l.length cap, _] V (fun v _ => ∃ b n k, v = .slice b n k ∧ (n = 0 ↔ ∀ x ∈ l, x ∈ c.l))
 replace h8 : l.length ≤ 1000 := h8
 refine does_of_zfun [] mixed (args := [.v _, .v _]) (ms := []) Tryz.func53 (by kernel_rfl) rfl ?_; conv => whnf
 repeat' ((first | refine br_t rfl ?_ | refine br_f rfl ?_ | refine IdxN.lit rfl rfl ?_ | intro _); conv => whnf)
 refine loopz (σ := Nat × Option Addr × Nat × Nat) (fun z => [(0, .v (.slice base l.length cap)), (1, .v (.func (.func 54) #[] #[.pointer (some ⟨p, 0, none⟩)])), (5, .row 20), (8, .v (.slice base l.length cap)), (9, .v (.int .i64 (l.length : Int))), (10, .v (.int .i64 (z.1 : Int)))]) (fun z => [(20, .row (.slice z.2.1 z.2.2.1 z.2.2.2) 50 1 z.2.2.1)])
  (fun j z V' => V.le V' ∧ (z.1 ≤ l.length) ∧ l.length - z.1 = j ∧ (∃ xs, V'.cells (.slice z.2.1 z.2.2.1 z.2.2.2) xs ∧ xs.length = z.2.2.1) ∧ z.2.2.1 ≤ z.1 ∧ (z.2.2.1 = 0 ↔ ∀ x ∈ l.take z.1, x ∈ c.l)) l.length (0, none, 0, 0) ?_ ?_ ?_ ?_
 ·repeat' (first | exact sees_nil | refine sees_cons rfl rfl rfl ?_)
 ·repeat' (first | exact keeps_nil | refine keeps_cons rfl ?_ | refine keeps_free ?_)
 ·exact ⟨View.le_refl _, Nat.zero_le _, Nat.sub_zero _, ⟨[], rfl, rfl⟩, Nat.zero_le _, by simp⟩
 rintro j ⟨i, b0, n, k⟩ V' ⟨hV, hi, hj, ⟨xs, hxs, hxl⟩, hn, hr⟩
 simp only at hi hj hxs hxl hn hr
 conv => whnf
 apply br <;> intro h3 <;> conv => whnf
 ·have h3 : i < l.length := by have := of_decide_eq_true h3; omega
  obtain ⟨q, off, y, hb, hy, hay, hy0, hy1⟩ := h.get (i := i) h3
  simp only at hb hy
  subst hb
  refine IdxN.of (by omega) (by omega) ?_; conv => whnf
  refine LoadN.of (hay.mono le_auto) 0 rfl rfl ?_; conv => whnf
  repeat' ((first | refine br_t rfl ?_ | refine br_f rfl ?_ | refine IdxN.lit rfl rfl ?_ | intro _); conv => whnf)
  refine CallN.pure (minus1_spec c y p _ (hp.mono le_auto) (hc.mono le_auto) h9) fun v V1 _ hV1 ⟨b, hv, hb⟩ => ?_
  subst hv; conv => whnf
  apply br <;> intro h4 <;> conv => whnf
  ·have h4 : b = true := by simpa using h4
   have hny := hb.1 h4
   repeat' ((first | refine br_t rfl ?_ | refine br_f rfl ?_ | refine IdxN.lit rfl rfl ?_ | intro _); conv => whnf)
   rename_i b1 V2 hV2 h2
   refine AppN.to (n + 1) rfl xs [.int .u16 y] (hxs.mono le_auto) (by rw [hxl]; exact (Nat.mul_one _).symm) h2 rfl rfl (by omega) (by decide) fun base' cap' V3 hV3 hc3 => ?_; conv => whnf
   repeat' ((first | refine br_t rfl ?_ | refine br_f rfl ?_ | refine IdxN.lit rfl rfl ?_ | intro _); conv => whnf)
   have hw := wrap_nat (i := i) (by omega)
   rw [hw]
   refine ⟨j - 1, (i + 1, base', n + 1, cap'), by omega, ?_, ?_, le_auto, by show i + 1 ≤ _; omega, by show l.length - (i + 1) = _; omega, ⟨_, hc3, by simp [hxl]⟩, by show n + 1 ≤ i + 1; omega, ?_⟩
   ·repeat' (first | exact sees_nil | refine sees_cons rfl rfl rfl ?_)
   ·repeat' (first | exact keeps_nil | refine keeps_cons rfl ?_ | refine keeps_free ?_)
   ·show n + 1 = 0 ↔ _
    constructor
    ·intro e; omega
    ·intro hall
     exact absurd (hall y ((mem_take_step hy).2 (.inr rfl))) hny
  ·have h4 : b = false := by simpa using h4
   have hyc : y ∈ c.l := Classical.byContradiction fun hh => by rw [hb.2 hh] at h4; cases h4
   repeat' ((first | refine br_t rfl ?_ | refine br_f rfl ?_ | refine IdxN.lit rfl rfl ?_ | intro _); conv => whnf)
   have hw := wrap_nat (i := i) (by omega)
   rw [hw]
   refine ⟨j - 1, (i + 1, b0, n, k), by omega, ?_, ?_, View.le_trans hV hV1, by show i + 1 ≤ _; omega, by show l.length - (i + 1) = _; omega, ⟨xs, hxs.mono hV1, hxl⟩, by show n ≤ i + 1; omega, ?_⟩
   ·repeat' (first | exact sees_nil | refine sees_cons rfl rfl rfl ?_)
   ·repeat' (first | exact keeps_nil | refine keeps_cons rfl ?_ | refine keeps_free ?_)
   ·show n = 0 ↔ _
    rw [hr]
    constructor
    ·intro hall x hx
     rcases (mem_take_step hy).1 hx with h5 | h5
     ·exact hall x h5
     ·subst h5; exact hyc
    ·intro hall x hx
     exact hall x ((mem_take_step hy).2 (.inl hx))
 ·have h3 : ¬ i < l.length := by have := of_decide_eq_false h3; omega
  repeat' ((first | refine br_t rfl ?_ | refine br_f rfl ?_ | refine IdxN.lit rfl rfl ?_ | intro _); conv => whnf)
  refine ret_pure ⟨_, _, _, rfl, ?_⟩
  rw [take_all h3] at hr
  exact hr
theorem lminus_spec (a c : Lab) (V : View) (h : a.at V) (hc : c.at V) (h8 : a.l.length ≤ 1000) (h9 : c.l.length ≤ 1000) : PSpec 39 [a.slice, c.slice] V (fun v _ => ∃ b n k, v = .slice b n k ∧ (n = 0 ↔ ∀ x ∈ a.l, x ∈ c.l)) := by
 refine does_of_zfun [] mixed (args := [.v _, .v _]) (ms := []) Tryz.func39 (by kernel_rfl) rfl ?_; conv => whnf
 repeat' ((first | refine br_t rfl ?_ | refine br_f rfl ?_ | refine IdxN.lit rfl rfl ?_ | intro _); conv => whnf)
 rename_i b1
 refine CallN.lend 3 rfl fun hle => CallN.pure (those_spec a c b1 _ View.add_has (h.mono le_auto) (hc.mono le_auto) h8 h9) fun v V1 _ hV1 ⟨b, n, k, hv, hn⟩ => ⟨⟨_, rfl⟩, rfl, ?_⟩
 subst hv; conv => whnf
 repeat' ((first | refine br_t rfl ?_ | refine br_f rfl ?_ | refine IdxN.lit rfl rfl ?_ | intro _); conv => whnf)
 exact ret_pure ⟨_, _, _, rfl, hn⟩
theorem lflows_spec (a c : Lab) (V : View) (h : a.at V) (hc : c.at V) (h8 : a.l.length ≤ 1000) (h9 : c.l.length ≤ 1000) : PSpec 24 [a.slice, c.slice] V (fun v _ => ∃ b, v = .bool b ∧ (b = true ↔ ∀ x ∈ a.l, x ∈ c.l)) := by
 refine does_of_zfun [] mixed (args := [.v _, .v _]) (ms := []) Tryz.func24 (by kernel_rfl) rfl ?_; conv => whnf
 repeat' ((first | refine br_t rfl ?_ | refine br_f rfl ?_ | refine IdxN.lit rfl rfl ?_ | intro _); conv => whnf)
 refine CallN.pure (lminus_spec a c _ (h.mono le_auto) (hc.mono le_auto) h8 h9) fun v V1 _ hV1 ⟨b, n, k, hv, hn⟩ => ?_
 subst hv; conv => whnf
 repeat' ((first | refine br_t rfl ?_ | refine br_f rfl ?_ | refine IdxN.lit rfl rfl ?_ | intro _); conv => whnf)
 refine ret_pure ⟨_, rfl, ?_⟩
 rw [← hn]
 simp
end Go.Proofs.LB
end
