/- One part of a proof: an evaluator of the model, shown right, and contracts that it yields. No condition beyond those that each theorem names. -/
import Derived.Test.YtenpginanhnkbaaGreatCD
import Derived.Test.YtenpginanhnkbaaGreatXY
section
set_option linter.unusedSimpArgs false
set_option linter.unusedVariables false
namespace Go.Proofs.YtenpginanhnkbaaGreat
open Go.X
set_option maxRecDepth 100000
theorem cmp53_spec (r s : List Val) (x y : Val) (k : Nat) (hx : r[k]? = some x) (hy : s[k]? = some y) (hlr : r.length ≤ 1000) (hls : s.length ≤ 1000) (va vb : Value) (a : Nat) (V : View) (hr : RowAt V r va) (hs : RowAt V s vb) (ha : V.has a 0 [.int .i64 (k : Nat)]) :
  PSpec 36 [va, vb, .pointer (some ⟨a, 0, none⟩)] V (fun v _ => v = .int .i64 (cmpV x y)) := by
 obtain ⟨b1, c1, rfl, _, hv1⟩ := hr
 obtain ⟨b2, c2, rfl, _, hv2⟩ := hs
 obtain ⟨p1, o1, rfl, hx1⟩ := hv1.at hx
 obtain ⟨p2, o2, rfl, hy2⟩ := hv2.at hy
 have l1 : k < r.length := (List.getElem?_eq_some_iff.1 hx).1
 have l2 : k < s.length := (List.getElem?_eq_some_iff.1 hy).1
 refine does_of_zfun [(1, [(0, []), (1, []), (2, []), (3, []), (4, []), (5, []), (6, []), (7, []), (8, []), (9, [])])] mixed (args := [.v _, .v _, .v _]) (ms := []) Tryz.func36 (by kernel_rfl) rfl ?_; conv => whnf
 refine LoadN.of (ha.mono le_auto) 0 rfl rfl ?_; conv => whnf
 refine IdxN.of (by omega) (by omega) ?_; conv => whnf
 refine LoadN.of (hx1.mono le_auto) 0 rfl rfl ?_; conv => whnf
 refine LoadN.of (ha.mono le_auto) 0 rfl rfl ?_; conv => whnf
 refine IdxN.of (by omega) (by omega) ?_; conv => whnf
 refine LoadN.of (hy2.mono le_auto) 0 rfl rfl ?_; conv => whnf
 refine CallN.pure (compare_spec x y _) fun v V1 _ hV1 hv => ?_
 subst hv
 refine Prot.refl ?_; conv => whnf
 repeat' ((first | refine br_t rfl ?_ | refine br_f rfl ?_ | refine IdxN.lit rfl rfl ?_ | intro _); conv => whnf)
 exact ret_pure rfl
def ordX (d : Bool) (x y : Val) : Int := if d then cmpV y x else cmpV x y
theorem cmp76_spec (r s : List Val) (x y : Val) (k : Nat) (hx : r[k]? = some x) (hy : s[k]? = some y) (hlr : r.length ≤ 1000) (hls : s.length ≤ 1000) (va vb : Value) (a b5 b4 : Nat) (d : Bool) (V : View) (hr : RowAt V r va) (hs : RowAt V s vb) (ha : V.has a 0 [.int .i64 (k : Nat)])
  (h5 : V.has b5 0 [.bool d]) (h4 : V.has b4 0 [.func (.func 36) #[] #[.pointer (some ⟨a, 0, none⟩)]]) :
  PSpec 63 [va, vb, .pointer (some ⟨b5, 0, none⟩), .pointer (some ⟨b4, 0, none⟩)] V (fun v _ => v = .int .i64 (ordX d x y)) := by
 refine does_of_zfun [] mixed (args := [.v _, .v _, .v _, .v _]) (ms := []) Tryz.func63 (by kernel_rfl) rfl ?_; conv => whnf
 refine LoadN.of (h5.mono le_auto) 0 rfl rfl ?_; conv => whnf
 apply br <;> intro g1 <;> conv => whnf
 ·have g1 : d = true := g1
  refine LoadN.of (h4.mono le_auto) 0 rfl rfl ?_; conv => whnf
  refine CallN.pure (cmp53_spec s r y x k hy hx hls hlr vb va a _ (hs.mono le_auto) (hr.mono le_auto) (ha.mono le_auto)) fun v V1 _ hV1 hv => ?_
  subst hv; conv => whnf
  repeat' ((first | refine br_t rfl ?_ | refine br_f rfl ?_ | refine IdxN.lit rfl rfl ?_ | intro _); conv => whnf)
  exact ret_pure (by rw [ordX, if_pos g1]; rfl)
 ·have g1 : d = false := g1
  refine LoadN.of (h4.mono le_auto) 0 rfl rfl ?_; conv => whnf
  refine CallN.pure (cmp53_spec r s x y k hx hy hlr hls va vb a _ (hr.mono le_auto) (hs.mono le_auto) (ha.mono le_auto)) fun v V1 _ hV1 hv => ?_
  subst hv; conv => whnf
  repeat' ((first | refine br_t rfl ?_ | refine br_f rfl ?_ | refine IdxN.lit rfl rfl ?_ | intro _); conv => whnf)
  exact ret_pure (by rw [ordX, g1]; rfl)
theorem IdxN.nat {b off len size : Nat} {i : Int} {K : Nat → Nat → Prop} (k : Nat) (hi : i = (k : Int)) (hl : k < len) (hK : K b (off + k * size)) : IdxN (some ⟨b, off, none⟩) len i size K := by
 subst hi
 exact IdxN.of (by omega) (by omega) (by simpa using hK)
theorem setAt_mid : ∀ (a b : List Value) (x c : Value), setAt (a ++ x :: b) a.length [c] = a ++ c :: b
 | [], b, x, c => by cases b <;> rfl
 | y :: a, b, x, c => by
  show y :: setAt (a ++ x :: b) a.length [c] = _
  rw [setAt_mid a b x c]; rfl
theorem get1 (A B : List Value) (x : Value) (k : Nat) (h : k = A.length) : ((A ++ x :: B).drop (0 + k * 1)).take 1 = [x] := by
 subst h
 rw [Nat.zero_add, Nat.mul_one, List.drop_left]; rfl
theorem set1 (A B : List Value) (x y : Value) (k : Nat) (h : k = A.length) : setAt (A ++ x :: B) (0 + k * 1) [y] = A ++ y :: B := by
 subst h
 rw [Nat.zero_add, Nat.mul_one, setAt_mid]
/-- what a row's header looks like -/
def Hd (v : Value) : Prop := ∃ b n c, v = .slice b n c
theorem mid_eq {A B : List Value} (L : List Value) (x : Value) (i : Nat) (h : L[i]? = some x) : A ++ L.drop i ++ B = A ++ (x :: L.drop (i + 1)) ++ B := by
 have : L.drop i = x :: L.drop (i + 1) := by
  rw [List.drop_eq_getElem_cons (List.getElem?_eq_some_iff.1 h).1]
  congr 1
  rw [List.getElem?_eq_getElem (List.getElem?_eq_some_iff.1 h).1] at h
  exact Option.some.inj h
 rw [this]
set_option maxHeartbeats 4000000 in
theorem swapRange_spec (blk len cap : Nat) (ty : TypeId) (f : Value) (P X M Y S : List Value) (V : View) (hX : ∀ v ∈ X, Hd v) (hY : ∀ v ∈ Y, Hd v) (hXY : X.length = Y.length) (hlen : P.length + X.length + M.length + Y.length ≤ len) (hl : len ≤ 100000) :
  Does Tryz.prog 106 [.slice (some ⟨blk, 0, none⟩) len cap, .int .i64 P.length, .int .i64 (P.length + X.length + M.length : Nat), .int .i64 X.length, f] V [.box blk ty (P ++ X ++ M ++ Y ++ S)]
   (fun v V' bs => v = .tuple #[] ∧ bs = [.box blk ty (P ++ Y ++ M ++ X ++ S)]) := by
 generalize ha : P.length = a at *
 generalize hb : a + X.length + M.length = b at *
 generalize hn : X.length = n at *
 refine does_of_zfun [(3, [(1000, [0, 1, 2, 3, 4, 5, 6, 7, 8, 9, 10, 11, 12, 14, 15, 16, 17, 18, 13, 19, 20, 21, 22, 23])])] mixed (args := [.v _, .v _, .v _, .v _, .v _]) (ms := [(70, .box blk ty (P ++ X ++ M ++ Y ++ S))]) Tryz.func106 (by kernel_rfl) rfl ?_; conv => whnf
 repeat' ((first | refine br_t rfl ?_ | refine br_f rfl ?_ | refine IdxN.lit rfl rfl ?_ | intro _); conv => whnf)
 refine loopz (σ := Nat × List Value) (fun s => [(0, .v (.slice (some ⟨blk, 0, none⟩) len cap)), (1, .v (.int .i64 a)), (2, .v (.int .i64 b)), (3, .v (.int .i64 n)), (10, .v (.int .i64 s.1))]) (fun s => [(70, .box blk ty s.2)])
  (fun j s V' => V.le V' ∧ s.1 ≤ n ∧ n - s.1 = j ∧ s.2 = (P ++ Y.take s.1) ++ X.drop s.1 ++ (M ++ X.take s.1 ++ Y.drop s.1 ++ S)) n (0, P ++ X ++ M ++ Y ++ S) ?_ ?_ ?_ ?_
 ·repeat' (first | exact sees_nil | refine sees_cons rfl rfl rfl ?_)
 ·exact keeps_cons rfl keeps_nil
 ·exact ⟨View.le_refl _, Nat.zero_le _, rfl, by simp⟩
 rintro j ⟨i, L⟩ V' ⟨hV, hi, hj, hL⟩
 have hi : i ≤ n := hi
 have hj : n - i = j := hj
 have hL : L = (P ++ Y.take i) ++ X.drop i ++ (M ++ X.take i ++ Y.drop i ++ S) := hL
 conv => whnf
 apply br <;> intro h3 <;> conv => whnf
 ·have hi1 : i < n := by have := of_decide_eq_true h3; omega
  obtain ⟨x, hx⟩ : ∃ x, X[i]? = some x := ⟨_, List.getElem?_eq_getElem (by omega)⟩
  obtain ⟨y, hy⟩ : ∃ y, Y[i]? = some y := ⟨_, List.getElem?_eq_getElem (by omega)⟩
  obtain ⟨xb, xn, xc, hxe⟩ := hX x (List.mem_of_getElem? hx)
  obtain ⟨yb, yn, yc, hye⟩ := hY y (List.mem_of_getElem? hy)
  subst hxe; subst hye
  have hwi := wrap_nat (i := i) (by omega)
  have eL1 : L = (P ++ Y.take i) ++ .slice xb xn xc :: (X.drop (i + 1) ++ (M ++ X.take i ++ Y.drop i ++ S)) := by
   rw [hL, mid_eq X _ i hx]; simp
  have eL2 : L = ((P ++ Y.take i) ++ X.drop i ++ (M ++ X.take i)) ++ .slice yb yn yc :: (Y.drop (i + 1) ++ S) := by
   have := mid_eq (A := (P ++ Y.take i) ++ X.drop i ++ (M ++ X.take i)) (B := S) Y _ i hy
   rw [hL]; simpa using this
  have l1 : a + i = (P ++ Y.take i).length := by rw [List.length_append, List.length_take]; omega
  have l2 : b + i = ((P ++ Y.take i) ++ X.drop i ++ (M ++ X.take i)).length := by simp only [List.length_append, List.length_take, List.length_drop]; omega
  have l3 : b + i + 1 ≤ L.length := by rw [eL2, List.length_append, List.length_cons, ← l2]; omega
  refine IdxN.nat (b + i) (by show IntKind.i64.wrap _ = _; rw [wrapE]; omega) (by omega) ?_; conv => whnf
  refine IdxN.nat (a + i) (by show IntKind.i64.wrap _ = _; rw [wrapE]; omega) (by omega) ?_; conv => whnf
  refine LoadN.own 70 rfl (l := [.slice yb yn yc]) (by show 0 + (b + i) * 1 + 1 ≤ L.length; omega) (by show (L.drop (0 + (b + i) * 1)).take 1 = _; rw [eL2]; exact get1 _ _ _ _ l2) ?_; conv => whnf
  refine LoadN.own 70 rfl (l := [.slice xb xn xc]) (by show 0 + (a + i) * 1 + 1 ≤ L.length; omega) (by show (L.drop (0 + (a + i) * 1)).take 1 = _; rw [eL1]; exact get1 _ _ _ _ l1) ?_; conv => whnf
  refine IdxN.nat (a + i) (by show IntKind.i64.wrap _ = _; rw [wrapE]; omega) (by omega) ?_; conv => whnf
  have e1 : setAt L (0 + (a + i) * 1) [.slice yb yn yc] = (P ++ Y.take i) ++ .slice yb yn yc :: (X.drop (i + 1) ++ (M ++ X.take i ++ Y.drop i ++ S)) := by rw [eL1]; exact set1 _ _ _ _ _ l1
  refine StoN.own 70 rfl (by show 0 + (a + i) * 1 + 1 ≤ L.length; omega) ?_; conv => whnf
  have e1b : setAt L (0 + (a + i) * 1) [.slice yb yn yc] = ((P ++ Y.take i) ++ .slice yb yn yc :: (X.drop (i + 1) ++ (M ++ X.take i))) ++ .slice yb yn yc :: (Y.drop (i + 1) ++ S) := by
   have := mid_eq (A := (P ++ Y.take i) ++ .slice yb yn yc :: (X.drop (i + 1) ++ (M ++ X.take i))) (B := S) Y _ i hy
   rw [e1]; simpa using this
  have l4 : b + i = ((P ++ Y.take i) ++ .slice yb yn yc :: (X.drop (i + 1) ++ (M ++ X.take i))).length := by simp only [List.length_append, List.length_cons, List.length_take, List.length_drop]; omega
  have e2 : setAt (setAt L (0 + (a + i) * 1) [.slice yb yn yc]) (0 + (b + i) * 1) [.slice xb xn xc] = ((P ++ Y.take i) ++ .slice yb yn yc :: (X.drop (i + 1) ++ (M ++ X.take i))) ++ .slice xb xn xc :: (Y.drop (i + 1) ++ S) := by
   rw [e1b]; exact set1 _ _ _ _ _ l4
  have l5 : b + i + 1 ≤ (setAt L (0 + (a + i) * 1) [.slice yb yn yc]).length := by rw [e1b, List.length_append, List.length_cons, ← l4]; omega
  refine IdxN.nat (b + i) (by show IntKind.i64.wrap _ = _; rw [wrapE]; omega) (by omega) ?_; conv => whnf
  refine StoN.own 70 rfl (by show 0 + (b + i) * 1 + 1 ≤ (setAt L (0 + (a + i) * 1) [.slice yb yn yc]).length; omega) ?_; conv => whnf
  refine ⟨j - 1, (i + 1, ((P ++ Y.take i) ++ .slice yb yn yc :: (X.drop (i + 1) ++ (M ++ X.take i))) ++ .slice xb xn xc :: (Y.drop (i + 1) ++ S)), by omega, ?_, ?_, ?_⟩
  ·repeat' (first | exact sees_nil | refine sees_cons rfl rfl rfl ?_ | refine sees_cons rfl rfl (by rw [← hwi]; rfl) ?_)
  ·exact keeps_cons (by rw [← e2]; rfl) keeps_nil
  ·refine ⟨le_auto, hi1, by show n - (i + 1) = _; omega, ?_⟩
   show _ = (P ++ Y.take (i + 1)) ++ X.drop (i + 1) ++ (M ++ X.take (i + 1) ++ Y.drop (i + 1) ++ S)
   rw [List.take_add_one, List.take_add_one, hx, hy]
   simp
 ·have hi1 : i = n := by have := of_decide_eq_false h3; omega
  subst hi1
  repeat' ((first | refine br_t rfl ?_ | refine br_f rfl ?_ | refine IdxN.lit rfl rfl ?_ | intro _); conv => whnf)
  refine ⟨[70], by simp, [_], rfl, rfl, ?_⟩
  have e : L = P ++ Y ++ M ++ X ++ S := by
   rw [hL, List.take_of_length_le (by omega : Y.length ≤ i), List.drop_of_length_le (by omega : X.length ≤ i), List.take_of_length_le (by omega : X.length ≤ i), List.drop_of_length_le (by omega : Y.length ≤ i)]
   simp
  rw [e]
theorem CallN.eq {P : Program} {f : FuncId} {args args' : List Value} {V : View} {mem : Nat → Option Res} {K : SV → View → (Nat → Option Res) → Prop} (h : args = args') (hx : CallN P f args' V mem K) : CallN P f args V mem K := h ▸ hx
theorem int_eq {x y : Int} (h : x = y) : Value.int .i64 x = Value.int .i64 y := by rw [h]
theorem args5 {a b c d e b' c' d' : Value} (h1 : b = b') (h2 : c = c') (h3 : d = d') : [a, b, c, d, e] = [a, b', c', d', e] := by rw [h1, h2, h3]
set_option maxHeartbeats 4000000 in
/-- two blocks that stand beside each other change places -/
theorem rotate_spec (blk len cap : Nat) (ty : TypeId) (f : Value) (P X Y S : List Value) (V : View) (hX : ∀ v ∈ X, Hd v) (hY : ∀ v ∈ Y, Hd v) (hX0 : 0 < X.length) (hY0 : 0 < Y.length) (hlen : P.length + X.length + Y.length ≤ len) (hl : len ≤ 100000) :
    Does Tryz.prog 105 [.slice (some ⟨blk, 0, none⟩) len cap, .int .i64 P.length, .int .i64 (P.length + X.length : Nat), .int .i64 (P.length + X.length + Y.length : Nat), f] V [.box blk ty (P ++ X ++ Y ++ S)]
      (fun v V' bs => v = .tuple #[] ∧ bs = [.box blk ty (P ++ Y ++ X ++ S)]) := by
  generalize ha : P.length = a at *
  generalize hm : a + X.length = m at *
  generalize hb : m + Y.length = b at *
  refine does_of_zfun [] mixed (args := [.v _, .v _, .v _, .v _, .v _]) (ms := [(70, .box blk ty (P ++ X ++ Y ++ S))]) Tryz.func105 (by kernel_rfl) rfl ?_; conv => whnf
  repeat' ((first | refine br_t rfl ?_ | refine br_f rfl ?_ | refine IdxN.lit rfl rfl ?_ | intro _); conv => whnf)
  refine loopz (σ := Nat × Nat × List Value) (fun s => [(0, .v (.slice (some ⟨blk, 0, none⟩) len cap)), (1, .v (.int .i64 a)), (2, .v (.int .i64 m)), (3, .v (.int .i64 b)), (4, .v f), (10, .v (.int .i64 s.1)), (11, .v (.int .i64 s.2.1))]) (fun s => [(70, .box blk ty s.2.2)])
    (fun j s V' => V.le V' ∧ s.1 + s.2.1 = j ∧ 0 < s.1 ∧ 0 < s.2.1 ∧ ∃ A U W B, s.2.2 = A ++ U ++ W ++ B ∧ U.length = s.1 ∧ W.length = s.2.1 ∧ A.length + U.length = m ∧ m + W.length ≤ len ∧ A ++ W ++ U ++ B = P ++ Y ++ X ++ S ∧ (∀ v ∈ U, Hd v) ∧ (∀ v ∈ W, Hd v)) (X.length + Y.length) (X.length, Y.length, P ++ X ++ Y ++ S) ?_ ?_ ?_ ?_
  · repeat' (first | exact sees_nil | refine sees_cons rfl rfl rfl ?_ | refine sees_cons rfl rfl (by show some (Value.int .i64 (X.length : Nat)) = some (Value.int .i64 (IntKind.i64.wrap _)); rw [wrapE]; exact congrArg some (int_eq (by omega))) ?_ | refine sees_cons rfl rfl (by show some (Value.int .i64 (Y.length : Nat)) = some (Value.int .i64 (IntKind.i64.wrap _)); rw [wrapE]; exact congrArg some (int_eq (by omega))) ?_)
  · exact keeps_cons rfl keeps_nil
  · exact ⟨View.le_refl _, rfl, hX0, hY0, P, X, Y, S, rfl, rfl, rfl, by omega, by omega, rfl, hX, hY⟩
  rintro k ⟨i, j, L⟩ V' ⟨hV, hk, hi0, hj0, A, U, W, B, hL, hU, hW, hAU, hWl, hfin, hUh, hWh⟩
  replace hk : i + j = k := hk
  replace hi0 : 0 < i := hi0
  replace hj0 : 0 < j := hj0
  replace hL : L = A ++ U ++ W ++ B := hL
  replace hU : U.length = i := hU
  replace hW : W.length = j := hW
  subst hL; conv => whnf
  apply br <;> intro h1 <;> conv => whnf
  · have h1 : i ≠ j := fun e => by subst e; simp at h1
    apply br <;> intro h2 <;> conv => whnf
    · have h2 : j < i := by have : (i : Int) > (j : Int) := of_decide_eq_true h2
                            omega
      have key := swapRange_spec blk len cap ty f A (U.take j) (U.drop j) W B V' (fun v hv => hUh v (List.mem_of_mem_take hv)) hWh (by rw [List.length_take]; omega) (by rw [List.length_take, List.length_drop]; omega) hl
      rw [show A ++ U.take j ++ U.drop j ++ W ++ B = A ++ U ++ W ++ B by rw [List.append_assoc A, List.take_append_drop]] at key
      refine CallN.eq (args5 (b' := .int .i64 A.length) (c' := .int .i64 (A.length + (U.take j).length + (U.drop j).length : Nat)) (d' := .int .i64 (U.take j).length) (by show Value.int .i64 (IntKind.i64.wrap ((m : Int) - (i : Int))) = _; rw [wrapE]; exact int_eq (by omega)) (int_eq (by show ((m : Nat) : Int) = _; rw [List.length_take, List.length_drop]; omega)) (int_eq (by show ((j : Nat) : Int) = _; rw [List.length_take]; omega))) ?_
      refine CallN.box 70 rfl key fun v V2 bs hV2 ⟨hv, hb2⟩ => ⟨ty, _, hb2, ?_⟩
      subst hv; conv => whnf
      repeat' ((first | refine br_t rfl ?_ | refine br_f rfl ?_ | refine IdxN.lit rfl rfl ?_ | intro _); conv => whnf)
      refine ⟨k - j, (i - j, j, _), by omega, ?_, keeps_cons rfl keeps_nil, ?_⟩
      · repeat' (first | exact sees_nil | refine sees_cons rfl rfl rfl ?_ | refine sees_cons rfl rfl (by show some (Value.int .i64 (i - j : Nat)) = some (Value.int .i64 (IntKind.i64.wrap ((i : Int) - (j : Int)))); rw [wrapE]; exact congrArg some (int_eq (by omega))) ?_)
      · refine ⟨le_auto, by show i - j + j = k - j; omega, by show 0 < i - j; omega, hj0, A ++ W, U.drop j, U.take j, B, by simp, by rw [List.length_drop, hU], by rw [List.length_take]; exact (by omega : min j U.length = j), by rw [List.length_append, List.length_drop]; omega, by rw [List.length_take]; omega, ?_, fun v hv => hUh v (List.mem_of_mem_drop hv), fun v hv => hUh v (List.mem_of_mem_take hv)⟩
        rw [← hfin, List.append_assoc (A ++ W), List.take_append_drop]
    · have h2 : i < j := by have : ¬ (i : Int) > (j : Int) := of_decide_eq_false h2
                            omega
      have key := swapRange_spec blk len cap ty f A U (W.take (j - i)) (W.drop (j - i)) B V' hUh (fun v hv => hWh v (List.mem_of_mem_drop hv)) (by rw [List.length_drop]; omega) (by rw [List.length_take, List.length_drop]; omega) hl
      have hw1 : IntKind.i64.wrap ((m : Int) + (j : Int)) = ((m + j : Nat) : Int) := by rw [wrapE]; omega
      have hw2 : Value.int .i64 (IntKind.i64.wrap (IntKind.i64.wrap ((m : Int) + (j : Int)) - (i : Int))) = .int .i64 (A.length + U.length + (W.take (j - i)).length : Nat) := by
        rw [hw1, wrapE, List.length_take]
        exact int_eq (by omega)
      rw [show A ++ U ++ W.take (j - i) ++ W.drop (j - i) ++ B = A ++ U ++ W ++ B by rw [List.append_assoc (A ++ U), List.take_append_drop]] at key
      refine CallN.eq (args5 (b' := .int .i64 A.length) (c' := .int .i64 (A.length + U.length + (W.take (j - i)).length : Nat)) (d' := .int .i64 U.length) (by show Value.int .i64 (IntKind.i64.wrap ((m : Int) - (i : Int))) = _; rw [wrapE]; exact int_eq (by omega)) hw2 (int_eq (by show ((i : Nat) : Int) = _; omega))) ?_
      refine CallN.box 70 rfl key fun v V2 bs hV2 ⟨hv, hb2⟩ => ⟨ty, _, hb2, ?_⟩
      subst hv; conv => whnf
      repeat' ((first | refine br_t rfl ?_ | refine br_f rfl ?_ | refine IdxN.lit rfl rfl ?_ | intro _); conv => whnf)
      refine ⟨k - i, (i, j - i, _), by omega, ?_, keeps_cons rfl keeps_nil, ?_⟩
      · repeat' (first | exact sees_nil | refine sees_cons rfl rfl rfl ?_ | refine sees_cons rfl rfl (by show some (Value.int .i64 (j - i : Nat)) = some (Value.int .i64 (IntKind.i64.wrap ((j : Int) - (i : Int)))); rw [wrapE]; exact congrArg some (int_eq (by omega))) ?_)
      · refine ⟨le_auto, by show i + (j - i) = k - i; omega, hi0, by show 0 < j - i; omega, A, W.drop (j - i), W.take (j - i), U ++ B, by simp, by rw [List.length_drop]; exact (by omega : W.length - (j - i) = i), by rw [List.length_take]; exact (by omega : min (j - i) W.length = j - i), by rw [List.length_drop]; omega, by rw [List.length_take]; omega, ?_, fun v hv => hWh v (List.mem_of_mem_drop hv), fun v hv => hWh v (List.mem_of_mem_take hv)⟩
        rw [← hfin]
        have := List.take_append_drop (j - i) W
        calc A ++ W.take (j - i) ++ W.drop (j - i) ++ (U ++ B) = A ++ (W.take (j - i) ++ W.drop (j - i)) ++ U ++ B := by simp
          _ = _ := by rw [this]
  · have h1 : i = j := by have : (i : Int) = j := by simpa using h1
                          omega
    repeat' ((first | refine br_t rfl ?_ | refine br_f rfl ?_ | refine IdxN.lit rfl rfl ?_ | intro _); conv => whnf)
    have key := swapRange_spec blk len cap ty f A U [] W B V' hUh hWh (by omega) (by simp; omega) hl
    rw [List.append_nil] at key
    refine CallN.eq (args5 (b' := .int .i64 A.length) (c' := .int .i64 (A.length + U.length + 0 : Nat)) (d' := .int .i64 U.length) (by show Value.int .i64 (IntKind.i64.wrap ((m : Int) - (i : Int))) = _; rw [wrapE]; exact int_eq (by omega)) (int_eq (by show ((m : Nat) : Int) = _; omega)) (int_eq (by show ((i : Nat) : Int) = _; omega))) ?_
    refine CallN.box 70 rfl key fun v V2 bs hV2 ⟨hv, hb2⟩ => ⟨ty, _, hb2, ?_⟩
    subst hv; conv => whnf
    repeat' ((first | refine br_t rfl ?_ | refine br_f rfl ?_ | refine IdxN.lit rfl rfl ?_ | intro _); conv => whnf)
    refine ⟨[70], by simp, [_], rfl, rfl, ?_⟩
    rw [← hfin, List.append_nil]
end Go.Proofs.YtenpginanhnkbaaGreat
end

section
set_option linter.unusedSimpArgs false
set_option linter.unusedVariables false
namespace Go.Proofs.YtenpginanhnkbaaGreat
section
variable {α : Type} {lt : α → α → Bool}
structure Weak2 (lt : α → α → Bool) : Prop where
 trans : ∀ x y z, lt x y = true → lt y z = true → lt x z = true
 ntrans : ∀ x y z, lt x y = false → lt y z = false → lt x z = false
 irr : ∀ x, lt x x = false
/-- laid ahead of the first that it is less than -/
def insL (lt : α → α → Bool) (x : α) : List α → List α
 | [] => [x]
 | y :: l => if lt x y then x :: y :: l else y :: insL lt x l
def mrg (lt : α → α → Bool) : List α → List α → List α
 | [], B => B
 | a :: A, [] => a :: A
 | a :: A, b :: B => if lt b a then b :: mrg lt (a :: A) B else a :: mrg lt A (b :: B)
termination_by A B => A.length + B.length
theorem mrg_nil (A : List α) : mrg lt A [] = A := by cases A <;> rw [mrg]
theorem mrg_cons (a b : α) (A B : List α) : mrg lt (a :: A) (b :: B) = if lt b a then b :: mrg lt (a :: A) B else a :: mrg lt A (b :: B) := by rw [mrg]
/-- none is less than one ahead of it -/
def Srt (lt : α → α → Bool) : List α → Prop
 | [] => True
 | x :: l => (∀ y ∈ l, lt y x = false) ∧ Srt lt l
theorem insL_mem {x y : α} : ∀ {l : List α}, y ∈ insL lt x l ↔ y = x ∨ y ∈ l
 | [] => by simp [insL]
 | z :: l => by
  rw [insL]
  split
  ·simp
  ·simp only [List.mem_cons, insL_mem (l := l)]
   constructor
   ·rintro (h | h | h) <;> simp [h]
   ·rintro (h | h | h) <;> simp [h]
theorem srt_insL (h : Weak2 lt) (x : α) : ∀ {l : List α}, Srt lt l → Srt lt (insL lt x l)
 | [], _ => ⟨by simp, trivial⟩
 | y :: l, hs => by
  rw [insL]
  split
  ·rename_i hxy
   refine ⟨fun z hz => ?_, hs⟩
   rcases List.mem_cons.1 hz with rfl | hz
   ·cases hc : lt z x with
    | false => rfl
    | true => have := h.trans _ _ _ hxy hc; rw [h.irr] at this; cases this
   ·cases hc : lt z x with
    | false => rfl
    | true => have := h.trans _ _ _ hc hxy; rw [hs.1 z hz] at this; cases this
  ·rename_i hxy
   refine ⟨fun z hz => ?_, srt_insL h x hs.2⟩
   rcases insL_mem.1 hz with rfl | hz
   ·simpa using hxy
   ·exact hs.1 z hz
/-- kOf looks from behind for the same place -/
theorem kOf_app (x z : α) (l : List α) (s : List α) : ∀ k, k ≤ l.length → kOf lt x (l ++ s) k = kOf lt x l k
 | 0, _ => rfl
 | k + 1, hk => by
  rw [kOf, kOf, List.getElem?_append_left (by omega)]
  cases l[k]? with
  | none => rfl
  | some y => simp only; rw [kOf_app x z l s k (by omega)]
theorem insF_snoc (x y : α) (l : List α) : insF lt x (l ++ [y]) = if lt x y then insF lt x l ++ [y] else l ++ [y, x] := by
 have e0 : (l ++ [y])[l.length]? = some y := by simp
 have hk := kOf_le lt x l l.length
 unfold insF insAt
 rw [List.length_append, List.length_singleton, kOf, e0]
 simp only
 split
 ·rw [kOf_app x y l [y] _ (Nat.le_refl _), List.take_append_of_le_length hk, List.drop_append_of_le_length hk]
  simp
 ·rw [List.take_of_length_le (by simp), List.drop_of_length_le (by simp)]
  simp
theorem insL_snoc_lt {x y : α} : ∀ {l : List α}, lt x y = true → insL lt x (l ++ [y]) = insL lt x l ++ [y]
 | [], h => by simp [insL, h]
 | z :: l, h => by
  simp only [List.cons_append, insL]
  split
  ·rfl
  ·rw [insL_snoc_lt h]; rfl
theorem insL_last {x : α} : ∀ {l : List α}, (∀ y ∈ l, lt x y = false) → insL lt x l = l ++ [x]
 | [], _ => rfl
 | z :: l, h => by
  rw [insL, if_neg (by rw [h z List.mem_cons_self]; simp), insL_last fun y hy => h y (List.mem_cons_of_mem _ hy)]; rfl
theorem srt_app {A B : List α} (h : Srt lt (A ++ B)) : Srt lt A ∧ Srt lt B ∧ ∀ a ∈ A, ∀ b ∈ B, lt b a = false := by
 induction A with
 | nil => exact ⟨trivial, h, fun a ha => by cases ha⟩
 | cons x A ih =>
  obtain ⟨h1, h2⟩ := h
  obtain ⟨i1, i2, i3⟩ := ih h2
  refine ⟨⟨fun y hy => h1 y (List.mem_append_left _ hy), i1⟩, i2, fun a ha b hb => ?_⟩
  rcases List.mem_cons.1 ha with rfl | ha
  ·exact h1 b (List.mem_append_right _ hb)
  ·exact i3 a ha b hb
theorem insF_eq (hw : Weak2 lt) (x : α) : ∀ (n : Nat) (l : List α), l.length = n → Srt lt l → insF lt x l = insL lt x l
 | 0, l, hn, _ => by
  obtain rfl := List.eq_nil_of_length_eq_zero hn
  rfl
 | n + 1, l, hn, hs => by
  obtain ⟨l', y, rfl⟩ : ∃ l' y, l = l' ++ [y] := ⟨l.dropLast, l.getLast (by intro e; rw [e] at hn; cases hn), (List.dropLast_concat_getLast _).symm⟩
  rw [List.length_append, List.length_singleton] at hn
  obtain ⟨h1, _, h3⟩ := srt_app hs
  rw [insF_snoc]
  split
  ·rename_i hlt
   rw [insF_eq hw x n l' (by omega) h1, insL_snoc_lt hlt]
  ·rename_i hlt
   rw [insL_last fun z hz => ?_]
   ·simp
   ·rcases List.mem_append.1 hz with hz | hz
    ·cases hc : lt x z with
     | false => rfl
     | true =>
      have := h3 z hz y (by simp)
      have := hw.ntrans _ _ _ (by simpa using hlt) this
      rw [hc] at this; cases this
    ·rw [List.mem_singleton.1 hz]; simpa using hlt
/-- to lay one into what is merged is to lay it into the second one -/
theorem insL_mrg (hw : Weak2 lt) (x : α) : ∀ (A C : List α), insL lt x (mrg lt A C) = mrg lt A (insL lt x C)
 | [], C => by rw [mrg, mrg]
 | a :: A, [] => by
  rw [mrg_nil, insL, insL, mrg_cons]
  split
  ·rw [mrg_nil]
  ·have := insL_mrg hw x A []
   rw [mrg_nil, insL.eq_1] at this
   rw [this]
 | a :: A, c :: C => by
  rw [mrg_cons]
  split
  ·rename_i hca
   rw [insL, insL]
   split
   ·rename_i hxc
    rw [mrg_cons, if_pos (hw.trans _ _ _ hxc hca), mrg_cons, if_pos hca]
   ·rename_i hxc
    rw [mrg_cons, if_pos hca, insL_mrg hw x (a :: A) C]
  ·rename_i hca
   rw [insL]
   split
   ·rename_i hxa
    have hxc : lt x c = true := by
     cases hc : lt x c with
     | true => rfl
     | false => have := hw.ntrans _ _ _ hc (by simpa using hca); rw [hxa] at this; cases this
    rw [insL, if_pos hxc, mrg_cons, if_pos hxa, mrg_cons, if_neg hca]
   ·rename_i hxa
    rw [insL_mrg hw x A (c :: C), insL]
    split
    ·rw [mrg_cons, if_neg hxa]
    ·rw [mrg_cons, if_neg hca]
termination_by A C => A.length + C.length
theorem srt_sortF (hw : Weak2 lt) : ∀ (l acc : List α), Srt lt acc → Srt lt (sortF lt acc l)
 | [], acc, h => h
 | x :: l, acc, h => by
  rw [sortF]
  refine srt_sortF hw l _ ?_
  rw [insF_eq hw x _ acc rfl h]
  exact srt_insL hw x h
theorem sortF_app : ∀ (A B acc : List α), sortF lt acc (A ++ B) = sortF lt (sortF lt acc A) B
 | [], B, acc => rfl
 | x :: A, B, acc => by rw [List.cons_append, sortF, sortF, sortF_app A B]
theorem mrg_mem {y : α} : ∀ (A C : List α), y ∈ mrg lt A C ↔ y ∈ A ∨ y ∈ C
 | [], C => by rw [mrg]; simp
 | a :: A, [] => by rw [mrg_nil]; simp
 | a :: A, c :: C => by
  rw [mrg_cons]
  split
  ·rw [List.mem_cons, mrg_mem (a :: A) C, List.mem_cons, List.mem_cons]
   constructor
   ·rintro (h | (h | h) | h) <;> simp [h]
   ·rintro ((h | h) | h | h) <;> simp [h]
  ·rw [List.mem_cons, mrg_mem A (c :: C), List.mem_cons, List.mem_cons]
   constructor
   ·rintro (h | h | h | h) <;> simp [h]
   ·rintro ((h | h) | h | h) <;> simp [h]
termination_by A C => A.length + C.length
theorem mrg_len : ∀ (A C : List α), (mrg lt A C).length = A.length + C.length
 | [], C => by rw [mrg]; simp
 | a :: A, [] => by rw [mrg_nil]; simp
 | a :: A, c :: C => by
  rw [mrg_cons]
  split
  ·rw [List.length_cons, mrg_len (a :: A) C]; simp only [List.length_cons]; omega
  ·rw [List.length_cons, mrg_len A (c :: C)]; simp only [List.length_cons]; omega
termination_by A C => A.length + C.length
theorem srt_mrg (hw : Weak2 lt) : ∀ (A C : List α), Srt lt A → Srt lt C → Srt lt (mrg lt A C)
 | [], C, _, hC => by rw [mrg]; exact hC
 | a :: A, [], hA, _ => by rw [mrg_nil]; exact hA
 | a :: A, c :: C, hA, hC => by
  rw [mrg_cons]
  split
  ·rename_i hca
   refine ⟨fun y hy => ?_, srt_mrg hw (a :: A) C hA hC.2⟩
   rcases (mrg_mem _ _).1 hy with hy | hy
   ·have hac : lt a c = false := by
     cases hc : lt a c with
     | false => rfl
     | true => have := hw.trans _ _ _ hca hc; rw [hw.irr] at this; cases this
    rcases List.mem_cons.1 hy with rfl | hy
    ·exact hac
    ·exact hw.ntrans _ _ _ (hA.1 y hy) hac
   ·exact hC.1 y hy
  ·rename_i hca
   refine ⟨fun y hy => ?_, srt_mrg hw A (c :: C) hA.2 hC⟩
   rcases (mrg_mem _ _).1 hy with hy | hy
   ·exact hA.1 y hy
   ·rcases List.mem_cons.1 hy with rfl | hy
    ·simpa using hca
    ·exact hw.ntrans _ _ _ (hC.1 y hy) (by simpa using hca)
termination_by A C => A.length + C.length
theorem sort_mrg (hw : Weak2 lt) (A : List α) (hA : Srt lt A) : ∀ (B C : List α), Srt lt C → sortF lt (mrg lt A C) B = mrg lt A (sortF lt C B)
 | [], C, hC => rfl
 | x :: B, C, hC => by
  rw [sortF, sortF, insF_eq hw x _ _ rfl (srt_mrg hw A C hA hC), insF_eq hw x _ C rfl hC, insL_mrg hw]
  exact sort_mrg hw A hA B _ (srt_insL hw x hC)
/-- **two lists, sorted each by itself and merged, are both of them sorted** -/
theorem mrg_sortF (hw : Weak2 lt) (A B : List α) : mrg lt (sortF lt [] A) (sortF lt [] B) = sortF lt [] (A ++ B) := by
 rw [sortF_app, ← sort_mrg hw _ (srt_sortF hw A [] trivial) B [] trivial, mrg_nil]
/-- **to merge halves that do not overlap** -/
theorem mrg_split : ∀ (X1 Y1 X2 Y2 : List α), (∀ y ∈ Y1, ∀ x ∈ X2, lt y x = true) → (∀ x ∈ X1, ∀ y ∈ Y2, lt y x = false) → mrg lt (X1 ++ X2) (Y1 ++ Y2) = mrg lt X1 Y1 ++ mrg lt X2 Y2
 | [], [], X2, Y2, _, _ => by rw [mrg]; rfl
 | [], y :: Y1, [], Y2, _, _ => by rw [mrg]; simp [mrg]
 | [], y :: Y1, x :: X2, Y2, h1, h2 => by
  have ih := mrg_split [] Y1 (x :: X2) Y2 (fun y hy => h1 y (List.mem_cons_of_mem _ hy)) h2
  rw [List.nil_append] at ih ⊢
  rw [List.cons_append, mrg_cons, if_pos (h1 y List.mem_cons_self x List.mem_cons_self), ih, mrg, mrg]; rfl
 | x :: X1, [], X2, [], _, _ => by simp [mrg_nil]
 | x :: X1, [], X2, y :: Y2, h1, h2 => by
  have ih := mrg_split X1 [] X2 (y :: Y2) h1 (fun x hx => h2 x (List.mem_cons_of_mem _ hx))
  rw [List.nil_append] at ih ⊢
  rw [List.cons_append, mrg_cons, if_neg (by rw [h2 x List.mem_cons_self y List.mem_cons_self]; simp), ih, mrg_nil, mrg_nil]; rfl
 | x :: X1, y :: Y1, X2, Y2, h1, h2 => by
  rw [List.cons_append, List.cons_append, mrg_cons, mrg_cons]
  split
  ·have ih := mrg_split (x :: X1) Y1 X2 Y2 (fun y hy => h1 y (List.mem_cons_of_mem _ hy)) h2
   rw [List.cons_append] at ih
   rw [ih]; rfl
  ·have ih := mrg_split X1 (y :: Y1) X2 Y2 h1 (fun x hx => h2 x (List.mem_cons_of_mem _ hx))
   rw [List.cons_append] at ih
   rw [ih]; rfl
termination_by X1 Y1 => X1.length + Y1.length
/-- one ahead: it is laid behind those that are less -/
theorem mrg_one (x : α) : ∀ (i : Nat) (Y : List α), i ≤ Y.length → (∀ k y, k < i → Y[k]? = some y → lt y x = true) → (∀ k y, i ≤ k → Y[k]? = some y → lt y x = false) → mrg lt [x] Y = Y.take i ++ x :: Y.drop i
 | 0, [], _, _, _ => by rw [mrg_nil]; rfl
 | 0, y :: Y, _, _, h2 => by
  rw [mrg_cons, if_neg (by rw [h2 0 y (Nat.le_refl _) rfl]; simp), mrg]; rfl
 | i + 1, [], h, _, _ => by simp at h
 | i + 1, y :: Y, h, h1, h2 => by
  rw [mrg_cons, if_pos (h1 0 y (Nat.succ_pos _) rfl), mrg_one x i Y (by simpa using h) (fun k z hk hz => h1 (k + 1) z (by omega) (by simpa using hz)) (fun k z hk hz => h2 (k + 1) z (by omega) (by simpa using hz))]
  rfl
/-- one behind: it is laid ahead of those that it is less than -/
theorem mrg_last (y : α) : ∀ (i : Nat) (X : List α), i ≤ X.length → (∀ k x, k < i → X[k]? = some x → lt y x = false) → (∀ k x, i ≤ k → X[k]? = some x → lt y x = true) → mrg lt X [y] = X.take i ++ y :: X.drop i
 | 0, [], _, _, _ => by rw [mrg]; rfl
 | 0, x :: X, _, _, h2 => by
  rw [mrg_cons, if_pos (h2 0 x (Nat.le_refl _) rfl), mrg_nil]; rfl
 | i + 1, [], h, _, _ => by simp at h
 | i + 1, x :: X, h, h1, h2 => by
  rw [mrg_cons, if_neg (by rw [h1 0 x (Nat.succ_pos _) rfl]; simp), mrg_last y i X (by simpa using h) (fun k z hk hz => h1 (k + 1) z (by omega) (by simpa using hz)) (fun k z hk hz => h2 (k + 1) z (by omega) (by simpa using hz))]
  rfl
/-- in blocks of so many, each sorted -/
def blk (lt : α → α → Bool) (bs : Nat) : Nat → List α → List α
 | 0, l => sortF lt [] l
 | f + 1, l => if l.length ≤ bs then sortF lt [] l else sortF lt [] (l.take bs) ++ blk lt bs f (l.drop bs)
end
end Go.Proofs.YtenpginanhnkbaaGreat
end

section
set_option linter.unusedSimpArgs false
set_option linter.unusedVariables false
namespace Go.Proofs.YtenpginanhnkbaaGreat
open Go.X
set_option maxRecDepth 100000
theorem getI {L : List Value} {k : Nat} {v : Value} (h : L[k]? = some v) : (L.drop (0 + k * 1)).take 1 = [v] := by
 rw [Nat.zero_add, Nat.mul_one, List.drop_eq_getElem_cons (List.getElem?_eq_some_iff.1 h).1]
 rw [List.getElem?_eq_getElem (List.getElem?_eq_some_iff.1 h).1] at h
 rw [Option.some.inj h]; rfl
theorem leI {L : List Value} {k : Nat} {v : Value} (h : L[k]? = some v) : 0 + k * 1 + 1 ≤ L.length := by
 have := (List.getElem?_eq_some_iff.1 h).1; omega
theorem midI {i j : Nat} (h : i + j ≤ 1000000) : IntKind.i64.wrap ((IntKind.u64.wrap (IntKind.i64.wrap ((i : Int) + (j : Int)))).fdiv 2) = (((i + j) / 2 : Nat) : Int) := by
 have h1 : IntKind.i64.wrap ((i : Int) + (j : Int)) = ((i + j : Nat) : Int) := by rw [wrapE]; omega
 have h2 : IntKind.u64.wrap ((i + j : Nat) : Int) = ((i + j : Nat) : Int) := by rw [IntKind.wrap_u64]; omega
 have h3 : (((i + j : Nat) : Int)).fdiv 2 = (((i + j) / 2 : Nat) : Int) := by
  rw [Int.fdiv_eq_ediv_of_nonneg _ (by decide)]; omega
 rw [h1, h2, h3, wrapE]; omega
theorem srt_lt {α : Type} {lt : α → α → Bool} {l : List α} : Srt lt l → ∀ (i j : Nat) (x y : α), i < j → l[i]? = some x → l[j]? = some y → lt y x = false := by
 induction l with
 | nil => intro _ i j x y _ h; simp at h
 | cons a l ih =>
  intro h i j x y hij hx hy
  cases j with
  | zero => omega
  | succ j =>
   cases i with
   | zero =>
    simp only [List.getElem?_cons_zero, Option.some.injEq] at hx
    subst hx
    exact h.1 y (List.mem_of_getElem? (by simpa using hy))
   | succ i => exact ih h.2 i j x y (by omega) (by simpa using hx) (by simpa using hy)
section
variable {α : Type} (vals : α → Value) (hh : ∀ i, Hd (vals i)) (cf : α → α → Int)
/-- of two the first is less -/
abbrev ltC (cf : α → α → Int) (x y : α) : Bool := decide (cf x y < 0)
set_option maxHeartbeats 4000000 in
include hh in
theorem sym1_spec (hw : Weak2 (ltC cf)) (p1 p2 : Value) (blk len cap : Nat) (ty : TypeId) (P S : List Value) (x : α) (Y : List α) (V : View)
    (hcmp : ∀ i j V', V.le V' → PSpec 63 [vals i, vals j, p1, p2] V' (fun v _ => v = .int .i64 (cf i j)))
    (hY : Srt (ltC cf) Y) (hY0 : 0 < Y.length) (hlen : P.length + 1 + Y.length ≤ len) (hl : len ≤ 100000) :
    Does Tryz.prog 96 [.slice (some ⟨blk, 0, none⟩) len cap, .int .i64 P.length, .int .i64 (P.length + 1 : Nat), .int .i64 (P.length + 1 + Y.length : Nat), .func (.func 63) #[] #[p1, p2]] V [.box blk ty (P ++ [vals x] ++ Y.map vals ++ S)]
      (fun v V' bs => v = .tuple #[] ∧ bs = [.box blk ty (P ++ (mrg (ltC cf) [x] Y).map vals ++ S)]) := by
  generalize ha : P.length = a at *
  generalize hm : a + 1 = m at *
  generalize hb : m + Y.length = b at *
  obtain ⟨xb, xn, xc, hxe⟩ := hh x
  refine does_of_zfun [(5, [(1000, [0, 1, 2, 3, 5, 6, 7, 4, 8, 9, 10])]), (11, [(1000, [0, 1, 2, 3, 4, 5, 6, 7, 8, 10, 11, 12, 9, 13, 14, 15, 16, 17])]), (17, [(1000, [0, 1, 2, 3, 5, 6, 7, 4, 8, 9, 10, 11])]), (23, [(1000, [0, 1, 2, 3, 4, 5, 6, 7, 8, 10, 11, 12, 9, 13, 14, 15, 16, 17])]), (35, [(1000, [0, 1, 2, 3, 4, 5, 7, 8, 9, 6, 10, 11, 12, 13])])] mixed (args := [.v _, .v _, .v _, .v _, .v _]) (ms := [(70, .box blk ty (P ++ [vals x] ++ Y.map vals ++ S))]) Tryz.func96 (by kernel_rfl) rfl ?_; conv => whnf
  refine br_t (by show (IntKind.i64.wrap ((m : Int) - (a : Int)) == 1) = true; rw [wrapE]; simp; omega) ?_; conv => whnf
  repeat' ((first | refine br_t rfl ?_ | refine br_f rfl ?_ | refine IdxN.lit rfl rfl ?_ | intro _); conv => whnf)
  have hmid : ∀ (t : Nat) (y : α), Y[t]? = some y → (P ++ [vals x] ++ Y.map vals ++ S)[m + t]? = some (vals y) := fun t y hy => by
    have hlt := (List.getElem?_eq_some_iff.1 hy).1
    rw [List.getElem?_append_left (by simp; omega), List.getElem?_append_right (by simp; omega), List.getElem?_map, show m + t - (P ++ [vals x]).length = t by simp; omega, hy]; rfl
  have hone : (P ++ [vals x] ++ Y.map vals ++ S)[a]? = some (vals x) := by
    rw [List.getElem?_append_left (by simp; omega), List.getElem?_append_left (by simp; omega), List.getElem?_append_right (by omega), show a - P.length = 0 by omega]; rfl
  generalize hL0 : P ++ [vals x] ++ Y.map vals ++ S = L0 at hmid hone
  refine loopz (σ := Nat × Nat) (fun s => [(0, .v (.slice (some ⟨blk, 0, none⟩) len cap)), (1, .v (.int .i64 a)), (2, .v (.int .i64 m)), (3, .v (.int .i64 b)), (4, .v (.func (.func 63) #[] #[p1, p2])), (10, .v (.int .i64 s.1)), (11, .v (.int .i64 s.2))]) (fun s => [(70, .box blk ty L0)])
    (fun k s V' => V.le V' ∧ s.2 - s.1 = k ∧ m ≤ s.1 ∧ s.1 ≤ s.2 ∧ s.2 ≤ b ∧ (∀ k y, k < s.1 - m → Y[k]? = some y → ltC cf y x = true) ∧ (∀ k y, s.2 - m ≤ k → Y[k]? = some y → ltC cf y x = false)) (b - m) (m, b) ?_ ?_ ?_ ?_
  · repeat' (first | exact sees_nil | refine sees_cons rfl rfl rfl ?_)
  · exact keeps_cons rfl keeps_nil
  · refine ⟨View.le_refl _, rfl, Nat.le_refl _, by show m ≤ b; omega, Nat.le_refl _, fun k y hk => absurd hk (by show ¬ k < m - m; omega), fun k y hk hy => ?_⟩
    have hk : b - m ≤ k := hk
    have := (List.getElem?_eq_some_iff.1 hy).1
    omega
  rintro k ⟨i, j⟩ V' ⟨hV, hk, hmi, hij, hjb, hF1, hF2⟩
  replace hk : j - i = k := hk
  replace hmi : m ≤ i := hmi
  replace hij : i ≤ j := hij
  replace hjb : j ≤ b := hjb
  replace hF1 : ∀ k y, k < i - m → Y[k]? = some y → ltC cf y x = true := hF1
  replace hF2 : ∀ k y, j - m ≤ k → Y[k]? = some y → ltC cf y x = false := hF2
  conv => whnf
  apply br <;> intro h1 <;> conv => whnf
  · have h1 : i < j := by have : (i : Int) < (j : Int) := of_decide_eq_true h1
                          omega
    have hmd := midI (i := i) (j := j) (by omega)
    obtain ⟨y, hy⟩ : ∃ y, Y[(i + j) / 2 - m]? = some y := ⟨_, List.getElem?_eq_getElem (by omega)⟩
    have hyL := hmid _ y hy
    rw [show m + ((i + j) / 2 - m) = (i + j) / 2 by omega] at hyL
    refine IdxN.nat ((i + j) / 2) hmd (by omega) ?_; conv => whnf
    refine IdxN.nat a rfl (by omega) ?_; conv => whnf
    refine LoadN.own 70 rfl (l := [vals y]) (leI hyL) (getI hyL) ?_; conv => whnf
    refine LoadN.own 70 rfl (l := [vals x]) (leI hone) (getI hone) ?_; conv => whnf
    refine CallN.pure (hcmp y x _ le_auto) fun v V2 _ hV2 hv => ?_
    subst hv; conv => whnf
    apply br <;> intro h2 <;> conv => whnf
    · repeat' ((first | refine br_t rfl ?_ | refine br_f rfl ?_ | refine IdxN.lit rfl rfl ?_ | intro _); conv => whnf)
      have hlt : ltC cf y x = true := h2
      refine ⟨j - ((i + j) / 2 + 1), ((i + j) / 2 + 1, j), by omega, ?_, keeps_cons rfl keeps_nil, le_auto, rfl, by show m ≤ (i + j) / 2 + 1; omega, by show (i + j) / 2 + 1 ≤ j; omega, hjb, fun k z hk hz => ?_, hF2⟩
      · repeat' (first | exact sees_nil | refine sees_cons rfl rfl rfl ?_ | refine sees_cons rfl rfl (by show some (Value.int .i64 ((i + j) / 2 + 1 : Nat)) = some (Value.int .i64 (IntKind.i64.wrap (IntKind.i64.wrap ((IntKind.u64.wrap (IntKind.i64.wrap ((i : Int) + (j : Int)))).fdiv 2) + 1))); rw [hmd, wrapE]; exact congrArg some (int_eq (by omega))) ?_)
      · have hk : k < (i + j) / 2 + 1 - m := hk
        by_cases hkk : k = (i + j) / 2 - m
        · subst hkk; rw [hy] at hz; exact (Option.some.inj hz) ▸ hlt
        · have hs := srt_lt hY k ((i + j) / 2 - m) z y (by omega) hz hy
          cases hc : ltC cf z x with
          | true => rfl
          | false => have := hw.ntrans _ _ _ hs hc; rw [hlt] at this; cases this
    · repeat' ((first | refine br_t rfl ?_ | refine br_f rfl ?_ | refine IdxN.lit rfl rfl ?_ | intro _); conv => whnf)
      have hlt : ltC cf y x = false := h2
      refine ⟨(i + j) / 2 - i, (i, (i + j) / 2), by omega, ?_, keeps_cons rfl keeps_nil, le_auto, rfl, hmi, by show i ≤ (i + j) / 2; omega, by show (i + j) / 2 ≤ b; omega, hF1, fun k z hk hz => ?_⟩
      · repeat' (first | exact sees_nil | refine sees_cons rfl rfl rfl ?_ | refine sees_cons rfl rfl (by show some (Value.int .i64 ((i + j) / 2 : Nat)) = some (Value.int .i64 (IntKind.i64.wrap ((IntKind.u64.wrap (IntKind.i64.wrap ((i : Int) + (j : Int)))).fdiv 2))); rw [hmd]) ?_)
      · have hk : (i + j) / 2 - m ≤ k := hk
        by_cases hkk : k = (i + j) / 2 - m
        · subst hkk; rw [hy] at hz; exact (Option.some.inj hz) ▸ hlt
        · have hs := srt_lt hY ((i + j) / 2 - m) k y z (by omega) hy hz
          exact hw.ntrans _ _ _ hs hlt
  · have h1 : i = j := by have : ¬ (i : Int) < (j : Int) := of_decide_eq_false h1
                          omega
    subst h1
    repeat' ((first | refine br_t rfl ?_ | refine br_f rfl ?_ | refine IdxN.lit rfl rfl ?_ | intro _); conv => whnf)
    have hm1 := mrg_one (lt := ltC cf) x (i - m) Y (by omega) hF1 hF2
    generalize hn : i - m = n at *
    have hin : i = m + n := by omega
    subst hin
    refine loopz (σ := Nat × List Value) (fun s => [(0, .v (.slice (some ⟨blk, 0, none⟩) len cap)), (1, .v (.int .i64 a)), (2, .v (.int .i64 m)), (3, .v (.int .i64 b)), (4, .v (.func (.func 63) #[] #[p1, p2])), (10, .v (.int .i64 (m + n : Nat))), (13, .v (.int .i64 (a + s.1 : Nat)))]) (fun s => [(70, .box blk ty s.2)])
      (fun k s V' => V.le V' ∧ n - s.1 = k ∧ s.1 ≤ n ∧ s.2 = (P ++ (Y.take s.1).map vals) ++ vals x :: ((Y.drop s.1).map vals ++ S)) n (0, L0) ?_ ?_ ?_ ?_
    · repeat' (first | exact sees_nil | refine sees_cons rfl rfl rfl ?_)
    · exact keeps_cons rfl keeps_nil
    · exact ⟨hV, rfl, Nat.zero_le _, by rw [← hL0]; simp⟩
    rintro k ⟨t, L⟩ V2 ⟨hV2, hk2, htn, hL⟩
    replace hk2 : n - t = k := hk2
    replace htn : t ≤ n := htn
    replace hL : L = (P ++ (Y.take t).map vals) ++ vals x :: ((Y.drop t).map vals ++ S) := hL
    have hp : ((P ++ (Y.take t).map vals)).length = a + t := by simp; omega
    conv => whnf
    apply br <;> intro h2 <;> conv => whnf
    · have h2 : t < n := by
        have : ((a + t : Nat) : Int) < IntKind.i64.wrap (((m + n : Nat) : Int) - 1) := of_decide_eq_true h2
        rw [wrapE] at this; omega
      obtain ⟨y, hy⟩ : ∃ y, Y[t]? = some y := ⟨_, List.getElem?_eq_getElem (by omega)⟩
      have hdrop : Y.drop t = y :: Y.drop (t + 1) := by
        rw [List.drop_eq_getElem_cons (by omega)]
        have e1 : Y[t] = y := by rw [List.getElem?_eq_getElem (by omega)] at hy; exact Option.some.inj hy
        rw [e1]
      obtain ⟨yb, yn, yc, hye⟩ := hh y
      have eL1 : L = (P ++ (Y.take t).map vals) ++ .slice xb xn xc :: (.slice yb yn yc :: ((Y.drop (t + 1)).map vals ++ S)) := by
        rw [hL, hdrop, List.map_cons, hye, hxe]; rfl
      have eL2 : L = ((P ++ (Y.take t).map vals) ++ [.slice xb xn xc]) ++ .slice yb yn yc :: ((Y.drop (t + 1)).map vals ++ S) := by rw [eL1]; simp
      have l1 : a + t = (P ++ (Y.take t).map vals).length := hp.symm
      have l2 : a + t + 1 = ((P ++ (Y.take t).map vals) ++ [Value.slice xb xn xc]).length := by rw [List.length_append, hp]; rfl
      have l3 : a + t + 1 + 1 ≤ L.length := by rw [eL2, List.length_append, List.length_cons, ← l2]; omega
      have hw1 : IntKind.i64.wrap (((a + t : Nat) : Int) + 1) = ((a + t + 1 : Nat) : Int) := wrap_nat (by omega)
      refine IdxN.nat (a + t + 1) hw1 (by omega) ?_; conv => whnf
      refine IdxN.nat (a + t) rfl (by omega) ?_; conv => whnf
      refine LoadN.own 70 rfl (l := [.slice yb yn yc]) (by show 0 + (a + t + 1) * 1 + 1 ≤ L.length; omega) (by show (L.drop (0 + (a + t + 1) * 1)).take 1 = _; rw [eL2]; exact get1 _ _ _ _ l2) ?_; conv => whnf
      refine LoadN.own 70 rfl (l := [.slice xb xn xc]) (by show 0 + (a + t) * 1 + 1 ≤ L.length; omega) (by show (L.drop (0 + (a + t) * 1)).take 1 = _; rw [eL1]; exact get1 _ _ _ _ l1) ?_; conv => whnf
      refine IdxN.nat (a + t) rfl (by omega) ?_; conv => whnf
      have e1 : setAt L (0 + (a + t) * 1) [.slice yb yn yc] = ((P ++ (Y.take t).map vals) ++ [.slice yb yn yc]) ++ .slice yb yn yc :: ((Y.drop (t + 1)).map vals ++ S) := by
        rw [eL1, set1 _ _ _ _ _ l1]; simp
      refine StoN.own 70 rfl (by show 0 + (a + t) * 1 + 1 ≤ L.length; omega) ?_; conv => whnf
      have l4 : a + t + 1 = ((P ++ (Y.take t).map vals) ++ [Value.slice yb yn yc]).length := by rw [List.length_append, hp]; rfl
      have e2 : setAt (setAt L (0 + (a + t) * 1) [.slice yb yn yc]) (0 + (a + t + 1) * 1) [.slice xb xn xc] = ((P ++ (Y.take t).map vals) ++ [.slice yb yn yc]) ++ .slice xb xn xc :: ((Y.drop (t + 1)).map vals ++ S) := by
        rw [e1]; exact set1 _ _ _ _ _ l4
      have l5 : a + t + 1 + 1 ≤ (setAt L (0 + (a + t) * 1) [.slice yb yn yc]).length := by rw [e1, List.length_append, List.length_cons, ← l4]; omega
      refine IdxN.nat (a + t + 1) hw1 (by omega) ?_; conv => whnf
      refine StoN.own 70 rfl (by show 0 + (a + t + 1) * 1 + 1 ≤ (setAt L (0 + (a + t) * 1) [.slice yb yn yc]).length; omega) ?_; conv => whnf
      refine ⟨k - 1, (t + 1, ((P ++ (Y.take t).map vals) ++ [.slice yb yn yc]) ++ .slice xb xn xc :: ((Y.drop (t + 1)).map vals ++ S)), by omega, ?_, ?_, ?_⟩
      · repeat' (first | exact sees_nil | refine sees_cons rfl rfl rfl ?_ | refine sees_cons rfl rfl (by rw [← Nat.add_assoc, ← hw1]; rfl) ?_)
      · exact keeps_cons (by rw [← e2]; rfl) keeps_nil
      · refine ⟨le_auto, by show n - (t + 1) = _; omega, h2, ?_⟩
        show _ = (P ++ (Y.take (t + 1)).map vals) ++ vals x :: ((Y.drop (t + 1)).map vals ++ S)
        rw [List.take_add_one, hy, hxe, ← hye]
        simp
    · have h2 : t = n := by
        have : ¬ ((a + t : Nat) : Int) < IntKind.i64.wrap (((m + n : Nat) : Int) - 1) := of_decide_eq_false h2
        rw [wrapE] at this; omega
      subst h2
      repeat' ((first | refine br_t rfl ?_ | refine br_f rfl ?_ | refine IdxN.lit rfl rfl ?_ | intro _); conv => whnf)
      refine ⟨[70], by simp, [_], rfl, rfl, ?_⟩
      have e : L = P ++ (mrg (ltC cf) [x] Y).map vals ++ S := by rw [hL, hm1]; simp
      rw [e]
set_option maxHeartbeats 4000000 in
include hh in
theorem sym2_spec (hw : Weak2 (ltC cf)) (p1 p2 : Value) (blk len cap : Nat) (ty : TypeId) (P S : List Value) (X : List α) (y : α) (V : View)
    (hcmp : ∀ i j V', V.le V' → PSpec 63 [vals i, vals j, p1, p2] V' (fun v _ => v = .int .i64 (cf i j)))
    (hX : Srt (ltC cf) X) (hX0 : 2 ≤ X.length) (hlen : P.length + X.length + 1 ≤ len) (hl : len ≤ 100000) :
    Does Tryz.prog 96 [.slice (some ⟨blk, 0, none⟩) len cap, .int .i64 P.length, .int .i64 (P.length + X.length : Nat), .int .i64 (P.length + X.length + 1 : Nat), .func (.func 63) #[] #[p1, p2]] V [.box blk ty (P ++ X.map vals ++ [vals y] ++ S)]
      (fun v V' bs => v = .tuple #[] ∧ bs = [.box blk ty (P ++ (mrg (ltC cf) X [y]).map vals ++ S)]) := by
  generalize ha : P.length = a at *
  generalize hm : a + X.length = m at *
  generalize hb : m + 1 = b at *
  obtain ⟨yb, yn, yc, hye⟩ := hh y
  refine does_of_zfun [(5, [(1000, [0, 1, 2, 3, 5, 6, 7, 4, 8, 9, 10])]), (11, [(1000, [0, 1, 2, 3, 4, 5, 6, 7, 8, 10, 11, 12, 9, 13, 14, 15, 16, 17])]), (17, [(1000, [0, 1, 2, 3, 5, 6, 7, 4, 8, 9, 10, 11])]), (23, [(1000, [0, 1, 2, 3, 4, 5, 6, 7, 8, 10, 11, 12, 9, 13, 14, 15, 16, 17])]), (35, [(1000, [0, 1, 2, 3, 4, 5, 7, 8, 9, 6, 10, 11, 12, 13])])] mixed (args := [.v _, .v _, .v _, .v _, .v _]) (ms := [(70, .box blk ty (P ++ X.map vals ++ [vals y] ++ S))]) Tryz.func96 (by kernel_rfl) rfl ?_; conv => whnf
  refine br_f (by show (IntKind.i64.wrap ((m : Int) - (a : Int)) == 1) = false; rw [wrapE]; simp; omega) ?_; conv => whnf
  refine br_t (by show (IntKind.i64.wrap ((b : Int) - (m : Int)) == 1) = true; rw [wrapE]; simp; omega) ?_; conv => whnf
  repeat' ((first | refine br_t rfl ?_ | refine br_f rfl ?_ | refine IdxN.lit rfl rfl ?_ | intro _); conv => whnf)
  have hmid : ∀ (t : Nat) (x : α), X[t]? = some x → (P ++ X.map vals ++ [vals y] ++ S)[a + t]? = some (vals x) := fun t x hx => by
    have hlt := (List.getElem?_eq_some_iff.1 hx).1
    rw [List.getElem?_append_left (by simp; omega), List.getElem?_append_left (by simp; omega), List.getElem?_append_right (by omega), List.getElem?_map, show a + t - P.length = t by omega, hx]; rfl
  have hone : (P ++ X.map vals ++ [vals y] ++ S)[m]? = some (vals y) := by
    rw [List.getElem?_append_left (by simp; omega), List.getElem?_append_right (by simp; omega), show m - (P ++ X.map vals).length = 0 by simp; omega]; rfl
  generalize hL0 : P ++ X.map vals ++ [vals y] ++ S = L0 at hmid hone
  refine loopz (σ := Nat × Nat) (fun s => [(0, .v (.slice (some ⟨blk, 0, none⟩) len cap)), (1, .v (.int .i64 a)), (2, .v (.int .i64 m)), (3, .v (.int .i64 b)), (4, .v (.func (.func 63) #[] #[p1, p2])), (14, .v (.int .i64 s.1)), (15, .v (.int .i64 s.2))]) (fun s => [(70, .box blk ty L0)])
    (fun k s V' => V.le V' ∧ s.2 - s.1 = k ∧ a ≤ s.1 ∧ s.1 ≤ s.2 ∧ s.2 ≤ m ∧ (∀ k z, k < s.1 - a → X[k]? = some z → ltC cf y z = false) ∧ (∀ k z, s.2 - a ≤ k → X[k]? = some z → ltC cf y z = true)) (m - a) (a, m) ?_ ?_ ?_ ?_
  · repeat' (first | exact sees_nil | refine sees_cons rfl rfl rfl ?_)
  · exact keeps_cons rfl keeps_nil
  · refine ⟨View.le_refl _, rfl, Nat.le_refl _, by show a ≤ m; omega, Nat.le_refl _, fun k z hk => absurd hk (by show ¬ k < a - a; omega), fun k z hk hz => ?_⟩
    have hk : m - a ≤ k := hk
    have := (List.getElem?_eq_some_iff.1 hz).1
    omega
  rintro k ⟨i, j⟩ V' ⟨hV, hk, hmi, hij, hjb, hF1, hF2⟩
  replace hk : j - i = k := hk
  replace hmi : a ≤ i := hmi
  replace hij : i ≤ j := hij
  replace hjb : j ≤ m := hjb
  replace hF1 : ∀ k z, k < i - a → X[k]? = some z → ltC cf y z = false := hF1
  replace hF2 : ∀ k z, j - a ≤ k → X[k]? = some z → ltC cf y z = true := hF2
  conv => whnf
  apply br <;> intro h1 <;> conv => whnf
  · have h1 : i < j := by have : (i : Int) < (j : Int) := of_decide_eq_true h1
                          omega
    have hmd := midI (i := i) (j := j) (by omega)
    obtain ⟨x, hx⟩ : ∃ x, X[(i + j) / 2 - a]? = some x := ⟨_, List.getElem?_eq_getElem (by omega)⟩
    have hxL := hmid _ x hx
    rw [show a + ((i + j) / 2 - a) = (i + j) / 2 by omega] at hxL
    refine IdxN.nat m rfl (by omega) ?_; conv => whnf
    refine IdxN.nat ((i + j) / 2) hmd (by omega) ?_; conv => whnf
    refine LoadN.own 70 rfl (l := [vals y]) (leI hone) (getI hone) ?_; conv => whnf
    refine LoadN.own 70 rfl (l := [vals x]) (leI hxL) (getI hxL) ?_; conv => whnf
    refine CallN.pure (hcmp y x _ le_auto) fun v V2 _ hV2 hv => ?_
    subst hv; conv => whnf
    apply br <;> intro h2 <;> conv => whnf
    · repeat' ((first | refine br_t rfl ?_ | refine br_f rfl ?_ | refine IdxN.lit rfl rfl ?_ | intro _); conv => whnf)
      have hlt : ltC cf y x = false := by simpa using h2
      refine ⟨j - ((i + j) / 2 + 1), ((i + j) / 2 + 1, j), by omega, ?_, keeps_cons rfl keeps_nil, le_auto, rfl, by show a ≤ (i + j) / 2 + 1; omega, by show (i + j) / 2 + 1 ≤ j; omega, hjb, fun k z hk hz => ?_, hF2⟩
      · repeat' (first | exact sees_nil | refine sees_cons rfl rfl rfl ?_ | refine sees_cons rfl rfl (by show some (Value.int .i64 ((i + j) / 2 + 1 : Nat)) = some (Value.int .i64 (IntKind.i64.wrap (IntKind.i64.wrap ((IntKind.u64.wrap (IntKind.i64.wrap ((i : Int) + (j : Int)))).fdiv 2) + 1))); rw [hmd, wrapE]; exact congrArg some (int_eq (by omega))) ?_)
      · have hk : k < (i + j) / 2 + 1 - a := hk
        by_cases hkk : k = (i + j) / 2 - a
        · subst hkk; rw [hx] at hz; exact (Option.some.inj hz) ▸ hlt
        · have hs := srt_lt hX k ((i + j) / 2 - a) z x (by omega) hz hx
          exact hw.ntrans _ _ _ hlt hs
    · repeat' ((first | refine br_t rfl ?_ | refine br_f rfl ?_ | refine IdxN.lit rfl rfl ?_ | intro _); conv => whnf)
      have hlt : ltC cf y x = true := by simpa using h2
      refine ⟨(i + j) / 2 - i, (i, (i + j) / 2), by omega, ?_, keeps_cons rfl keeps_nil, le_auto, rfl, hmi, by show i ≤ (i + j) / 2; omega, by show (i + j) / 2 ≤ m; omega, hF1, fun k z hk hz => ?_⟩
      · repeat' (first | exact sees_nil | refine sees_cons rfl rfl rfl ?_ | refine sees_cons rfl rfl (by show some (Value.int .i64 ((i + j) / 2 : Nat)) = some (Value.int .i64 (IntKind.i64.wrap ((IntKind.u64.wrap (IntKind.i64.wrap ((i : Int) + (j : Int)))).fdiv 2))); rw [hmd]) ?_)
      · have hk : (i + j) / 2 - a ≤ k := hk
        by_cases hkk : k = (i + j) / 2 - a
        · subst hkk; rw [hx] at hz; exact (Option.some.inj hz) ▸ hlt
        · have hs := srt_lt hX ((i + j) / 2 - a) k x z (by omega) hx hz
          cases hc : ltC cf y z with
          | true => rfl
          | false => have := hw.ntrans _ _ _ hc hs; rw [hlt] at this; cases this
  · have h1 : i = j := by have : ¬ (i : Int) < (j : Int) := of_decide_eq_false h1
                          omega
    subst h1
    repeat' ((first | refine br_t rfl ?_ | refine br_f rfl ?_ | refine IdxN.lit rfl rfl ?_ | intro _); conv => whnf)
    have hm1 := mrg_last (lt := ltC cf) y (i - a) X (by omega) hF1 hF2
    generalize hn : i - a = n at *
    have hin : i = a + n := by omega
    subst hin
    refine loopz (σ := Nat × List Value) (fun s => [(0, .v (.slice (some ⟨blk, 0, none⟩) len cap)), (1, .v (.int .i64 a)), (2, .v (.int .i64 m)), (3, .v (.int .i64 b)), (4, .v (.func (.func 63) #[] #[p1, p2])), (14, .v (.int .i64 (a + n : Nat))), (17, .v (.int .i64 (a + s.1 : Nat)))]) (fun s => [(70, .box blk ty s.2)])
      (fun k s V' => V.le V' ∧ s.1 - n = k ∧ n ≤ s.1 ∧ s.1 ≤ X.length ∧ s.2 = (P ++ (X.take s.1).map vals) ++ vals y :: ((X.drop s.1).map vals ++ S)) (X.length - n) (X.length, L0) ?_ ?_ ?_ ?_
    · repeat' (first | exact sees_nil | refine sees_cons rfl rfl rfl ?_ | refine sees_cons rfl rfl (by show some (Value.int .i64 (a + X.length : Nat)) = _; rw [hm]) ?_)
    · exact keeps_cons rfl keeps_nil
    · exact ⟨hV, rfl, by show n ≤ X.length; omega, Nat.le_refl _, by rw [← hL0]; simp⟩
    rintro k ⟨t1, L⟩ V2 ⟨hV2, hk2, hnt, htX, hL⟩
    replace hk2 : t1 - n = k := hk2
    replace hnt : n ≤ t1 := hnt
    replace htX : t1 ≤ X.length := htX
    replace hL : L = (P ++ (X.take t1).map vals) ++ vals y :: ((X.drop t1).map vals ++ S) := hL
    conv => whnf
    apply br <;> intro h2 <;> conv => whnf
    · have h2 : n < t1 := by
        have : ((a + t1 : Nat) : Int) > ((a + n : Nat) : Int) := of_decide_eq_true h2
        omega
      obtain ⟨t, rfl⟩ : ∃ t, t1 = t + 1 := ⟨t1 - 1, by omega⟩
      obtain ⟨x, hx⟩ : ∃ x, X[t]? = some x := ⟨_, List.getElem?_eq_getElem (by omega)⟩
      have hdrop : X.drop t = x :: X.drop (t + 1) := by
        rw [List.drop_eq_getElem_cons (by omega)]
        have e1 : X[t] = x := by rw [List.getElem?_eq_getElem (by omega)] at hx; exact Option.some.inj hx
        rw [e1]
      obtain ⟨xb, xn, xc, hxe⟩ := hh x
      have hp : ((P ++ (X.take t).map vals)).length = a + t := by simp; omega
      have eL1 : L = (P ++ (X.take t).map vals) ++ .slice xb xn xc :: (.slice yb yn yc :: ((X.drop (t + 1)).map vals ++ S)) := by
        rw [hL, List.take_add_one, hx, List.map_append, ← hxe, ← hye]; simp
      have eL2 : L = ((P ++ (X.take t).map vals) ++ [.slice xb xn xc]) ++ .slice yb yn yc :: ((X.drop (t + 1)).map vals ++ S) := by rw [eL1]; simp
      have l1 : a + t = (P ++ (X.take t).map vals).length := hp.symm
      have l2 : a + t + 1 = ((P ++ (X.take t).map vals) ++ [Value.slice xb xn xc]).length := by rw [List.length_append, hp]; rfl
      have l3 : a + t + 1 + 1 ≤ L.length := by rw [eL2, List.length_append, List.length_cons, ← l2]; omega
      have hw1 : IntKind.i64.wrap (((a + (t + 1) : Nat) : Int) - 1) = ((a + t : Nat) : Int) := by rw [wrapE]; omega
      refine IdxN.nat (a + t) hw1 (by omega) ?_; conv => whnf
      refine IdxN.nat (a + t + 1) rfl (by omega) ?_; conv => whnf
      refine LoadN.own 70 rfl (l := [.slice xb xn xc]) (by show 0 + (a + t) * 1 + 1 ≤ L.length; omega) (by show (L.drop (0 + (a + t) * 1)).take 1 = _; rw [eL1]; exact get1 _ _ _ _ l1) ?_; conv => whnf
      refine LoadN.own 70 rfl (l := [.slice yb yn yc]) (by show 0 + (a + t + 1) * 1 + 1 ≤ L.length; omega) (by show (L.drop (0 + (a + t + 1) * 1)).take 1 = _; rw [eL2]; exact get1 _ _ _ _ l2) ?_; conv => whnf
      refine IdxN.nat (a + t + 1) rfl (by omega) ?_; conv => whnf
      have e1 : setAt L (0 + (a + t + 1) * 1) [.slice xb xn xc] = (P ++ (X.take t).map vals) ++ .slice xb xn xc :: (.slice xb xn xc :: ((X.drop (t + 1)).map vals ++ S)) := by
        rw [eL2, set1 _ _ _ _ _ l2]; simp
      refine StoN.own 70 rfl (by show 0 + (a + t + 1) * 1 + 1 ≤ L.length; omega) ?_; conv => whnf
      have e2 : setAt (setAt L (0 + (a + t + 1) * 1) [.slice xb xn xc]) (0 + (a + t) * 1) [.slice yb yn yc] = (P ++ (X.take t).map vals) ++ .slice yb yn yc :: (.slice xb xn xc :: ((X.drop (t + 1)).map vals ++ S)) := by
        rw [e1]; exact set1 _ _ _ _ _ l1
      have l5 : a + t + 1 ≤ (setAt L (0 + (a + t + 1) * 1) [.slice xb xn xc]).length := by rw [e1, List.length_append, List.length_cons, ← l1]; omega
      refine IdxN.nat (a + t) hw1 (by omega) ?_; conv => whnf
      refine StoN.own 70 rfl (by show 0 + (a + t) * 1 + 1 ≤ (setAt L (0 + (a + t + 1) * 1) [.slice xb xn xc]).length; omega) ?_; conv => whnf
      refine ⟨k - 1, (t, (P ++ (X.take t).map vals) ++ .slice yb yn yc :: (.slice xb xn xc :: ((X.drop (t + 1)).map vals ++ S))), by omega, ?_, ?_, ?_⟩
      · repeat' (first | exact sees_nil | refine sees_cons rfl rfl rfl ?_ | refine sees_cons rfl rfl (by rw [← hw1]; rfl) ?_)
      · exact keeps_cons (by rw [← e2]; rfl) keeps_nil
      · refine ⟨le_auto, by show t - n = _; omega, by show n ≤ t; omega, by show t ≤ X.length; omega, ?_⟩
        show _ = (P ++ (X.take t).map vals) ++ vals y :: ((X.drop t).map vals ++ S)
        rw [hdrop, List.map_cons, hxe, hye]
        simp
    · have h2 : t1 = n := by
        have : ¬ ((a + t1 : Nat) : Int) > ((a + n : Nat) : Int) := of_decide_eq_false h2
        omega
      subst h2
      repeat' ((first | refine br_t rfl ?_ | refine br_f rfl ?_ | refine IdxN.lit rfl rfl ?_ | intro _); conv => whnf)
      refine ⟨[70], by simp, [_], rfl, rfl, ?_⟩
      have e : L = P ++ (mrg (ltC cf) X [y]).map vals ++ S := by rw [hL, hm1]; simp
      rw [e]
end
end Go.Proofs.YtenpginanhnkbaaGreat
end
