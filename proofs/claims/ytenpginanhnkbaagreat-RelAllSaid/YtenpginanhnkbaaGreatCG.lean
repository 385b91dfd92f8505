/- One part of a proof: an evaluator of the model, shown right, and contracts that it yields. No condition beyond those that each theorem names. -/
import Derived.Test.YtenpginanhnkbaaGreatCF
import Derived.Test.YtenpginanhnkbaaGreatCD
section
set_option linter.unusedSimpArgs false
set_option linter.unusedVariables false
namespace Go.Proofs.YtenpginanhnkbaaGreat
open Go.X
set_option maxRecDepth 100000
/-- a plan, whose region r is lent a box -/
def lendP (r id : Nat) : Plans → Plans
 | [] => []
 | (k, L) :: l => (match Nat.beq k r with | true => (k, (2000, [id]) :: L) | false => (k, L)) :: lendP r id l
theorem args4 {a b c d b' c' : Value} (h1 : b = b') (h2 : c = c') : [a, b, c, d] = [a, b', c', d] := by rw [h1, h2]
def sB {α : Type} (cf : α → α → Int) (l : List α) : List α := sortF (ltC cf) [] l
theorem sB_len {α : Type} (cf : α → α → Int) (l : List α) : (sB cf l).length = l.length := by rw [sB, sortF_len]; simp
section
variable {m : Nat} (vals : Fin (m + 1) → Value) (hh : ∀ i, Hd (vals i)) (cf : Fin (m + 1) → Fin (m + 1) → Int)
set_option maxHeartbeats 4000000 in
include hh in
theorem insL_spec (p1 p2 : Value) (blk cap : Nat) (ty : TypeId) (A X R : List (Fin (m + 1))) (rest : List Value) (n : Nat) (V : View) (hn : n = (A ++ (X ++ R)).length)
  (hcmp : ∀ i j V', V.le V' → PSpec 63 [vals i, vals j, p1, p2] V' (fun v _ => v = .int .i64 (cf i j))) (hl : n ≤ 100000) :
  Does Tryz.prog 95 [.slice (some ⟨blk, 0, none⟩) n cap, .int .i64 A.length, .int .i64 (A.length + X.length : Nat), .func (.func 63) #[] #[p1, p2]] V [.box blk ty ((A ++ (X ++ R)).map vals ++ rest)]
   (fun v V' bs => v = .tuple #[] ∧ bs = [.box blk ty ((A ++ (sB cf X ++ R)).map vals ++ rest)]) := by
 simp only [List.length_append] at hn
 generalize ha : A.length = a at *
 refine does_of_zfun (lendP 4 70 [(4, [(0, []), (1, []), (2, []), (3, []), (4, []), (5, []), (6, []), (7, []), (8, []), (9, []), (10, []), (11, []), (12, []), (13, []), (14, []), (15, []), (16, [])]), (6, [(1000, [0, 1, 2, 3, 4, 5, 6, 7, 8, 10, 11, 12, 9, 13, 14, 15, 16, 17])])]) mixed (args := [.v _, .v _, .v _, .v _]) (ms := [(70, .box blk ty ((A ++ (X ++ R)).map vals ++ rest))]) Tryz.func95 (by kernel_rfl) rfl ?_; conv => whnf
 repeat' ((first | refine br_t rfl ?_ | refine br_f rfl ?_ | refine IdxN.lit rfl rfl ?_ | intro _); conv => whnf)
 refine loopz (σ := Nat × List (Fin (m + 1)) × List (Fin (m + 1))) (fun s => [(0, .v (.slice (some ⟨blk, 0, none⟩) n cap)), (1, .v (.int .i64 a)), (2, .v (.int .i64 (a + X.length : Nat))), (3, .v (.func (.func 63) #[] #[p1, p2])), (8, .v (.int .i64 (s.1 : Nat)))]) (fun s => [(70, .box blk ty ((A ++ (s.2.1 ++ (s.2.2 ++ R))).map vals ++ rest))])
  (fun j s V' => V.le V' ∧ s.2.2.length = j ∧ sortF (ltC cf) s.2.1 s.2.2 = sB cf X ∧ s.2.1.length + s.2.2.length = X.length ∧ (s.1 = a + s.2.1.length ∨ (X = [] ∧ s.1 = a + 1))) (X.length - 1) (a + 1, X.take 1, X.drop 1) ?_ ?_ ?_ ?_
 ·repeat' (first | exact sees_nil | refine sees_cons rfl rfl rfl ?_ | refine sees_cons rfl rfl (by rw [show ((a + 1 : Nat) : Int) = IntKind.i64.wrap ((a : Int) + 1) by rw [wrapE]; omega]; rfl) ?_)
 ·exact keeps_cons (by rw [show (A ++ (X.take 1 ++ (X.drop 1 ++ R))) = A ++ (X ++ R) by rw [← List.append_assoc (X.take 1), List.take_append_drop]]; rfl) keeps_nil
 ·refine ⟨View.le_refl _, by simp, ?_, by simp; omega, ?_⟩
  ·cases X with
   | nil => rfl
   | cons x r => rfl
  ·cases X with
   | nil => exact .inr ⟨rfl, rfl⟩
   | cons x r => exact .inl rfl
 rintro j ⟨i, S, r⟩ V1 ⟨hV1, hj, hs, hSr, hi⟩
 replace hj : r.length = j := hj
 replace hs : sortF (ltC cf) S r = sB cf X := hs
 replace hSr : S.length + r.length = X.length := hSr
 replace hi : i = a + S.length ∨ (X = [] ∧ i = a + 1) := hi
 conv => whnf
 apply br <;> intro h1 <;> conv => whnf
 ·have h1 : (i : Int) < ((a + X.length : Nat) : Int) := of_decide_eq_true h1
  have hi : i = a + S.length := by
   rcases hi with hi | ⟨hi, hi2⟩
   ·exact hi
   ·rw [hi] at h1; simp only [List.length_nil] at h1; omega
  obtain ⟨x, r', rfl⟩ : ∃ x r', r = x :: r' := by
   cases r with
   | nil => simp only [List.length_nil] at hSr; omega
   | cons x r' => exact ⟨x, r', rfl⟩
  rw [sortF] at hs
  rw [List.length_cons] at hSr hj
  repeat' ((first | refine br_t rfl ?_ | refine br_f rfl ?_ | refine IdxN.lit rfl rfl ?_ | intro _); conv => whnf)
  refine loopz (σ := Nat) (fun k => [(0, .v (.slice (some ⟨blk, 0, none⟩) n cap)), (1, .v (.int .i64 a)), (2, .v (.int .i64 (a + X.length : Nat))), (3, .v (.func (.func 63) #[] #[p1, p2])), (8, .v (.int .i64 (i : Nat))), (9, .v (.int .i64 (a + k : Nat)))]) (fun k => [(70, .box blk ty ((A ++ (insAt x S k ++ (r' ++ R))).map vals ++ rest))])
   (fun j k V' => V1.le V' ∧ k = j ∧ k ≤ S.length ∧ kOf (ltC cf) x S k = kOf (ltC cf) x S S.length) S.length S.length ?_ ?_ ?_ ?_
  ·repeat' (first | exact sees_nil | refine sees_cons rfl rfl rfl ?_ | refine sees_cons rfl rfl (by rw [← hi]; rfl) ?_)
  ·exact keeps_cons (by simp [insAt]; rfl) keeps_nil
  ·exact ⟨View.le_refl _, rfl, Nat.le_refl _, rfl⟩
  rintro j2 k V2 ⟨hV2, hk, hkS, hkO⟩
  replace hk : k = j2 := hk
  replace hkS : k ≤ S.length := hkS
  replace hkO : kOf (ltC cf) x S k = kOf (ltC cf) x S S.length := hkO
  conv => whnf
  intro l4
  conv => whnf
  have hle : n = a + (S.length + 1 + r'.length + R.length) := by omega
  apply br <;> intro h2 <;> conv => whnf
  ·have h2' : ((a + k : Nat) : Int) > (a : Int) := of_decide_eq_true h2
   obtain ⟨k', rfl⟩ : ∃ k', k = k' + 1 := ⟨k - 1, by omega⟩
   obtain ⟨y, hy⟩ : ∃ y, S[k']? = some y := ⟨_, List.getElem?_eq_getElem (by omega)⟩
   have htake : S.take (k' + 1) = S.take k' ++ [y] := by rw [List.take_add_one, hy]; rfl
   have hdrop : S.drop k' = y :: S.drop (k' + 1) := by
    rw [List.drop_eq_getElem_cons (by omega)]
    have e1 : S[k'] = y := by rw [List.getElem?_eq_getElem (by omega)] at hy; exact Option.some.inj hy
    rw [e1]
   have hkf : kOf (ltC cf) x S (k' + 1) = if ltC cf x y then kOf (ltC cf) x S k' else k' + 1 := by rw [kOf, hy]
   have eL : (A ++ (insAt x S (k' + 1) ++ (r' ++ R))).map vals ++ rest = (A ++ S.take k').map vals ++ vals y :: (vals x :: ((S.drop (k' + 1) ++ (r' ++ R)).map vals ++ rest)) := by
    rw [insAt, htake]; simp
   have eM : (A ++ (insAt x S k' ++ (r' ++ R))).map vals ++ rest = (A ++ S.take k').map vals ++ vals x :: (vals y :: ((S.drop (k' + 1) ++ (r' ++ R)).map vals ++ rest)) := by
    rw [insAt, hdrop]; simp
   have hcm := hcmp x y
   obtain ⟨xb, xn, xc, hxe⟩ := hh x
   obtain ⟨yb, yn, yc, hye⟩ := hh y
   rw [hxe, hye] at eL eM hcm
   have l1 : a + k' = ((A ++ S.take k').map vals).length := by rw [List.length_map, List.length_append, List.length_take]; omega
   have l2 : a + (k' + 1) = ((A ++ S.take k').map vals ++ [Value.slice yb yn yc]).length := by rw [List.length_append, ← l1]; rfl
   have eL2 : (A ++ (insAt x S (k' + 1) ++ (r' ++ R))).map vals ++ rest = ((A ++ S.take k').map vals ++ [.slice yb yn yc]) ++ .slice xb xn xc :: ((S.drop (k' + 1) ++ (r' ++ R)).map vals ++ rest) := by rw [eL]; simp
   generalize hLg : (A ++ (insAt x S (k' + 1) ++ (r' ++ R))).map vals ++ rest = L at *
   have hx1 : (V2.add blk L).has blk (0 + (a + (k' + 1))) [.slice xb xn xc] := has_one View.add_has (by rw [eL2, l2, List.getElem?_append_right (Nat.le_refl _), Nat.sub_self]; rfl)
   have hy1 : (V2.add blk L).has blk (0 + (a + k')) [.slice yb yn yc] := has_one View.add_has (by rw [eL, l1, List.getElem?_append_right (Nat.le_refl _), Nat.sub_self]; rfl)
   repeat (refine br_t h2 ?_; conv => whnf)
   refine IdxN.nat (a + (k' + 1)) rfl (by omega) ?_; conv => whnf
   repeat (refine br_t h2 ?_; conv => whnf)
   refine LoadN.of (hx1.mono le_auto) 0 (by show 0 + (a + (k' + 1)) * 1 = 0 + (a + (k' + 1)) + 0; omega) rfl ?_; conv => whnf
   repeat (refine br_t h2 ?_; conv => whnf)
   refine IdxN.nat (a + k') (by show IntKind.i64.wrap _ = _; rw [wrapE]; omega) (by omega) ?_; conv => whnf
   repeat (refine br_t h2 ?_; conv => whnf)
   refine LoadN.of (hy1.mono le_auto) 0 (by show 0 + (a + k') * 1 = 0 + (a + k') + 0; omega) rfl ?_; conv => whnf
   repeat (refine br_t h2 ?_; conv => whnf)
   refine CallN.pure (hcm _ le_auto) fun v V3 _ hV3 hv => ?_
   subst hv
   refine Prot.refl ?_; conv => whnf
   repeat (refine br_t h2 ?_; conv => whnf)
   intro hc
   conv => whnf
   apply br <;> intro h3 <;> conv => whnf
   ·have h3' : ltC cf x y = true := h3
    have hk1 : kOf (ltC cf) x S k' = kOf (ltC cf) x S S.length := by rw [← hkO, hkf, if_pos h3']
    have lL : a + k' + 1 + 1 ≤ L.length := by rw [eL, List.length_append, ← l1]; simp only [List.length_cons]; omega
    have e1 : setAt L (0 + (a + (k' + 1)) * 1) [.slice yb yn yc] = ((A ++ S.take k').map vals ++ [Value.slice yb yn yc]) ++ .slice yb yn yc :: ((S.drop (k' + 1) ++ (r' ++ R)).map vals ++ rest) := by rw [eL2]; exact set1 _ _ _ _ _ l2
    have e1b : setAt L (0 + (a + (k' + 1)) * 1) [.slice yb yn yc] = (A ++ S.take k').map vals ++ .slice yb yn yc :: (.slice yb yn yc :: ((S.drop (k' + 1) ++ (r' ++ R)).map vals ++ rest)) := by rw [e1]; simp
    have e2 : setAt (setAt L (0 + (a + (k' + 1)) * 1) [.slice yb yn yc]) (0 + (a + k') * 1) [.slice xb xn xc] = (A ++ S.take k').map vals ++ .slice xb xn xc :: (.slice yb yn yc :: ((S.drop (k' + 1) ++ (r' ++ R)).map vals ++ rest)) := by rw [e1b]; exact set1 _ _ _ _ _ l1
    have lL2 : (setAt L (0 + (a + (k' + 1)) * 1) [.slice yb yn yc]).length = L.length := length_setAt _ _ _
    repeat' ((first | refine br_t rfl ?_ | refine br_f rfl ?_ | refine IdxN.lit rfl rfl ?_ | intro _); conv => whnf)
    refine IdxN.nat (a + k') (by show IntKind.i64.wrap _ = _; rw [wrapE]; omega) (by omega) ?_; conv => whnf
    refine IdxN.nat (a + (k' + 1)) rfl (by omega) ?_; conv => whnf
    refine LoadN.own 70 rfl (l := [.slice yb yn yc]) (by show 0 + (a + k') * 1 + 1 ≤ L.length; omega) (by show (L.drop (0 + (a + k') * 1)).take 1 = _; rw [eL]; exact get1 _ _ _ _ l1) ?_; conv => whnf
    refine LoadN.own 70 rfl (l := [.slice xb xn xc]) (by show 0 + (a + (k' + 1)) * 1 + 1 ≤ L.length; omega) (by show (L.drop (0 + (a + (k' + 1)) * 1)).take 1 = _; rw [eL2]; exact get1 _ _ _ _ l2) ?_; conv => whnf
    refine IdxN.nat (a + (k' + 1)) rfl (by omega) ?_; conv => whnf
    refine StoN.own 70 rfl (by show 0 + (a + (k' + 1)) * 1 + 1 ≤ L.length; omega) ?_; conv => whnf
    refine IdxN.nat (a + k') (by show IntKind.i64.wrap _ = _; rw [wrapE]; omega) (by omega) ?_; conv => whnf
    refine StoN.own 70 rfl (by show 0 + (a + k') * 1 + 1 ≤ (setAt L (0 + (a + (k' + 1)) * 1) [.slice yb yn yc]).length; omega) ?_; conv => whnf
    repeat' ((first | refine br_t rfl ?_ | refine br_f rfl ?_ | refine IdxN.lit rfl rfl ?_ | intro _); conv => whnf)
    refine ⟨j2 - 1, k', by omega, ?_, keeps_cons (by rw [eM, ← e2]; rfl) keeps_nil, le_auto, by show k' = j2 - 1; omega, by show k' ≤ S.length; omega, hk1⟩
    repeat' (first | exact sees_nil | refine sees_cons rfl rfl rfl ?_ | refine sees_cons rfl rfl (by rw [show ((a + k' : Nat) : Int) = IntKind.i64.wrap (((a + (k' + 1) : Nat) : Int) - 1) by rw [wrapE]; omega]; rfl) ?_)
   ·repeat' ((first | refine br_t rfl ?_ | refine br_f rfl ?_ | refine IdxN.lit rfl rfl ?_ | intro _); conv => whnf)
    refine ⟨j - 1, (i + 1, insF (ltC cf) x S, r'), by omega, ?_, keeps_cons (by rw [insF, ← hkO, (show kOf (ltC cf) x S (k' + 1) = k' + 1 from by rw [hkf, if_neg (by show ¬ decide (cf x y < 0) = true; rw [h3]; simp)])]; rw [hLg]; rfl) keeps_nil, le_auto, by show r'.length = j - 1; omega, hs, by show (insF (ltC cf) x S).length + r'.length = _; rw [insF, insAt_len]; omega, .inl (by show i + 1 = a + (insF (ltC cf) x S).length; rw [insF, insAt_len]; omega)⟩
    repeat' (first | exact sees_nil | refine sees_cons rfl rfl rfl ?_ | refine sees_cons rfl rfl (by rw [show ((i + 1 : Nat) : Int) = IntKind.i64.wrap ((i : Int) + 1) by rw [wrapE]; omega]; rfl) ?_)
  ·have hk0 : k = 0 := by have := of_decide_eq_false h2; omega
   repeat (refine br_f h2 ?_; conv => whnf)
   intro hc
   conv => whnf
   subst hk0
   repeat' ((first | refine br_t rfl ?_ | refine br_f rfl ?_ | refine IdxN.lit rfl rfl ?_ | intro _); conv => whnf)
   refine ⟨j - 1, (i + 1, insF (ltC cf) x S, r'), by omega, ?_, keeps_cons (by rw [insF, ← hkO, (show kOf (ltC cf) x S 0 = 0 from rfl)]; rfl) keeps_nil, le_auto, by show r'.length = j - 1; omega, hs, by show (insF (ltC cf) x S).length + r'.length = _; rw [insF, insAt_len]; omega, .inl (by show i + 1 = a + (insF (ltC cf) x S).length; rw [insF, insAt_len]; omega)⟩
   repeat' (first | exact sees_nil | refine sees_cons rfl rfl rfl ?_ | refine sees_cons rfl rfl (by rw [show ((i + 1 : Nat) : Int) = IntKind.i64.wrap ((i : Int) + 1) by rw [wrapE]; omega]; rfl) ?_)
 ·have h1 : ¬ (i : Int) < ((a + X.length : Nat) : Int) := of_decide_eq_false h1
  have hr : r = [] := List.eq_nil_of_length_eq_zero (by
   rcases hi with hi | ⟨hX, _⟩
   ·omega
   ·have := congrArg List.length hX
    simp only [List.length_nil] at this
    omega)
  subst hr
  repeat' ((first | refine br_t rfl ?_ | refine br_f rfl ?_ | refine IdxN.lit rfl rfl ?_ | intro _); conv => whnf)
  exact ⟨[70], by simp, [_], rfl, rfl, show [Res.box blk ty ((A ++ (S ++ ([] ++ R))).map vals ++ rest)] = [Res.box blk ty ((A ++ (sB cf X ++ R)).map vals ++ rest)] from by rw [← hs]; rfl⟩
end
theorem sBs_len {α : Type} (cf : α → α → Int) : ∀ (l : List (List α)), ((l.map (sB cf)).flatten).length = l.flatten.length
 | [] => rfl
 | x :: l => by simp only [List.map_cons, List.flatten_cons, List.length_append, sB_len, sBs_len cf l]
theorem flatN_len {α : Type} (n : Nat) : ∀ (l : List (List α)), (∀ x ∈ l, x.length = n) → l.flatten.length = n * l.length
 | [], _ => rfl
 | x :: l, h => by rw [List.flatten_cons, List.length_append, flatN_len n l fun y hy => h y (List.mem_cons_of_mem _ hy), h x List.mem_cons_self, List.length_cons, Nat.mul_add]; omega
section
variable {m : Nat} (vals : Fin (m + 1) → Value) (hh : ∀ i, Hd (vals i)) (cf : Fin (m + 1) → Fin (m + 1) → Int)
set_option maxHeartbeats 1000000 in
include hh in
theorem stableN_spec (hw : Weak2 (ltC cf)) (p1 p2 : Value) (blk cap n : Nat) (ty : TypeId) (L0 : List (Fin (m + 1))) (rest : List Value) (V : View) (hn : n = L0.length)
    (hcmp : ∀ i j V', V.le V' → PSpec 63 [vals i, vals j, p1, p2] V' (fun v _ => v = .int .i64 (cf i j))) (hl : n ≤ 100000) :
    Does Tryz.prog 81 [.slice (some ⟨blk, 0, none⟩) n cap, .int .i64 n, .func (.func 63) #[] #[p1, p2]] V [.box blk ty (L0.map vals ++ rest)]
      (fun v V' bs => v = .tuple #[] ∧ bs = [.box blk ty ((sB cf L0).map vals ++ rest)]) := by
  refine does_of_zfun [] mixed (args := [.v _, .v _, .v _]) (ms := [(70, .box blk ty (L0.map vals ++ rest))]) Tryz.func81 (by kernel_rfl) rfl ?_; conv => whnf
  repeat' ((first | refine br_t rfl ?_ | refine br_f rfl ?_ | refine IdxN.lit rfl rfl ?_ | intro _); conv => whnf)
  refine loopz (σ := Nat × List (Fin (m + 1))) (fun s => [(0, .v (.slice (some ⟨blk, 0, none⟩) n cap)), (1, .v (.int .i64 n)), (2, .v (.func (.func 63) #[] #[p1, p2])), (6, .v (.int .i64 20)), (7, .v (.int .i64 s.1)), (8, .v (.int .i64 (s.1 + 20 : Nat)))]) (fun s => [(70, .box blk ty (s.2.map vals ++ rest))])
    (fun k s V' => V.le V' ∧ n - s.1 = k ∧ ∃ (Bs : List (List (Fin (m + 1)))) (R : List (Fin (m + 1))), L0 = Bs.flatten ++ R ∧ (∀ b ∈ Bs, b.length = 20) ∧ s.1 = Bs.flatten.length ∧ s.2 = (Bs.map (sB cf)).flatten ++ R) n (0, L0) ?_ ?_ ?_ ?_
  · repeat' (first | exact sees_nil | refine sees_cons rfl rfl rfl ?_)
  · exact keeps_cons rfl keeps_nil
  · exact ⟨View.le_refl _, rfl, [], L0, rfl, (fun b hb => by cases hb), rfl, rfl⟩
  rintro k ⟨a, L⟩ V1 ⟨hV1, hk, Bs, R, hL0, hBs, ha, hL⟩
  replace hk : n - a = k := hk
  replace ha : a = Bs.flatten.length := ha
  replace hL : L = (Bs.map (sB cf)).flatten ++ R := hL
  have hlen : n = a + R.length := by rw [hn, hL0, List.length_append, ha]
  have hsl := sBs_len cf Bs
  conv => whnf
  apply br <;> intro h1 <;> conv => whnf
  · have h1 : a + 20 ≤ n := by have : ((a + 20 : Nat) : Int) ≤ (n : Int) := of_decide_eq_true h1
                               omega
    have hR : R = R.take 20 ++ R.drop 20 := (List.take_append_drop _ _).symm
    have lR : (R.take 20).length = 20 := by rw [List.length_take]; omega
    have key := insL_spec vals hh cf p1 p2 blk cap ty (Bs.map (sB cf)).flatten (R.take 20) (R.drop 20) rest n V1 (by rw [← hR, List.length_append]; omega) (fun i j V' hV' => hcmp i j V' le_auto) hl
    rw [← hR, ← hL] at key
    refine CallN.eq (args4 (b' := .int .i64 ((Bs.map (sB cf)).flatten.length : Nat)) (c' := .int .i64 ((Bs.map (sB cf)).flatten.length + (R.take 20).length : Nat)) (int_eq (by show ((a : Nat) : Int) = _; omega)) (int_eq (by show ((a + 20 : Nat) : Int) = _; omega))) ?_
    refine CallN.box 70 rfl key fun v V2 bs hV2 ⟨hv, hb2⟩ => ⟨ty, _, hb2, ?_⟩
    subst hv; conv => whnf
    repeat' ((first | refine br_t rfl ?_ | refine br_f rfl ?_ | refine IdxN.lit rfl rfl ?_ | intro _); conv => whnf)
    refine ⟨k - 20, (a + 20, (Bs.map (sB cf)).flatten ++ (sB cf (R.take 20) ++ R.drop 20)), by omega, ?_, keeps_cons rfl keeps_nil, le_auto, by show n - (a + 20) = _; omega, Bs ++ [R.take 20], R.drop 20, ?_, ?_, ?_, ?_⟩
    · repeat' (first | exact sees_nil | refine sees_cons rfl rfl rfl ?_ | refine sees_cons rfl rfl (by show some (Value.int .i64 (a + 20 + 20 : Nat)) = some (Value.int .i64 (IntKind.i64.wrap (((a + 20 : Nat) : Int) + 20))); rw [wrapE]; exact congrArg some (int_eq (by omega))) ?_)
    · rw [hL0, List.flatten_append]; simp
    · intro b hb
      rcases List.mem_append.1 hb with hb | hb
      · exact hBs b hb
      · rw [List.mem_singleton.1 hb]; exact lR
    · show a + 20 = _
      rw [List.flatten_append, List.length_append]; simp only [List.flatten_cons, List.flatten_nil, List.append_nil]; omega
    · show _ = ((Bs ++ [R.take 20]).map (sB cf)).flatten ++ R.drop 20
      simp
  · have h1 : ¬ a + 20 ≤ n := by have : ¬ ((a + 20 : Nat) : Int) ≤ (n : Int) := of_decide_eq_false h1
                                 omega
    repeat' ((first | refine br_t rfl ?_ | refine br_f rfl ?_ | refine IdxN.lit rfl rfl ?_ | intro _); conv => whnf)
    have key := insL_spec vals hh cf p1 p2 blk cap ty (Bs.map (sB cf)).flatten R [] rest n V1 (by simp only [List.length_append, List.append_nil]; omega) (fun i j V' hV' => hcmp i j V' le_auto) hl
    simp only [List.append_nil] at key
    rw [← hL] at key
    refine CallN.eq (args4 (b' := .int .i64 ((Bs.map (sB cf)).flatten.length : Nat)) (c' := .int .i64 ((Bs.map (sB cf)).flatten.length + R.length : Nat)) (int_eq (by show ((a : Nat) : Int) = _; omega)) (int_eq (by show ((n : Nat) : Int) = _; omega))) ?_
    refine CallN.box 70 rfl key fun v V2 bs hV2 ⟨hv, hb2⟩ => ⟨ty, _, hb2, ?_⟩
    subst hv; conv => whnf
    repeat' ((first | refine br_t rfl ?_ | refine br_f rfl ?_ | refine IdxN.lit rfl rfl ?_ | intro _); conv => whnf)
    refine loopz (σ := Nat × List (Fin (m + 1))) (fun s => [(0, .v (.slice (some ⟨blk, 0, none⟩) n cap)), (1, .v (.int .i64 n)), (2, .v (.func (.func 63) #[] #[p1, p2])), (6, .v (.int .i64 s.1))]) (fun s => [(70, .box blk ty (s.2.map vals ++ rest))])
      (fun k s V' => V.le V' ∧ n - s.1 = k ∧ 20 ≤ s.1 ∧ s.1 ≤ 200000 ∧ ∃ (Bs : List (List (Fin (m + 1)))) (R : List (Fin (m + 1))), L0 = Bs.flatten ++ R ∧ (∀ b ∈ Bs, b.length = s.1) ∧ R.length < s.1 ∧ s.2 = (Bs.map (sB cf)).flatten ++ sB cf R) (n - 20) (20, (Bs.map (sB cf)).flatten ++ sB cf R) ?_ ?_ ?_ ?_
    · repeat' (first | exact sees_nil | refine sees_cons rfl rfl rfl ?_)
    · exact keeps_cons rfl keeps_nil
    · exact ⟨le_auto, rfl, Nat.le_refl _, by show 20 ≤ 200000; omega, Bs, R, hL0, hBs, by show R.length < 20; omega, rfl⟩
    clear key hb2 hsl hL hBs hL0 hlen h1 ha hk hV1
    rintro k ⟨q, L⟩ V3 ⟨hV3, hk, hq, hq2, Bs, R, hL0, hBs, hRq, hL⟩
    replace hk : n - q = k := hk
    replace hq : 20 ≤ q := hq
    replace hq2 : q ≤ 200000 := hq2
    replace hBs : ∀ b ∈ Bs, b.length = q := hBs
    replace hRq : R.length < q := hRq
    replace hL : L = (Bs.map (sB cf)).flatten ++ sB cf R := hL
    have hlen : n = Bs.flatten.length + R.length := by rw [hn, hL0, List.length_append]
    have hfl := flatN_len q Bs hBs
    conv => whnf
    apply br <;> intro h1 <;> conv => whnf
    · have h1 : q < n := by have : (q : Int) < (n : Int) := of_decide_eq_true h1
                            omega
      have hw2 : IntKind.i64.wrap (2 * (q : Int)) = ((2 * q : Nat) : Int) := by rw [wrapE]; omega
      repeat' ((first | refine br_t rfl ?_ | refine br_f rfl ?_ | refine IdxN.lit rfl rfl ?_ | intro _); conv => whnf)
      refine loopz (σ := Nat × List (Fin (m + 1))) (fun s => [(0, .v (.slice (some ⟨blk, 0, none⟩) n cap)), (1, .v (.int .i64 n)), (2, .v (.func (.func 63) #[] #[p1, p2])), (6, .v (.int .i64 q)), (7, .v (.int .i64 s.1)), (8, .v (.int .i64 (s.1 + 2 * q : Nat)))]) (fun s => [(70, .box blk ty (s.2.map vals ++ rest))])
        (fun k s V' => V.le V' ∧ n - s.1 = k ∧ ∃ (Ds Bs : List (List (Fin (m + 1)))), L0 = Ds.flatten ++ (Bs.flatten ++ R) ∧ (∀ b ∈ Ds, b.length = 2 * q) ∧ (∀ b ∈ Bs, b.length = q) ∧ s.1 = Ds.flatten.length ∧ s.2 = (Ds.map (sB cf)).flatten ++ ((Bs.map (sB cf)).flatten ++ sB cf R)) n (0, L) ?_ ?_ ?_ ?_
      · repeat' (first | exact sees_nil | refine sees_cons rfl rfl rfl ?_ | refine sees_cons rfl rfl (by show some (Value.int .i64 (0 + 2 * q : Nat)) = some (Value.int .i64 (IntKind.i64.wrap (2 * (q : Int)))); rw [hw2]; exact congrArg some (int_eq (by omega))) ?_)
      · exact keeps_cons rfl keeps_nil
      · exact ⟨le_auto, rfl, [], Bs, hL0, (fun b hb => by cases hb), hBs, rfl, hL⟩
      clear hfl hBs hL0 hL hlen
      rintro k2 ⟨a, L2⟩ V4 ⟨hV4, hk2, Ds, Bs, hL0, hDs, hBs, ha, hL⟩
      replace hk2 : n - a = k2 := hk2
      replace ha : a = Ds.flatten.length := ha
      replace hL : L2 = (Ds.map (sB cf)).flatten ++ ((Bs.map (sB cf)).flatten ++ sB cf R) := hL
      have hfl := flatN_len q Bs hBs
      have hlen : n = a + q * Bs.length + R.length := by rw [hn, hL0, List.length_append, List.length_append, ha, hfl]; omega
      have hsD := sBs_len cf Ds
      have hsB := sBs_len cf Bs
      conv => whnf
      apply br <;> intro h2 <;> conv => whnf
      · have h2 : a + 2 * q ≤ n := by have : ((a + 2 * q : Nat) : Int) ≤ (n : Int) := of_decide_eq_true h2
                                      omega
        obtain ⟨b1, b2, Bt, rfl⟩ : ∃ b1 b2 Bt, Bs = b1 :: b2 :: Bt := by
          match Bs, hlen with
          | [], hlen => simp at hlen; omega
          | [b], hlen => simp at hlen; omega
          | b1 :: b2 :: Bt, _ => exact ⟨b1, b2, Bt, rfl⟩
        have l1 : b1.length = q := hBs b1 (by simp)
        have l2 : b2.length = q := hBs b2 (by simp)
        have key := symMerge_spec vals hh cf hw p1 p2 blk n cap ty hl _ (sB cf b1) (sB cf b2) ((Ds.map (sB cf)).flatten.map vals) (((Bt.map (sB cf)).flatten ++ sB cf R).map vals ++ rest) V4 (fun i j V' hV' => hcmp i j V' le_auto) (Nat.le_refl _) (by rw [sB_len]; omega) (by rw [sB_len]; omega) (srt_sortF hw _ _ trivial) (srt_sortF hw _ _ trivial) (by rw [List.length_map, sB_len, sB_len]; omega)
        unfold SymAt at key
        have e1 : (Ds.map (sB cf)).flatten.map vals ++ ((sB cf b1).map vals ++ ((sB cf b2).map vals ++ (((Bt.map (sB cf)).flatten ++ sB cf R).map vals ++ rest))) = L2.map vals ++ rest := by rw [hL]; simp
        have e2 : (Ds.map (sB cf)).flatten.map vals ++ ((mrg (ltC cf) (sB cf b1) (sB cf b2)).map vals ++ (((Bt.map (sB cf)).flatten ++ sB cf R).map vals ++ rest)) = (((Ds ++ [b1 ++ b2]).map (sB cf)).flatten ++ ((Bt.map (sB cf)).flatten ++ sB cf R)).map vals ++ rest := by
          rw [show mrg (ltC cf) (sB cf b1) (sB cf b2) = sB cf (b1 ++ b2) from mrg_sortF hw b1 b2]; simp
        rw [e1, e2] at key
        have hw4 : IntKind.i64.wrap ((a : Int) + (q : Int)) = ((a + q : Nat) : Int) := by rw [wrapE]; omega
        refine CallN.eq (args5 (b' := .int .i64 ((Ds.map (sB cf)).flatten.map vals).length) (c' := .int .i64 (((Ds.map (sB cf)).flatten.map vals).length + (sB cf b1).length : Nat)) (d' := .int .i64 (((Ds.map (sB cf)).flatten.map vals).length + (sB cf b1).length + (sB cf b2).length : Nat)) (int_eq (by show ((a : Nat) : Int) = _; rw [List.length_map]; omega)) (int_eq (by show IntKind.i64.wrap ((a : Int) + (q : Int)) = _; rw [hw4, List.length_map, sB_len]; omega)) (int_eq (by show ((a + 2 * q : Nat) : Int) = _; rw [List.length_map, sB_len, sB_len]; omega))) ?_
        refine CallN.box 70 rfl key fun v V5 bs hV5 ⟨hv, hb3⟩ => ⟨ty, _, hb3, ?_⟩
        subst hv; conv => whnf
        repeat' ((first | refine br_t rfl ?_ | refine br_f rfl ?_ | refine IdxN.lit rfl rfl ?_ | intro _); conv => whnf)
        refine ⟨k2 - 2 * q, (a + 2 * q, ((Ds ++ [b1 ++ b2]).map (sB cf)).flatten ++ ((Bt.map (sB cf)).flatten ++ sB cf R)), by omega, ?_, keeps_cons rfl keeps_nil, le_auto, by show n - (a + 2 * q) = _; omega, Ds ++ [b1 ++ b2], Bt, ?_, ?_, fun b hb => hBs b (by simp [hb]), ?_, rfl⟩
        · repeat' (first | exact sees_nil | refine sees_cons rfl rfl rfl ?_ | refine sees_cons rfl rfl (by show some (Value.int .i64 (a + 2 * q + 2 * q : Nat)) = some (Value.int .i64 (IntKind.i64.wrap (((a + 2 * q : Nat) : Int) + IntKind.i64.wrap (2 * (q : Int))))); rw [hw2, wrapE]; exact congrArg some (int_eq (by omega))) ?_)
        · rw [hL0]; simp
        · intro b hb
          rcases List.mem_append.1 hb with hb | hb
          · exact hDs b hb
          · rw [List.mem_singleton.1 hb, List.length_append]; omega
        · show a + 2 * q = _
          rw [List.flatten_append, List.length_append]; simp only [List.flatten_cons, List.flatten_nil, List.append_nil, List.length_append]; omega
      · have h2 : ¬ a + 2 * q ≤ n := by have : ¬ ((a + 2 * q : Nat) : Int) ≤ (n : Int) := of_decide_eq_false h2
                                        omega
        have hw4 : IntKind.i64.wrap ((a : Int) + (q : Int)) = ((a + q : Nat) : Int) := by rw [wrapE]; omega
        have hw5 : IntKind.i64.wrap ((q : Int) * 2) = ((2 * q : Nat) : Int) := by rw [wrapE]; omega
        repeat' ((first | refine br_t rfl ?_ | refine br_f rfl ?_ | refine IdxN.lit rfl rfl ?_ | intro _); conv => whnf)
        apply br <;> intro h3 <;> conv => whnf
        · have h3 : a + q < n := by have : IntKind.i64.wrap ((a : Int) + (q : Int)) < (n : Int) := of_decide_eq_true h3
                                    rw [hw4] at this; omega
          obtain ⟨b1, rfl⟩ : ∃ b1, Bs = [b1] := by
            match Bs, hlen with
            | [], hlen => simp at hlen; omega
            | [b], _ => exact ⟨b, rfl⟩
            | b1 :: b2 :: Bt, hlen => simp only [List.length_cons, Nat.mul_add] at hlen; omega
          have l1 : b1.length = q := hBs b1 (by simp)
          have key := symMerge_spec vals hh cf hw p1 p2 blk n cap ty hl _ (sB cf b1) (sB cf R) ((Ds.map (sB cf)).flatten.map vals) rest V4 (fun i j V' hV' => hcmp i j V' le_auto) (Nat.le_refl _) (by rw [sB_len]; omega) (by rw [sB_len]; simp at hlen; omega) (srt_sortF hw _ _ trivial) (srt_sortF hw _ _ trivial) (by rw [List.length_map, sB_len, sB_len]; simp at hlen; omega)
          unfold SymAt at key
          have e1 : (Ds.map (sB cf)).flatten.map vals ++ ((sB cf b1).map vals ++ ((sB cf R).map vals ++ rest)) = L2.map vals ++ rest := by rw [hL]; simp
          have e2 : (Ds.map (sB cf)).flatten.map vals ++ ((mrg (ltC cf) (sB cf b1) (sB cf R)).map vals ++ rest) = ((Ds.map (sB cf)).flatten ++ sB cf (b1 ++ R)).map vals ++ rest := by
            rw [show mrg (ltC cf) (sB cf b1) (sB cf R) = sB cf (b1 ++ R) from mrg_sortF hw b1 R]; simp
          rw [e1, e2] at key
          simp only [List.length_cons, List.length_nil] at hlen
          refine CallN.eq (args5 (b' := .int .i64 ((Ds.map (sB cf)).flatten.map vals).length) (c' := .int .i64 (((Ds.map (sB cf)).flatten.map vals).length + (sB cf b1).length : Nat)) (d' := .int .i64 (((Ds.map (sB cf)).flatten.map vals).length + (sB cf b1).length + (sB cf R).length : Nat)) (int_eq (by show ((a : Nat) : Int) = _; rw [List.length_map]; omega)) (int_eq (by show IntKind.i64.wrap ((a : Int) + (q : Int)) = _; rw [hw4, List.length_map, sB_len]; omega)) (int_eq (by show ((n : Nat) : Int) = _; rw [List.length_map, sB_len, sB_len]; omega))) ?_
          refine CallN.box 70 rfl key fun v V5 bs hV5 ⟨hv, hb3⟩ => ⟨ty, _, hb3, ?_⟩
          subst hv; conv => whnf
          repeat' ((first | refine br_t rfl ?_ | refine br_f rfl ?_ | refine IdxN.lit rfl rfl ?_ | intro _); conv => whnf)
          refine ⟨n - 2 * q, (2 * q, (Ds.map (sB cf)).flatten ++ sB cf (b1 ++ R)), by omega, ?_, keeps_cons rfl keeps_nil, le_auto, rfl, by show 20 ≤ 2 * q; omega, by show 2 * q ≤ 200000; omega, Ds, b1 ++ R, ?_, hDs, ?_, rfl⟩
          · repeat' (first | exact sees_nil | refine sees_cons rfl rfl rfl ?_ | refine sees_cons rfl rfl (congrArg some (int_eq hw5.symm)) ?_)
          · rw [hL0]; simp
          · show (b1 ++ R).length < 2 * q
            rw [List.length_append]; omega
        · have h3 : ¬ a + q < n := by have : ¬ IntKind.i64.wrap ((a : Int) + (q : Int)) < (n : Int) := of_decide_eq_false h3
                                      rw [hw4] at this; omega
          repeat' ((first | refine br_t rfl ?_ | refine br_f rfl ?_ | refine IdxN.lit rfl rfl ?_ | intro _); conv => whnf)
          obtain ⟨R2, hR2, hR3, hR4⟩ : ∃ R2, Bs.flatten ++ R = R2 ∧ R2.length < 2 * q ∧ (Bs.map (sB cf)).flatten ++ sB cf R = sB cf R2 := by
            match Bs, hBs, hlen with
            | [], _, _ => exact ⟨R, rfl, by omega, rfl⟩
            | [b], hBs, hlen =>
              have l1 : b.length = q := hBs b (by simp)
              have : R = [] := List.eq_nil_of_length_eq_zero (by simp at hlen; omega)
              subst this
              exact ⟨b, by simp, by omega, by simp [sB, sortF]⟩
            | b1 :: b2 :: Bt, _, hlen => simp only [List.length_cons, Nat.mul_add] at hlen; omega
          rw [hR4] at hL
          rw [hR2] at hL0
          exact ⟨n - 2 * q, (2 * q, L2), by omega, by repeat' (first | exact sees_nil | refine sees_cons rfl rfl rfl ?_ | refine sees_cons rfl rfl (congrArg some (int_eq hw5.symm)) ?_), keeps_cons rfl keeps_nil, le_auto, rfl, by show 20 ≤ 2 * q; omega, by show 2 * q ≤ 200000; omega, Ds, R2, hL0, hDs, hR3, hL⟩
    · have h1 : n ≤ q := by have : ¬ (q : Int) < (n : Int) := of_decide_eq_false h1
                            omega
      repeat' ((first | refine br_t rfl ?_ | refine br_f rfl ?_ | refine IdxN.lit rfl rfl ?_ | intro _); conv => whnf)
      refine ⟨[70], by simp, [_], rfl, rfl, ?_⟩
      have e : L = sB cf L0 := by
        match Bs, hBs, hL0, hL, hfl, hlen with
        | [], _, hL0, hL, _, _ => rw [hL, hL0]; rfl
        | [b], hBs, hL0, hL, _, hlen =>
          have : R = [] := List.eq_nil_of_length_eq_zero (by have := hBs b List.mem_cons_self; simp at hlen; omega)
          subst this
          rw [hL, hL0]
          simp [sB, sortF]
        | b1 :: b2 :: Bs, hBs, _, _, _, hlen =>
          have e1 := hBs b1 (by simp)
          have e2 := hBs b2 (by simp)
          simp only [List.flatten_cons, List.length_append] at hlen
          omega
      rw [e]
end
section
variable {m : Nat} (vals : Fin (m + 1) → Value) (hh : ∀ i, Hd (vals i)) (cf : Fin (m + 1) → Fin (m + 1) → Int)
include hh in
theorem sortsN_spec (hw : Weak2 (ltC cf)) (p1 p2 : Value) (blk cap n : Nat) (ty : TypeId) (L0 : List (Fin (m + 1))) (rest : List Value) (V : View) (hn : n = L0.length)
  (hcmp : ∀ i j V', V.le V' → PSpec 63 [vals i, vals j, p1, p2] V' (fun v _ => v = .int .i64 (cf i j))) (hl : n ≤ 100000) :
  Does Tryz.prog 62 [.slice (some ⟨blk, 0, none⟩) n cap, .func (.func 63) #[] #[p1, p2]] V [.box blk ty (L0.map vals ++ rest)]
   (fun v V' bs => v = .tuple #[] ∧ bs = [.box blk ty ((sortF (ltC cf) [] L0).map vals ++ rest)]) := by
 refine does_of_zfun [] mixed (args := [.v _, .v _]) (ms := [(70, .box blk ty (L0.map vals ++ rest))]) Tryz.func62 (by kernel_rfl) rfl ?_; conv => whnf
 repeat' ((first | refine br_t rfl ?_ | refine br_f rfl ?_ | refine IdxN.lit rfl rfl ?_ | intro _); conv => whnf)
 refine CallN.box 70 rfl (stableN_spec vals hh cf hw p1 p2 blk cap n ty L0 rest _ hn (fun i j V' hV' => hcmp i j V' le_auto) hl) fun v V2 bs hV2 ⟨hv, hb2⟩ => ⟨ty, _, hb2, ?_⟩
 subst hv; conv => whnf
 repeat' ((first | refine br_t rfl ?_ | refine br_f rfl ?_ | refine IdxN.lit rfl rfl ?_ | intro _); conv => whnf)
 exact ⟨[70], by simp, [_], rfl, rfl, rfl⟩
end
/-- rows, sorted in place -/
theorem sortL_spec (rows : List (List Val)) (cells : List Value) (c : List Val → List Val → Int) (hw : Weak2 fun x y => decide (c x y < 0)) (p1 p2 : Value) (blk n cap : Nat) (ty : TypeId) (rest : List Value) (V : View) (hn : n = cells.length) (h0 : rows ≠ []) (hca : CellsAt V rows cells) (hl : rows.length ≤ 100000)
  (hcmp : ∀ r ∈ rows, ∀ s ∈ rows, ∀ va vb V', V.le V' → RowAt V' r va → RowAt V' s vb → PSpec 63 [va, vb, p1, p2] V' (fun v _ => v = .int .i64 (c r s))) :
  Does Tryz.prog 62 [.slice (some ⟨blk, 0, none⟩) n cap, .func (.func 63) #[] #[p1, p2]] V [.box blk ty (cells ++ rest)]
   (fun v V' bs => v = .tuple #[] ∧ ∃ cells', (∀ W, CellsAt W rows cells → CellsAt W (sortF (fun x y => decide (c x y < 0)) [] rows) cells') ∧ bs = [.box blk ty (cells' ++ rest)]) := by
 subst hn
 obtain ⟨m, hm⟩ : ∃ m, rows.length = m + 1 := ⟨rows.length - 1, by have := List.length_pos_iff.2 h0; omega⟩
 have hcl : cells.length = m + 1 := by rw [hca.len, hm]
 let vals : Fin (m + 1) → Value := fun i => cells[i]'(by rw [hcl]; exact i.2)
 let rw' : Fin (m + 1) → List Val := fun i => rows[i]'(by rw [hm]; exact i.2)
 have hrow : ∀ i, RowAt V (rw' i) (vals i) := fun i => hca.at' i _ _ (List.getElem?_eq_getElem _) (List.getElem?_eq_getElem _)
 have hmem : ∀ i, rw' i ∈ rows := fun i => List.getElem_mem _
 let d : Array (Fin (m + 1)) := Array.ofFn id
 have hd : d.size = cells.length := by rw [Array.size_ofFn, hcl]
 have hdv : d.toList.map vals = cells := by
  apply List.ext_getElem?
  intro k
  rw [List.getElem?_map, Array.getElem?_toList, Array.getElem?_ofFn]
  split
  ·rename_i h
   exact (List.getElem?_eq_getElem (by omega)).symm
  ·rw [List.getElem?_eq_none (by omega)]; rfl
 have hdr : d.toList.map rw' = rows := by
  apply List.ext_getElem?
  intro k
  rw [List.getElem?_map, Array.getElem?_toList, Array.getElem?_ofFn]
  split
  ·rename_i h
   exact (List.getElem?_eq_getElem (by omega)).symm
  ·rw [List.getElem?_eq_none (by omega)]; rfl
 have h1 : ∀ i, Hd (vals i) := fun i => by
  obtain ⟨b', c', hv⟩ := row_shape (hrow i)
  exact ⟨b', _, c', hv⟩
 have main := sortsN_spec vals h1 (fun i j => c (rw' i) (rw' j)) ⟨fun x y z => hw.trans _ _ _, fun x y z => hw.ntrans _ _ _, fun x => hw.irr _⟩ p1 p2 blk cap cells.length ty d.toList rest V (by rw [Array.length_toList (xs := d), hd]) (fun i j V' hV' => hcmp _ (hmem i) _ (hmem j) _ _ V' hV' ((hrow i).mono hV') ((hrow j).mono hV')) (by rw [hcl, ← hm]; exact hl)
 rw [hdv] at main
 refine main.mono fun v V' bs _ ⟨hv, hb⟩ => ⟨hv, _, fun W hW => ?_, hb⟩
 have hrow : ∀ i, RowAt W (rw' i) (vals i) := fun i => hW.at' i _ _ (List.getElem?_eq_getElem _) (List.getElem?_eq_getElem _)
 have hs := sortF_map (lt := ltC fun i j => c (rw' i) (rw' j)) (lt' := fun x y => decide (c x y < 0)) (f := rw') (fun x y => rfl) d.toList []
 rw [List.map_nil, hdr] at hs
 rw [hs]
 show CellsAt W _ ((sortF (ltC fun i j => c (rw' i) (rw' j)) [] d.toList).map vals)
 refine ⟨by rw [List.length_map, List.length_map], fun i r cl hr hc => ?_⟩
 rw [List.getElem?_map] at hr hc
 cases hx : (sortF (ltC fun i j => c (rw' i) (rw' j)) [] d.toList)[i]? with
 | none => rw [hx] at hr; cases hr
 | some x =>
  rw [hx] at hr hc
  simp only [Option.map_some, Option.some.injEq] at hr hc
  subst hr; subst hc
  exact hrow x
def keyX (k : Nat) (r : List Val) : Val := match r[k]? with | some v => v | none => v0
def ltR (k : Nat) (d : Bool) (r s : List Val) : Bool := decide (ordX d (keyX k r) (keyX k s) < 0)
/-- rows in order, alike ones as they stood -/
def sortR (k : Nat) (d : Bool) (rows : List (List Val)) : List (List Val) := sortF (ltR k d) [] rows
theorem sortR_len (k : Nat) (d : Bool) (rows : List (List Val)) : (sortR k d rows).length = rows.length := by rw [sortR, sortF_len]; simp
theorem ord_neg (d : Bool) (x y : Val) : ordX d y x = - ordX d x y := by
 unfold ordX
 cases d
 ·exact cmpV_neg x y
 ·exact cmpV_neg y x
theorem ord_trans {d : Bool} {a b c : Val} (h : ordX d a b ≤ 0) (k : ordX d b c ≤ 0) : ordX d a c ≤ 0 := by
 unfold ordX at *
 cases d
 ·exact cmpV_trans h k
 ·exact cmpV_trans k h
theorem weak_ord (k : Nat) (d : Bool) : Weak2 (ltR k d) := by
 refine ⟨fun x y z h1 h2 => ?_, fun x y z h1 h2 => ?_, fun x => ?_⟩
 ·have h1 := of_decide_eq_true h1
  have h2 := of_decide_eq_true h2
  refine decide_eq_true ?_
  have h3 := ord_neg d (keyX k x) (keyX k z)
  have h4 := ord_neg d (keyX k x) (keyX k y)
  have h5 := ord_neg d (keyX k y) (keyX k z)
  rcases Int.lt_or_le (ordX d (keyX k x) (keyX k z)) 0 with h | h
  ·exact h
  ·have := ord_trans (show ordX d (keyX k z) (keyX k x) ≤ 0 by omega) (show ordX d (keyX k x) (keyX k y) ≤ 0 by omega)
   omega
 ·have h1 := of_decide_eq_false h1
  have h2 := of_decide_eq_false h2
  refine decide_eq_false ?_
  have h3 := ord_neg d (keyX k x) (keyX k z)
  have h4 := ord_neg d (keyX k x) (keyX k y)
  have h5 := ord_neg d (keyX k y) (keyX k z)
  have := ord_trans (show ordX d (keyX k z) (keyX k y) ≤ 0 by omega) (show ordX d (keyX k y) (keyX k x) ≤ 0 by omega)
  omega
 ·have := ord_neg d (keyX k x) (keyX k x)
  exact decide_eq_false (by omega)
theorem cells_one {V : View} {rows : List (List Val)} {cells : List Value} (h : CellsAt V rows cells) : allOne cells = true := by
 have : ∀ (l : List Value), (∀ v ∈ l, v.oneCell' = true) → allOne l = true := by
  intro l
  induction l with
  | nil => intro _; rfl
  | cons v l ih =>
   intro hl
   unfold allOne
   rw [hl v List.mem_cons_self]
   exact ih fun x hx => hl x (List.mem_cons_of_mem _ hx)
 refine this cells fun v hv => ?_
 obtain ⟨i, hi, he⟩ := List.getElem_of_mem hv
 obtain ⟨r, hr⟩ : ∃ r, rows[i]? = some r := ⟨_, List.getElem?_eq_getElem (by rw [← h.len]; exact hi)⟩
 obtain ⟨b, c, hv⟩ := row_shape (h.at' i r v hr (by rw [List.getElem?_eq_getElem hi, he]))
 rw [hv]; rfl
theorem sortedB_spec (rows : List (List Val)) (cells : List Value) (p off n c k a : Nat) (d : Bool) (V : View) (hn : n = cells.length) (h0 : rows ≠ []) (hca : CellsAt V rows cells) (hp : V.has p off cells) (hl : rows.length ≤ 1000) (hk : ∀ r ∈ rows, k < r.length ∧ r.length ≤ 1000) (ha : V.has a 0 [.int .i64 (k : Nat)]) :
  Does Tryz.prog 35 [.slice (some ⟨p, off, none⟩) n c, .func (.func 36) #[] #[.pointer (some ⟨a, 0, none⟩)], .bool d] V []
   (fun v V' bs => ∃ g cap cells' ex, v = .slice (some ⟨g, 0, none⟩) n cap ∧ (∀ W, CellsAt W rows cells → CellsAt W (sortR k d rows) cells') ∧ bs = [.box g 42 (cells' ++ ex)]) := by
 subst hn
 have hcl := hca.len
 refine does_of_zfun [] mixed (args := [.v _, .v _, .v _]) (ms := []) Tryz.func35 (by kernel_rfl) rfl ?_; conv => whnf
 repeat' ((first | refine br_t rfl ?_ | refine br_f rfl ?_ | refine IdxN.lit rfl rfl ?_ | intro _); conv => whnf)
 rename_i b4 b5
 refine CallN.new 9 rfl (clone74_spec cells p off c _ hp (fun e => h0 (List.eq_nil_of_length_eq_zero (by rw [← hcl, e]; rfl))) (cells_one hca) (by omega)) fun v V1 bs hV1 ⟨hVe, g, cap, ex, hv, hb⟩ => ⟨_, .v (.slice (some ⟨g, 0, none⟩) cells.length cap), hb, by subst hv; rfl, ?_⟩
 subst hVe; subst hv
 conv => whnf
 repeat' ((first | refine br_t rfl ?_ | refine br_f rfl ?_ | refine IdxN.lit rfl rfl ?_ | intro _); conv => whnf)
 refine CallN.lendM 4 rfl fun l4 => CallN.lendM 5 rfl fun l5 => CallN.box 9 rfl (sortL_spec rows cells (fun r s => ordX d (keyX k r) (keyX k s)) (weak_ord k d) (.pointer (some ⟨b5, 0, none⟩)) (.pointer (some ⟨b4, 0, none⟩)) g _ cap _ ex _ rfl h0 (hca.mono le_auto) (by omega) ?_) fun v V2 bs hV2 ⟨hv, cells', hc', hb2⟩ => ⟨_, _, hb2, ⟨_, rfl⟩, rfl, ⟨_, rfl⟩, rfl, ?_⟩
 ·intro r hr s hs va vb V' hV' hra hsb
  obtain ⟨x, hx⟩ : ∃ x, r[k]? = some x := ⟨_, List.getElem?_eq_getElem (hk r hr).1⟩
  obtain ⟨y, hy⟩ : ∃ y, s[k]? = some y := ⟨_, List.getElem?_eq_getElem (hk s hs).1⟩
  have e1 : keyX k r = x := by rw [keyX, hx]
  have e2 : keyX k s = y := by rw [keyX, hy]
  rw [e1, e2]
  exact cmp76_spec r s x y k hx hy (hk r hr).2 (hk s hs).2 va vb a b5 b4 d V' hra hsb (ha.mono le_auto) (View.add_has.mono hV') ((View.add_has.mono l5).mono hV')
 ·subst hv; conv => whnf
  repeat' ((first | refine br_t rfl ?_ | refine br_f rfl ?_ | refine IdxN.lit rfl rfl ?_ | intro _); conv => whnf)
  exact ⟨[9], by simp, [_], rfl, g, cap, cells', ex, rfl, hc', rfl⟩
theorem ins0_spec (b : Option Addr) (c : Nat) (f : Value) (V : View) : PSpec 95 [.slice b 0 c, .int .i64 0, .int .i64 0, f] V (fun v _ => v = .tuple #[]) := by
 refine does_of_zfun [(4, [(0, []), (1, []), (2, []), (3, []), (4, []), (5, []), (6, []), (7, []), (8, []), (9, []), (10, []), (11, []), (12, []), (13, []), (14, []), (15, []), (16, [])]), (6, [(1000, [0, 1, 2, 3, 4, 5, 6, 7, 8, 10, 11, 12, 9, 13, 14, 15, 16, 17])])] mixed (args := [.v _, .v _, .v _, .v _]) (ms := []) Tryz.func95 (by kernel_rfl) rfl ?_; conv => whnf
 repeat' ((first | refine br_t rfl ?_ | refine br_f rfl ?_ | refine IdxN.lit rfl rfl ?_ | intro _); conv => whnf)
 refine unrollz 1 ?_; conv => whnf
 repeat' ((first | refine br_t rfl ?_ | refine br_f rfl ?_ | refine IdxN.lit rfl rfl ?_ | intro _); conv => whnf)
 exact ret_pure rfl
theorem stable0_spec (b : Option Addr) (c : Nat) (f : Value) (V : View) : PSpec 81 [.slice b 0 c, .int .i64 0, f] V (fun v _ => v = .tuple #[]) := by
 refine does_of_zfun [] mixed (args := [.v _, .v _, .v _]) (ms := []) Tryz.func81 (by kernel_rfl) rfl ?_; conv => whnf
 repeat' ((first | refine br_t rfl ?_ | refine br_f rfl ?_ | refine IdxN.lit rfl rfl ?_ | intro _); conv => whnf)
 refine unrollz 1 ?_; conv => whnf
 repeat' ((first | refine br_t rfl ?_ | refine br_f rfl ?_ | refine IdxN.lit rfl rfl ?_ | intro _); conv => whnf)
 refine CallN.pure (ins0_spec b c f _) fun v V1 _ hV1 hv => ?_
 subst hv; conv => whnf
 repeat' ((first | refine br_t rfl ?_ | refine br_f rfl ?_ | refine IdxN.lit rfl rfl ?_ | intro _); conv => whnf)
 refine unrollz 1 ?_; conv => whnf
 repeat' ((first | refine br_t rfl ?_ | refine br_f rfl ?_ | refine IdxN.lit rfl rfl ?_ | intro _); conv => whnf)
 exact ret_pure rfl
theorem sorts0_spec (b : Option Addr) (c : Nat) (f : Value) (V : View) : PSpec 62 [.slice b 0 c, f] V (fun v _ => v = .tuple #[]) := by
 refine does_of_zfun [] mixed (args := [.v _, .v _]) (ms := []) Tryz.func62 (by kernel_rfl) rfl ?_; conv => whnf
 repeat' ((first | refine br_t rfl ?_ | refine br_f rfl ?_ | refine IdxN.lit rfl rfl ?_ | intro _); conv => whnf)
 refine CallN.pure (stable0_spec b c f _) fun v V1 _ hV1 hv => ?_
 subst hv; conv => whnf
 repeat' ((first | refine br_t rfl ?_ | refine br_f rfl ?_ | refine IdxN.lit rfl rfl ?_ | intro _); conv => whnf)
 exact ret_pure rfl
theorem clone0_spec (V : View) : PSpec 61 [.slice none 0 0] V (fun v _ => v = .slice none 0 0) := by
 refine does_of_zfun [] mixed (args := [.v _]) (ms := []) Tryz.func61 (by kernel_rfl) rfl ?_; conv => whnf
 repeat' ((first | refine br_t rfl ?_ | refine br_f rfl ?_ | refine IdxN.lit rfl rfl ?_ | intro _); conv => whnf)
 exact ret_pure rfl
theorem sorted0_spec (f : Value) (d : Bool) (V : View) (hf : f.cells.toList = [f]) (hf1 : f.oneCell' = true) : PSpec 35 [.slice none 0 0, .func (.func 36) #[] #[f], .bool d] V (fun v _ => v = .slice none 0 0) := by
 refine does_of_zfun [] mixed (args := [.v _, .v _, .v _]) (ms := []) Tryz.func35 (by kernel_rfl) rfl ?_; conv => whnf
 repeat' ((first | refine br_t rfl ?_ | refine br_f rfl ?_ | refine IdxN.lit rfl rfl ?_ | intro _); conv => whnf)
 refine CallN.pure (clone0_spec _) fun v V1 _ hV1 hv => ?_
 subst hv; conv => whnf
 repeat' ((first | refine br_t rfl ?_ | refine br_f rfl ?_ | refine IdxN.lit rfl rfl ?_ | intro _); conv => whnf)
 refine CallN.pure (sorts0_spec none 0 _ _) fun v V2 _ hV2 hv => ?_
 subst hv; conv => whnf
 repeat' ((first | refine br_t rfl ?_ | refine br_f rfl ?_ | refine IdxN.lit rfl rfl ?_ | intro _); conv => whnf)
 exact ret_pure rfl
/-- is there a row without the column? -/
def lacks (k : Int) (rows : List (List Val)) : Bool := rows.any fun r => decide (k ≥ (r.length : Int))
theorem indexR_spec (rows : List (List Val)) (rb : Option Addr) (rc a : Nat) (k : Int) (V : View) (hr : RowsAt V rows rb) (hs : rows.length ≤ 1000) (ha : V.has a 0 [.int .i64 k]) :
  PSpec 60 [.slice rb rows.length rc, .func (.func 34) #[] #[.pointer (some ⟨a, 0, none⟩)]] V (fun v _ => ∃ z, v = .int .i64 z ∧ decide (z ≥ 0) = lacks k rows) := by
 refine does_of_zfun [] mixed (args := [.v _, .v _]) (ms := []) Tryz.func60 (by kernel_rfl) rfl ?_; conv => whnf
 repeat' ((first | refine br_t rfl ?_ | refine br_f rfl ?_ | refine IdxN.lit rfl rfl ?_ | intro _); conv => whnf)
 refine loopz (σ := Nat) (fun i => [(0, .v (.slice rb rows.length rc)), (1, .v (.func (.func 34) #[] #[.pointer (some ⟨a, 0, none⟩)])), (7, .v (.int .i64 rows.length)), (8, .v (.int .i64 i))]) (fun _ => [])
  (fun j i V' => V.le V' ∧ i ≤ rows.length ∧ rows.length - i = j ∧ lacks k rows = lacks k (rows.drop i)) rows.length 0 ?_ ?_ ?_ ?_
 ·repeat' (first | exact sees_nil | refine sees_cons rfl rfl rfl ?_)
 ·exact keeps_nil
 ·exact ⟨View.le_refl _, Nat.zero_le _, rfl, rfl⟩
 rintro j i V' ⟨hV, hi, hj, hp⟩
 conv => whnf
 apply br <;> intro h3 <;> conv => whnf
 ·have hi1 : i < rows.length := by have := of_decide_eq_true h3; omega
  obtain ⟨r, hr1⟩ : ∃ r, rows[i]? = some r := ⟨_, List.getElem?_eq_getElem hi1⟩
  have hdrop : rows.drop i = r :: rows.drop (i + 1) := by
   rw [List.drop_eq_getElem_cons hi1]
   have e1 : rows[i] = r := by rw [List.getElem?_eq_getElem hi1] at hr1; exact Option.some.inj hr1
   rw [e1]
  obtain ⟨p, off, cv, rfl, hcell, hrow⟩ := hr.at hr1
  obtain ⟨rbase, rcap, hrv⟩ := row_shape hrow
  subst hrv
  refine IdxN.of (by omega) (by omega) ?_; conv => whnf
  refine LoadN.of (hcell.mono le_auto) 0 (by show off + i * 1 = off + i + 0; omega) rfl ?_; conv => whnf
  refine CallN.pure (sort51_spec rbase r.length rcap k a _ (ha.mono le_auto)) fun v V2 _ hV2 hv => ?_
  subst hv; conv => whnf
  apply br <;> intro h4 <;> conv => whnf
  ·refine ret_pure ⟨_, rfl, ?_⟩
   rw [hp, hdrop, lacks, List.any_cons, h4, Bool.true_or]
   exact decide_eq_true (by omega)
  ·have hw := wrap_nat (i := i) (by omega)
   refine ⟨j - 1, i + 1, by omega, ?_, keeps_nil, View.le_trans hV hV2, hi1, by omega, ?_⟩
   ·repeat' (first | exact sees_nil | refine sees_cons rfl rfl rfl ?_ | refine sees_cons rfl rfl (by rw [← hw]; rfl) ?_)
   ·rw [hp, hdrop, lacks, List.any_cons, h4, Bool.false_or]; rfl
 ·have hi1 : ¬ i < rows.length := by have := of_decide_eq_false h3; omega
  repeat' ((first | refine br_t rfl ?_ | refine br_f rfl ?_ | refine IdxN.lit rfl rfl ?_ | intro _); conv => whnf)
  refine ret_pure ⟨_, rfl, ?_⟩
  rw [hp, List.drop_eq_nil_of_le (by omega)]; rfl
theorem containsR_spec (rows : List (List Val)) (rb : Option Addr) (rc a : Nat) (k : Int) (V : View) (hr : RowsAt V rows rb) (hs : rows.length ≤ 1000) (ha : V.has a 0 [.int .i64 k]) :
  PSpec 33 [.slice rb rows.length rc, .func (.func 34) #[] #[.pointer (some ⟨a, 0, none⟩)]] V (fun v _ => v = .bool (lacks k rows)) := by
 refine does_of_zfun [] mixed (args := [.v _, .v _]) (ms := []) Tryz.func33 (by kernel_rfl) rfl ?_; conv => whnf
 repeat' ((first | refine br_t rfl ?_ | refine br_f rfl ?_ | refine IdxN.lit rfl rfl ?_ | intro _); conv => whnf)
 refine CallN.pure (indexR_spec rows rb rc a k _ hr hs ha) fun v V1 _ hV1 ⟨z, hv, hz⟩ => ?_
 subst hv; conv => whnf
 repeat' ((first | refine br_t rfl ?_ | refine br_f rfl ?_ | refine IdxN.lit rfl rfl ?_ | intro _); conv => whnf)
 exact ret_pure (by rw [← hz]; rfl)
theorem ret_free {v : Value} {mem : Nat → Option Res} {V : View} {A : Value → View → Prop} {B : Value → View → List Res → Prop} (h : A v V) : RetN v mem V (fun v V bs => (bs = [] ∧ A v V) ∨ B v V bs) := ⟨[], List.nodup_nil, [], rfl, .inl ⟨rfl, h⟩⟩
/-- rows in the order of a column that they all have; else as they stood -/
def sortX (k : Int) (d : Bool) (rows : List (List Val)) : List (List Val) := if k < 0 ∨ lacks k rows = true then rows else sortR k.toNat d rows
set_option maxHeartbeats 4000000 in
theorem sortO_spec (rows : List (List Val)) (rb : Option Addr) (rc : Nat) (k : Int) (d : Bool) (V : View) (hr : RowsAt V rows rb) (hs : rows.length ≤ 1000) (hw : ∀ r ∈ rows, r.length ≤ 1000) :
  Does Tryz.prog 10 [.slice rb rows.length rc, .int .i64 k, .bool d] V [] (fun v V' bs => (bs = [] ∧ RowsV V' (sortX k d rows) v ∧ (rows = [] ∨ k < 0 ∨ lacks k rows = true)) ∨ ∃ g cap cells', v = .slice (some ⟨g, 0, none⟩) (sortX k d rows).length cap ∧ (sortX k d rows).length = rows.length ∧ bs = [.box g 42 cells'] ∧ ∃ cl ex, CellsAt (V.new V') (sortX k d rows) cl ∧ cells' = cl ++ ex) := by
 refine does_of_zfun [] mixed (args := [.v _, .v _, .v _]) (ms := []) Tryz.func10 (by kernel_rfl) rfl ?_; conv => whnf
 repeat' ((first | refine br_t rfl ?_ | refine br_f rfl ?_ | refine IdxN.lit rfl rfl ?_ | intro _); conv => whnf)
 rename_i b4
 refine loopz (σ := Nat × Option Addr × Nat × List (List Val) × List Value)
  (fun x => [(0, .v (.slice rb rows.length rc)), (2, .v (.bool d)), (4, .own 4 0), (7, .row 20), (10, .v (.slice rb rows.length rc)), (11, .v (.int .i64 rows.length)), (12, .v (.int .i64 x.1))])
  (fun x => [(4, .box b4 3 [.int .i64 k]), (20, .row (.slice x.2.1 x.2.2.2.1.length x.2.2.1) 42 1 x.2.2.2.1.length)])
  (fun j x V' => V.le V' ∧ x.1 ≤ rows.length ∧ rows.length - x.1 = j ∧ x.2.2.2.1 = rows.take x.1 ∧ (x.2.2.2.1 = [] → x.2.1 = none ∧ x.2.2.1 = 0) ∧ CellsAt (V.new V') x.2.2.2.1 x.2.2.2.2 ∧ V'.cells (.slice x.2.1 x.2.2.2.1.length x.2.2.1) x.2.2.2.2)
  rows.length (0, none, 0, [], []) ?_ ?_ ?_ ?_
 ·repeat' (first | exact sees_nil | refine sees_cons rfl rfl rfl ?_)
 ·repeat' (first | exact keeps_nil | refine keeps_cons rfl ?_ | refine keeps_free ?_)
 ·exact ⟨View.le_refl _, Nat.zero_le _, by simp, rfl, fun _ => ⟨rfl, rfl⟩, CellsAt.nil, rfl⟩
 rintro j ⟨i, base, cp, out, cells⟩ V' ⟨hV, hi, hj, hout, hnil, hca, hcl⟩
 simp only at hi hj hout hnil hca hcl
 conv => whnf
 apply br <;> intro h3 <;> conv => whnf
 ·have hi1 : i < rows.length := by have := of_decide_eq_true h3; omega
  obtain ⟨r, hr1⟩ : ∃ r, rows[i]? = some r := ⟨_, List.getElem?_eq_getElem hi1⟩
  obtain ⟨p, off, cv, rfl, hcell, hrow⟩ := hr.at hr1
  obtain ⟨rbase, rcap, hrv, hrp, hrva⟩ := hrow
  subst hrv
  refine IdxN.of (by omega) (by omega) ?_; conv => whnf
  refine LoadN.of (hcell.mono le_auto) 0 (by show off + i * 1 = off + i + 0; omega) rfl ?_; conv => whnf
  refine CallN.pure (clone_new r rbase rcap _ hrp (hrva.mono le_auto) (hw r (List.mem_of_getElem? hr1))) fun v V3 _ hV3 hv => ?_
  obtain ⟨qb, qc, hqv⟩ := row_shape hv
  subst hqv; conv => whnf
  intro lb Vl hVl lk
  conv => whnf
  have hol : out.length ≤ i := by rw [hout, List.length_take]; omega
  refine AppN.to (out ++ [r]).length (by simp) cells [.slice qb r.length qc] (hcl.mono le_auto) (by rw [hca.len]; exact (Nat.mul_one _).symm) lk rfl rfl (by simp only [List.length_append, List.length_cons, List.length_nil]; omega) (by decide) fun base' cap' V4 hV4 hc4 => ?_; conv => whnf
  have hwi := wrap_nat (i := i) (by omega)
  refine ⟨j - 1, (i + 1, base', cap', out ++ [r], cells ++ [.slice qb r.length qc]), by omega, ?_, ?_, ?_⟩
  ·repeat' (first | exact sees_nil | refine sees_cons rfl rfl rfl ?_ | refine sees_cons rfl rfl (by rw [← hwi]; rfl) ?_)
  ·repeat' (first | exact keeps_nil | refine keeps_cons rfl ?_ | refine keeps_free ?_)
  ·refine ⟨View.le_trans hV le_auto, hi1, by show _ - (i + 1) = _; omega, ?_, fun h => by simp at h, (hca.mono (View.new_step (View.le_refl _) le_auto)).snoc (hv.mono (View.new_step le_auto le_auto)), hc4⟩
   show out ++ [r] = _
   rw [List.take_add_one, hr1, ← hout]; rfl
 ·have hi1 : ¬ i < rows.length := by have := of_decide_eq_false h3; omega
  have hall : out = rows := by rw [hout]; exact List.take_of_length_le (by omega)
  clear hout
  subst hall
  repeat' ((first | refine br_t rfl ?_ | refine br_f rfl ?_ | refine IdxN.lit rfl rfl ?_ | intro _); conv => whnf)
  have hdone : RowsV V' out (.slice base out.length cp) := ⟨base, cp, rfl, plain_cells hcl, RowsAt.of_cells (hca.mono View.new_le) hcl (by omega)⟩
  apply br <;> intro g1 <;> conv => whnf
  ·have g1 : k < 0 := of_decide_eq_true g1
   repeat' ((first | refine br_t rfl ?_ | refine br_f rfl ?_ | refine IdxN.lit rfl rfl ?_ | intro _); conv => whnf)
   refine ret_free ?_
   rw [sortX, if_pos (.inl g1)]
   exact ⟨hdone, .inr (.inl g1)⟩
  have g1 : ¬ k < 0 := of_decide_eq_false g1
  refine CallN.lend 4 rfl fun l4 => CallN.pure (containsR_spec out rb rc b4 k _ (hr.mono le_auto) (by omega) View.add_has) fun v V4 _ hV4 hv => ⟨⟨_, rfl⟩, rfl, ?_⟩
  subst hv; conv => whnf
  apply br <;> intro g2 <;> conv => whnf
  ·repeat' ((first | refine br_t rfl ?_ | refine br_f rfl ?_ | refine IdxN.lit rfl rfl ?_ | intro _); conv => whnf)
   refine ret_free ?_
   rw [sortX, if_pos (.inr g2)]
   exact ⟨hdone, .inr (.inr g2)⟩
  have hsx : sortX k d out = sortR k.toNat d out := by
   rw [sortX, if_neg]
   rintro (h | h)
   ·exact g1 h
   ·rw [g2] at h; cases h
  obtain ⟨kn, hkn⟩ := Int.eq_ofNat_of_zero_le (show 0 ≤ k by omega)
  subst hkn
  have hkey : ∀ r ∈ out, kn < r.length ∧ r.length ≤ 1000 := fun r hr => by
   refine ⟨?_, hw r hr⟩
   rcases Nat.lt_or_ge kn r.length with h | h
   ·exact h
   ·have : lacks (kn : Int) out = true := List.any_eq_true.2 ⟨r, hr, decide_eq_true (by omega)⟩
    rw [g2] at this; cases this
  rw [hsx, Int.toNat_natCast]
  by_cases h0 : out = []
  ·obtain ⟨rfl, rfl⟩ := hnil h0
   subst h0
   refine CallN.pure (sorted0_spec _ d _ rfl rfl) fun v V5 _ hV5 hv => ?_
   subst hv; conv => whnf
   repeat' ((first | refine br_t rfl ?_ | refine br_f rfl ?_ | refine IdxN.lit rfl rfl ?_ | intro _); conv => whnf)
   exact ret_free ⟨⟨none, 0, rfl, .inl rfl, ⟨⟨[], CellsAt.nil, fun h => absurd rfl h⟩, by show 0 ≤ _; decide⟩⟩, .inl rfl⟩
  ·obtain ⟨p, off, hb, hh⟩ := cells_some hcl (fun e => h0 (List.eq_nil_of_length_eq_zero (by rw [← hca.len, e]; rfl)))
   subst hb
   refine CallN.lendM 4 rfl fun l5 => CallN.new 33 rfl (sortedB_spec out cells p off out.length cp kn b4 d _ hca.len.symm h0 ((hca.mono View.new_le).mono le_auto) (hh.mono le_auto) hs hkey View.add_has) fun v V5 bs hV5 ⟨g, cap, cells', ex, hv, hc, hb⟩ => ⟨_, .v (.slice (some ⟨g, 0, none⟩) out.length cap), hb, by subst hv; rfl, ⟨_, rfl⟩, rfl, ?_⟩
   subst hv; conv => whnf
   repeat' ((first | refine br_t rfl ?_ | refine br_f rfl ?_ | refine IdxN.lit rfl rfl ?_ | intro _); conv => whnf)
   refine ⟨[33], by simp, [_], rfl, .inr ⟨g, cap, _, ?_, sortR_len kn d out, rfl, cells', ex, hc _ (hca.mono (View.new_step (View.le_refl _) le_auto)), rfl⟩⟩
   rw [sortR_len]; rfl
theorem sort_new (rows : List (List Val)) (rb : Option Addr) (rc : Nat) (k : Int) (d : Bool) (V : View) (hr : RowsAt V rows rb) (hs : rows.length ≤ 1000) (hw : ∀ r ∈ rows, r.length ≤ 1000) (hk : 0 ≤ k) (hlk : lacks k rows = false) :
  PSpec 10 [.slice rb rows.length rc, .int .i64 k, .bool d] V (fun v V' => NewV V (sortX k d rows) v V') := by
 refine (Does.freeze2 (Q := fun v V' => V.le V' → NewV V (sortX k d rows) v V') (sortO_spec rows rb rc k d V hr hs hw) fun v V' bs hVV h => ?_).mono fun v V' bs hV ⟨_, h⟩ => h hV
 rcases h with ⟨h, ⟨base, cap, hv, hp, _⟩, h'⟩ | ⟨g, cap, cells', hv, hl, hb, cl, ex, hc, he⟩
 ·have h0 : rows = [] := by
   rcases h' with h' | h' | h'
   ·exact h'
   ·omega
   ·rw [hlk] at h'; cases h'
  subst h0
  refine .inl ⟨h, fun hle => ?_⟩
  have : sortX k d [] = [] := by unfold sortX; split <;> rfl
  rw [this] at hv ⊢
  subst hv
  exact NewV.nil hle hp
 ·refine .inr ⟨g, _, cells', hb, fun hle hnone hVe => ?_⟩
  subst he; subst hv
  exact NewV.of hVV hle hc (show (V'.add g (cl ++ ex)).has g 0 cl from fun i x hx => View.add_has i x (by rw [List.getElem?_append_left (List.getElem?_eq_some_iff.1 hx).1]; exact hx)) fun p o hp => by
   simp only [Option.some.injEq, Addr.mk.injEq] at hp
   obtain ⟨rfl, _⟩ := hp
   exact hnone
def ofX (its : List Item) (l : List Item) (rows : List (List Val)) : List (List Val) := if l = [] then rows else rows.map fun r => pickX its r l
def orderX (its : List Item) (o : Option (ByteArray × ByteArray)) (d : Bool) (rows : List (List Val)) : List (List Val) := match o with
 | none => rows
 | some (tb, nm) => sortX (placeOf (hitI tb nm) its 0) d rows
def foldsL : List Item → Bool
 | [] => false
 | x :: _ => decide (x.agg ≠ 0)
/-- what a select comes to -/
def selX (its : List Item) (hold : List Val → Bool × Int) (rows : List (List Val)) (l : List Item) (o : Option (ByteArray × ByteArray)) (d : Bool) : List (List Val) × Int :=
 if (whereX hold rows).2 ≠ 0 then ([], (whereX hold rows).2) else
 if foldsL l = true then (if (oneX its (whereX hold rows).1 l).2 ≠ 0 then ([], (oneX its (whereX hold rows).1 l).2) else ([(oneX its (whereX hold rows).1 l).1], 0)) else
 (ofX its l (orderX its o d (whereX hold rows).1), 0)
theorem NewV.mono {V V' V'' : View} {rows : List (List Val)} {v : Value} (h : NewV V rows v V') (hV : V'.le V'') : NewV V rows v V'' := by
 obtain ⟨base, cap, cells, W, hv, h1, h2, h3, h4⟩ := h
 exact ⟨base, cap, cells, W, hv, h1, View.le_trans h2 hV, h3, h4.mono (View.new_step (View.le_refl _) hV)⟩
theorem NewV.weak {V0 V V' : View} {rows : List (List Val)} {v : Value} (h : NewV V rows v V') (hV : V0.le V) : NewV V0 rows v V' := by
 obtain ⟨base, cap, cells, W, hv, h1, h2, h3, h4⟩ := h
 exact ⟨base, cap, cells, W, hv, View.le_trans hV h1, h2, h3, h4⟩
/-- the columns that a select orders by -/
def OrdAt (V : View) (o : Option Addr × Nat × Nat) (x : Option (ByteArray × ByteArray)) : Prop := (o.2.1 = 0 ∧ x = none) ∨ ∃ g tb nm, o = (some ⟨g, 0, none⟩, 1, 1) ∧ V.has g 0 (xcells (colN tb nm)) ∧ x = some (tb, nm)
theorem whereN (V Va Vb V2 : View) (its : List Item) (hold : List Val → Bool × Int) (rows : List (List Val)) (cells : List Value) (rb' : Option Addr) (rc' : Nat) (cells' : List Value) (h1 : V.le Va) (h2 : Va.le Vb) (h3 : Vb.le V2) (hc : CellsAt (V.new Va) rows cells)
  (ho : (Vb.new V2).cells (.slice rb' (whereX hold rows).1.length rc') cells') (hw : ∀ W, CellsAt W rows cells → CellsAt W (whereX hold rows).1 cells') : NewV V (whereX hold rows).1 (.slice rb' (whereX hold rows).1.length rc') V2 := by
 have hcw := hw _ hc
 by_cases h0 : (whereX hold rows).1 = []
 ·have hp := plain_cells ho
  rw [h0] at *
  exact NewV.nil (View.le_trans h1 (View.le_trans h2 h3)) hp
 ·refine NewV.of h1 (View.le_trans h2 h3) hcw (ho.mono View.new_le) fun p o hb => ?_
  subst hb
  obtain ⟨x, l, hcl⟩ := List.exists_cons_of_ne_nil (fun e : cells' = [] => h0 (List.eq_nil_of_length_eq_zero (by rw [← hcw.len, e]; rfl)))
  exact View.none_of h2 (View.new_some (ho 0 x (by rw [hcl]; rfl))).1
theorem sortX_len (k : Int) (d : Bool) (rows : List (List Val)) : (sortX k d rows).length = rows.length := by
 unfold sortX
 split
 ·rfl
 ·exact sortR_len _ _ _
theorem sortX_mem {k : Int} {d : Bool} {rows : List (List Val)} {r : List Val} (h : r ∈ sortX k d rows) : r ∈ rows := by
 unfold sortX at h
 split at h
 ·exact h
 ·rcases sortF_mem h with h | h
  ·cases h
  ·exact h
set_option maxHeartbeats 4000000 in
theorem select_new (s : StV) (tnm unm : ByteArray) (tc ti uc ui : Option Addr × Nat × Nat) (lv rv : Value) (its : List Item) (rows : List (List Val)) (hold : List Val → Bool × Int) (l : List Item) (o : Option (ByteArray × ByteArray)) (V : View)
  (hrows : ∀ V1, V.le V1 → PSpec 19 [stv s, tabg tnm tc ti, tabg unm uc ui, lv, rv] V1 (RowsN V its rows))
  (hin : s.items.2.1 = l.length) (hx : V.cells (.slice s.items.1 s.items.2.1 s.items.2.2) (l.flatMap icells)) (hxl : l.length ≤ 1000) (hod : OrdAt V s.order o) (hok : ∀ tb nm, o = some (tb, nm) → ∃ k : Nat, placeOf (hitI tb nm) its 0 = k ∧ ∀ r ∈ rows, k < r.length)
  (his : its.length ≤ 1000) (hs : rows.length ≤ 1000) (hir : ∀ r ∈ rows, ∀ v ∈ r, InR v.n) (hw : ∀ r ∈ rows, r.length ≤ 1000)
  (hh : ∀ cb cc, ∀ V1, V.le V1 → V1.cells (.slice cb its.length cc) (its.flatMap icells) → ∀ r ∈ rows, ∀ v V', V1.le V' → RowAt V' r v → PSpec 51 [.slice cb its.length cc, v, .slice s.wh.1 s.wh.2.1 s.wh.2.2] V' (fun v _ => v = .tuple #[.bool (hold r).1, .int .i64 (hold r).2])) :
  PSpec 7 [stv s, tabg tnm tc ti, tabg unm uc ui, lv, rv] V (fun v V' => ∃ x, v = .tuple #[x, .int .i64 (selX its hold rows l o s.desc).2] ∧ ((selX its hold rows l o s.desc).2 = 0 → NewV V (selX its hold rows l o s.desc).1 x V') ∧ ((selX its hold rows l o s.desc).2 ≠ 0 → x = .slice none 0 0)) := by
 obtain ⟨skind, stb, snm, s3, s4, s5, sit, sjoin, son, swh, sord, sdesc, sinn⟩ := s
 obtain ⟨itb, itn, itc⟩ := sit
 obtain ⟨orb, orn, orc⟩ := sord
 simp only at hin hx hh
 subst hin
 refine does_of_zfun [(12, [(0, []), (1, []), (2, []), (3, []), (4, []), (5, []), (6, []), (8, []), (9, []), (7, []), (10, []), (11, []), (12, [])])] mixed (args := [.v _, .v _, .v _, .v _, .v _]) (ms := []) Tryz.func7 (by kernel_rfl) rfl ?_; conv => whnf
 repeat' ((first | refine br_t rfl ?_ | refine br_f rfl ?_ | refine IdxN.lit rfl rfl ?_ | intro _); conv => whnf)
 refine CallN.pure (hrows _ le_auto) fun v V1 _ hV1 ⟨cb, cc, rb', rc', cells, hv, hc, hro, hr'⟩ => ?_
 subst hv; conv => whnf
 repeat' ((first | refine br_t rfl ?_ | refine br_f rfl ?_ | refine IdxN.lit rfl rfl ?_ | intro _); conv => whnf)
 refine CallN.pure (where_new its cb cc rows rb' rc' (.slice swh.1 swh.2.1 swh.2.2) hold _ (hc.mono le_auto) cells ((hr'.mono View.new_le).mono le_auto) (fun hn => cells_some (View.cells.mono hro le_auto) (fun e => hn (List.eq_nil_of_length_eq_zero (by rw [← hr'.len, e]; rfl)))) hs (fun r hrm v V' hV' hra => hh cb cc V1 le_auto hc r hrm v V' le_auto hra)) fun v V2 _ hV2 ⟨tv, hv, ⟨a1, n1, c1, a2, n2, c2, ht2⟩, hok2⟩ => ?_
 subst hv
 subst ht2; conv => whnf
 have hsub : ∀ r ∈ (whereX hold rows).1, r ∈ rows := fun r h => whereX_mem hold h
 have hwl := whereX_len hold rows
 have hnv : (whereX hold rows).2 = 0 → ∃ rb2 rc2, Value.agg #[.slice a1 n1 c1, .slice a2 n2 c2] = .agg #[.slice cb its.length cc, .slice rb2 (whereX hold rows).1.length rc2] ∧ NewV V (whereX hold rows).1 (.slice rb2 (whereX hold rows).1.length rc2) V2 := fun h0 => by
  obtain ⟨rb2, rc2, he, cells', ho, hcw⟩ := hok2 h0
  exact ⟨rb2, rc2, he, whereN V V1 _ V2 its hold rows cells rb2 rc2 cells' le_auto (View.le_refl _) le_auto hr' ho hcw⟩
 unfold selX
 generalize hW : whereX hold rows = W at *
 apply br <;> intro h3 <;> conv => whnf
 ·have h3 : W.2 ≠ 0 := by simpa using h3
  rw [if_pos h3]
  exact ret_pure ⟨_, rfl, fun h => absurd h h3, fun _ => rfl⟩
 ·have h3 : W.2 = 0 := by simpa using h3
  obtain ⟨rb2, rc2, he, hn2⟩ := hnv h3
  rw [if_neg (fun h => h h3)]
  simp only [Value.agg.injEq, Array.mk.injEq, List.cons.injEq, Value.slice.injEq, and_true] at he
  obtain ⟨⟨rfl, rfl, rfl⟩, rfl, rfl, rfl⟩ := he
  have hr2 : RowsAt V2 W.1 a2 := by
   obtain ⟨base, cap, he, hp, hr⟩ := hn2.rowsV (by omega)
   simp only [Value.slice.injEq, true_and] at he
   obtain ⟨rfl, _⟩ := he
   exact hr
  repeat' ((first | refine br_t rfl ?_ | refine br_f rfl ?_ | refine IdxN.lit rfl rfl ?_ | intro _); conv => whnf)
  rcases l with _ | ⟨x0, xs⟩
  ·refine br_f rfl ?_; conv => whnf
   repeat' ((first | refine br_t rfl ?_ | refine br_f rfl ?_ | refine IdxN.lit rfl rfl ?_ | intro _); conv => whnf)
   rw [if_neg (by simp [foldsL])]
   rcases hod with ⟨hod, rfl⟩ | ⟨g, tb, nm, hod, hg, rfl⟩
   ·have hod : orn = 0 := hod
    subst hod
    refine unrollz 1 ?_; conv => whnf
    repeat' ((first | refine br_t rfl ?_ | refine br_f rfl ?_ | refine IdxN.lit rfl rfl ?_ | intro _); conv => whnf)
    refine CallN.pure (of0_spec _ _ _ _ _ _ itb itc _) fun v V9 _ hV9 hv => ?_
    subst hv; conv => whnf
    repeat' ((first | refine br_t rfl ?_ | refine br_f rfl ?_ | refine IdxN.lit rfl rfl ?_ | intro _); conv => whnf)
    exact ret_pure ⟨_, rfl, fun _ => (hn2).mono le_auto, fun h => absurd rfl h⟩
   ·simp only [Prod.mk.injEq] at hod
    obtain ⟨rfl, rfl, rfl⟩ := hod
    obtain ⟨k, hk, hkr⟩ := hok tb nm rfl
    have hlk : lacks (k : Int) W.1 = false := by
     rw [lacks, List.any_eq_false]
     intro r hr h
     have h1 := of_decide_eq_true h
     have h2 := hkr r (hsub r hr)
     omega
    refine unrollz 2 ?_; conv => whnf
    repeat' ((first | refine br_t rfl ?_ | refine br_f rfl ?_ | refine IdxN.lit rfl rfl ?_ | intro _); conv => whnf)
    refine LoadN.of (hg.mono le_auto) 0 rfl rfl ?_; conv => whnf
    repeat' ((first | refine br_t rfl ?_ | refine br_f rfl ?_ | refine IdxN.lit rfl rfl ?_ | intro _); conv => whnf)
    refine CallN.pure (place_spec its a1 a2 c1 W.1.length c2 tb nm _ (hc.mono le_auto) his) fun v V5 _ hV5 hv => ?_
    subst hv
    unfold orderX
    simp only
    rw [hk]
    refine Prot.refl ?_; conv => whnf
    repeat' ((first | refine br_t rfl ?_ | refine br_f rfl ?_ | refine IdxN.lit rfl rfl ?_ | intro _); conv => whnf)
    refine CallN.pure (sort_new W.1 a2 c2 (k : Int) sdesc _ (hr2.mono le_auto) (by omega) (fun r h => hw r (hsub r h)) (by omega) hlk) fun v V6 _ hV6 hv => ?_
    have hsl : (sortX (k : Int) sdesc W.1).length ≤ 1000 := by rw [sortX_len]; omega
    have hsw : ∀ r ∈ sortX (k : Int) sdesc W.1, r.length ≤ 1000 := fun r h => hw r (hsub r (sortX_mem h))
    have hrv := hv.rowsV (by omega)
    have hn6 := hv.weak (V0 := V) le_auto
    obtain ⟨b6, p6, rfl, _, hr6⟩ := hrv
    generalize sortX (k : Int) sdesc W.1 = S at *
    refine Prot.refl ?_; conv => whnf
    repeat' ((first | refine br_t rfl ?_ | refine br_f rfl ?_ | refine IdxN.lit rfl rfl ?_ | intro _); conv => whnf)
    refine CallN.pure (of0_spec _ _ _ _ _ _ itb itc _) fun v V9 _ hV9 hv => ?_
    subst hv; conv => whnf
    repeat' ((first | refine br_t rfl ?_ | refine br_f rfl ?_ | refine IdxN.lit rfl rfl ?_ | intro _); conv => whnf)
    exact ret_pure ⟨_, rfl, fun _ => (hn6).mono le_auto, fun h => absurd rfl h⟩
  ·obtain ⟨ib, io, hib, hxx⟩ := cells_some hx (by intro h; cases h)
   subst hib
   have hx0 := has_flat (n := 3) (fun _ => rfl) (x0 :: xs) io hxx 0 x0 rfl
   have hpos : decide ((((x0 :: xs).length : Nat) : Int) > 0) = true := decide_eq_true (by simp only [List.length_cons]; omega)
   refine br_t hpos ?_; conv => whnf
   refine IdxN.of (by omega) (by simp only [List.length_cons]; omega) ?_; conv => whnf
   refine LoadN.of (hx0.mono le_auto) 0 rfl rfl ?_; conv => whnf
   repeat (refine br_t hpos ?_; conv => whnf)
   by_cases hag : x0.agg = 0
   ·repeat (first | (refine br_t hpos ?_; conv => whnf) | (refine br_f (by simpa using hag) ?_; conv => whnf))
    repeat' ((first | refine br_t rfl ?_ | refine br_f rfl ?_ | refine IdxN.lit rfl rfl ?_ | intro _); conv => whnf)
    rw [if_neg (by simp [foldsL, hag])]
    rcases hod with ⟨hod, rfl⟩ | ⟨g, tb, nm, hod, hg, rfl⟩
    ·have hod : orn = 0 := hod
     subst hod
     refine unrollz 1 ?_; conv => whnf
     repeat' ((first | refine br_t rfl ?_ | refine br_f rfl ?_ | refine IdxN.lit rfl rfl ?_ | intro _); conv => whnf)
     refine CallN.pure (of_new its a1 c1 _ _ _ (x0 :: xs) ib io itc _ (hc.mono le_auto) his (hr2.mono le_auto) (by omega) (by exact fun r h => hw r (hsub r h)) (hxx.mono le_auto) hxl (by simp)) fun v V9 _ hV9 hv => ?_
     have hv9 := hv.weak (V0 := V) le_auto
     obtain ⟨z1, z2, z3, z4, hz, _⟩ := hv
     subst hz; conv => whnf
     repeat' ((first | refine br_t rfl ?_ | refine br_f rfl ?_ | refine IdxN.lit rfl rfl ?_ | intro _); conv => whnf)
     exact ret_pure ⟨_, rfl, fun _ => hv9, fun h => absurd rfl h⟩
    ·simp only [Prod.mk.injEq] at hod
     obtain ⟨rfl, rfl, rfl⟩ := hod
     obtain ⟨k, hk, hkr⟩ := hok tb nm rfl
     have hlk : lacks (k : Int) W.1 = false := by
      rw [lacks, List.any_eq_false]
      intro r hr h
      have h1 := of_decide_eq_true h
      have h2 := hkr r (hsub r hr)
      omega
     refine unrollz 2 ?_; conv => whnf
     repeat' ((first | refine br_t rfl ?_ | refine br_f rfl ?_ | refine IdxN.lit rfl rfl ?_ | intro _); conv => whnf)
     refine LoadN.of (hg.mono le_auto) 0 rfl rfl ?_; conv => whnf
     repeat' ((first | refine br_t rfl ?_ | refine br_f rfl ?_ | refine IdxN.lit rfl rfl ?_ | intro _); conv => whnf)
     refine CallN.pure (place_spec its a1 a2 c1 W.1.length c2 tb nm _ (hc.mono le_auto) his) fun v V5 _ hV5 hv => ?_
     subst hv
     unfold orderX
     simp only
     rw [hk]
     refine Prot.refl ?_; conv => whnf
     repeat' ((first | refine br_t rfl ?_ | refine br_f rfl ?_ | refine IdxN.lit rfl rfl ?_ | intro _); conv => whnf)
     refine CallN.pure (sort_new W.1 a2 c2 (k : Int) sdesc _ (hr2.mono le_auto) (by omega) (fun r h => hw r (hsub r h)) (by omega) hlk) fun v V6 _ hV6 hv => ?_
     have hsl : (sortX (k : Int) sdesc W.1).length ≤ 1000 := by rw [sortX_len]; omega
     have hsw : ∀ r ∈ sortX (k : Int) sdesc W.1, r.length ≤ 1000 := fun r h => hw r (hsub r (sortX_mem h))
     have hrv := hv.rowsV (by omega)
     have hn6 := hv.weak (V0 := V) le_auto
     obtain ⟨b6, p6, rfl, _, hr6⟩ := hrv
     generalize sortX (k : Int) sdesc W.1 = S at *
     refine Prot.refl ?_; conv => whnf
     repeat' ((first | refine br_t rfl ?_ | refine br_f rfl ?_ | refine IdxN.lit rfl rfl ?_ | intro _); conv => whnf)
     refine CallN.pure (of_new its a1 c1 _ _ _ (x0 :: xs) ib io itc _ (hc.mono le_auto) his (hr6.mono le_auto) (by omega) (by exact hsw) (hxx.mono le_auto) hxl (by simp)) fun v V9 _ hV9 hv => ?_
     have hv9 := hv.weak (V0 := V) le_auto
     obtain ⟨z1, z2, z3, z4, hz, _⟩ := hv
     subst hz; conv => whnf
     repeat' ((first | refine br_t rfl ?_ | refine br_f rfl ?_ | refine IdxN.lit rfl rfl ?_ | intro _); conv => whnf)
     exact ret_pure ⟨_, rfl, fun _ => hv9, fun h => absurd rfl h⟩
   ·repeat (first | (refine br_t hpos ?_; conv => whnf) | (refine br_t (by simpa using hag) ?_; conv => whnf))
    repeat' ((first | refine br_t rfl ?_ | refine br_f rfl ?_ | refine IdxN.lit rfl rfl ?_ | intro _); conv => whnf)
    rw [if_pos (by simp [foldsL, hag])]
    refine CallN.pure (one_new its a1 c1 W.1 a2 c2 (x0 :: xs) ib io itc _ (hc.mono le_auto) his (hr2.mono le_auto) (by omega) (fun r h => hir r (hsub r h)) (fun r h => hw r (hsub r h)) (hxx.mono le_auto) hxl) fun v V3 _ hV3 ⟨x, hv, h1, h2⟩ => ?_
    subst hv; conv => whnf
    repeat' ((first | refine br_t rfl ?_ | refine br_f rfl ?_ | refine IdxN.lit rfl rfl ?_ | intro _); conv => whnf)
    refine ret_pure ⟨x, ?_⟩
    by_cases he : (oneX its W.1 (x0 :: xs)).2 = 0
    ·rw [if_neg (fun h => h he), he]
     exact ⟨rfl, fun _ => (h1 he).weak le_auto, fun h => absurd rfl h⟩
    ·rw [if_pos he]
     exact ⟨rfl, fun h => absurd h he, fun _ => h2 he⟩
theorem slice_lo (t : TypeId) (p off n cap k : Nat) (ht : Tryz.prog.underlying t = some (.slice (Tryz.prog.elem t))) (hz : ∀ w, (sizeOf (Tryz.prog.elem t)).run Tryz.prog w = .ok 1 w) (h : k ≤ n) (w : World) :
  (Instr.sliceAt t (.slice (some ⟨p, off, none⟩) n cap) (some (.int .i64 k)) none none).run Tryz.prog w = .ok (.slice (some ⟨p, if cap = k then off else off + k, none⟩) (n - k) (cap - k)) w := by
 rw [run_sliceAt_slice (h := ht), run_slice_l (ht := ht) (h0 := by omega) (h1 := by omega), hz]
 simp only [Result.andThen_ok, sliced, Int.toNat_natCast, Nat.mul_one, Option.map_some, add_lit]
 by_cases hk : cap = k
 ·simp [hk]
 ·simp [hk]
theorem under63 : Tryz.prog.underlying 36 = some (.slice (Tryz.prog.elem 36)) := by kernel_rfl
theorem size63 (w : World) : (sizeOf (Tryz.prog.elem 36)).run Tryz.prog w = .ok 1 w := by
 have e : sizeB Tryz.prog (Tryz.prog.elem 36) = some 1 := by kernel_rfl
 exact X.run_sizeOf e w
theorem slice_hiP (t : TypeId) (base : Option Addr) (hp : Plain base) (n cap k : Nat) (ht : Tryz.prog.underlying t = some (.slice (Tryz.prog.elem t))) (hz : ∀ w, (sizeOf (Tryz.prog.elem t)).run Tryz.prog w = .ok 1 w) (h : k ≤ cap) (w : World) :
  (Instr.sliceAt t (.slice base n cap) none (some (.int .i64 k)) none).run Tryz.prog w = .ok (.slice base k cap) w := by
 rw [run_sliceAt_slice (h := ht), run_slice_h (ht := ht) (h0 := by omega) (h2 := by omega), hz]
 rcases hp with rfl | ⟨p, off, rfl⟩
 ·simp [sliced]
 ·simp [sliced, add_lit]
def cutB (base : Option Addr) (k cap : Nat) : Option Addr := match base with
 | some ⟨p, off, sp⟩ => some ⟨p, if cap = k then off else off + k, sp⟩
 | none => none
theorem slice_loP (t : TypeId) (base : Option Addr) (hp : Plain base) (n cap k : Nat) (ht : Tryz.prog.underlying t = some (.slice (Tryz.prog.elem t))) (hz : ∀ w, (sizeOf (Tryz.prog.elem t)).run Tryz.prog w = .ok 1 w) (h : k ≤ n) (w : World) :
  (Instr.sliceAt t (.slice base n cap) (some (.int .i64 k)) none none).run Tryz.prog w = .ok (.slice (cutB base k cap) (n - k) (cap - k)) w := by
 rcases hp with rfl | ⟨p, off, rfl⟩
 ·rw [run_sliceAt_slice (h := ht), run_slice_l (ht := ht) (h0 := by omega) (h1 := by omega), hz]
  simp [sliced, cutB]
 ·rw [slice_lo t p off n cap k ht hz h w]; rfl
theorem cells_take {V : View} {base : Option Addr} {n cap n' cap' : Nat} {l : List Value} (h : V.cells (.slice base n cap) l) (hp : Plain base) (k : Nat) : V.cells (.slice base n' cap') (l.take k) := by
 rcases hp with rfl | ⟨p, off, rfl⟩
 ·have : l = [] := h
  subst this; simp; rfl
 ·have h : V.has p off l := h
  show V.has p off (l.take k)
  intro i v hi
  rw [List.getElem?_take] at hi
  split at hi
  ·exact h i v hi
  ·cases hi
theorem cells_drop {V : View} {base : Option Addr} {n cap n' cap' : Nat} {l : List Value} (h : V.cells (.slice base n cap) l) (hp : Plain base) (k : Nat) (hl : l.length ≤ cap) : V.cells (.slice (cutB base k cap) n' cap') (l.drop k) := by
 rcases hp with rfl | ⟨p, off, rfl⟩
 ·have : l = [] := h
  subst this; simp; rfl
 ·have h : V.has p off l := h
  show V.has p (if cap = k then off else off + k) (l.drop k)
  intro i v hi
  rw [List.getElem?_drop] at hi
  have hlt := (List.getElem?_eq_some_iff.1 hi).1
  rw [if_neg (by omega), Nat.add_assoc]
  exact h (k + i) v hi
theorem CellsAt.ins {V : View} {rows : List (List Val)} {cells : List Value} (h : CellsAt V rows cells) {r : List Val} {c : Value} (hr : RowAt V r c) (k : Nat) : CellsAt V (insAt r rows k) (insAt c cells k) := by
 refine ⟨by rw [insAt_len, insAt_len, h.len], fun i r' c' h1 h2 => ?_⟩
 unfold insAt at h1 h2
 have e1 : (rows.take k).length = (cells.take k).length := by rw [List.length_take, List.length_take, h.len]
 by_cases hi : i < (rows.take k).length
 ·rw [List.getElem?_append_left hi, List.getElem?_take] at h1
  rw [List.getElem?_append_left (by omega), List.getElem?_take] at h2
  split at h1
  ·rename_i h3; rw [if_pos h3] at h2; exact h.at' i r' c' h1 h2
  ·cases h1
 ·rw [List.getElem?_append_right (by omega)] at h1
  rw [List.getElem?_append_right (by omega), ← e1] at h2
  cases hd : i - (rows.take k).length with
  | zero =>
   rw [hd] at h1 h2
   simp only [List.getElem?_cons_zero, Option.some.injEq] at h1 h2
   subst h1; subst h2; exact hr
  | succ d =>
   rw [hd] at h1 h2
   simp only [List.getElem?_cons_succ, List.getElem?_drop] at h1 h2
   exact h.at' (k + d) r' c' h1 h2
/-- where it goes: behind all, or where its order says -/
def placeX (w : Bool) (k : Nat) (d : Bool) (r : List Val) (l : List (List Val)) (n : Nat) : Nat := if w then kOf (ltR k d) r l n else n
def rsortF (w : Bool) (k : Nat) (d : Bool) : List (List Val) → List (List Val) → List (List Val)
 | acc, [] => acc
 | acc, r :: l => rsortF w k d (insAt r acc (placeX w k d r acc acc.length)) l
theorem rsortF_true (k : Nat) (d : Bool) : ∀ l acc, rsortF true k d acc l = sortF (ltR k d) acc l
 | [], acc => rfl
 | r :: l, acc => by rw [rsortF, sortF, rsortF_true k d l]; rfl
theorem rsortF_false (k : Nat) (d : Bool) : ∀ l acc, rsortF false k d acc l = acc ++ l
 | [], acc => by rw [rsortF, List.append_nil]
 | r :: l, acc => by
  rw [rsortF, rsortF_false k d l]
  show insAt r acc acc.length ++ l = _
  rw [insAt, List.take_length, List.drop_length]; simp
def allHave (k : Int) (rows : List (List Val)) : Bool := decide (k ≥ 0) && rows.all fun r => decide (k < (r.length : Int))
theorem rsort_eq (k : Int) (d : Bool) (rows : List (List Val)) : rsortF (allHave k rows) k.toNat d [] rows = sortX k d rows := by
 unfold sortX
 have hl : lacks k rows = !(rows.all fun r => decide (k < (r.length : Int))) := by
  unfold lacks
  rw [List.any_eq_not_all_not]
  congr 2
  funext r
  by_cases h : k < (r.length : Int)
  ·rw [decide_eq_true h, decide_eq_false (by omega)]; rfl
  ·rw [decide_eq_false h, decide_eq_true (by omega)]; rfl
 unfold allHave
 by_cases h0 : k < 0
 ·rw [if_pos (.inl h0), decide_eq_false (by omega), Bool.false_and, rsortF_false]; rfl
 ·rw [decide_eq_true (by omega), Bool.true_and]
  cases ha : rows.all fun r => decide (k < (r.length : Int)) with
  | true => rw [if_neg (by rw [hl, ha]; simp; omega), rsortF_true]; rfl
  | false => rw [if_pos (.inr (by rw [hl, ha]; rfl)), rsortF_false]; rfl
end Go.Proofs.YtenpginanhnkbaaGreat
end
