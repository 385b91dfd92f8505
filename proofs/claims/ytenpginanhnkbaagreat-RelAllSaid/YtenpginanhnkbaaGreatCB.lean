/- One part of a proof: an evaluator of the model, shown right, and contracts that it yields. No condition beyond those that each theorem names. -/
import Derived.Test.YtenpginanhnkbaaGreatCA
import Derived.Test.YtenpginanhnkbaaGreatXZ
import Derived.WalkKit
import Derived.OpenShut
section
set_option linter.unusedSimpArgs false
set_option linter.unusedVariables false
namespace Go.Proofs.YtenpginanhnkbaaGreat
open Go.X
set_option maxRecDepth 100000
def hitA (tb nm : ByteArray) (x : Item) : Bool := x.nm.toList == nm.toList && (tb.toList == noText.toList || tb.toList == x.tb.toList)
/-- the place of the one column of that name -/
def findA (tb nm : ByteArray) : Nat → Int → List Item → Option Int
 | _, k, [] => some k
 | i, k, x :: l => if hitA tb nm x then (if 0 ≤ k then none else findA tb nm (i + 1) i l) else findA tb nm (i + 1) k l
def atA (tb nm : ByteArray) (its : List Item) : Int × Int := match findA tb nm 0 (-1) its with
 | none => (-1, 10)
 | some k => if k < 0 then (-1, 10) else (k, 0)
def pl43 : Plans := [(5, [(0, []), (1, []), (2, []), (3, []), (4, []), (5, []), (6, []), (7, []), (8, []), (9, []), (10, []), (11, []), (12, []), (13, []), (14, []), (15, []), (16, []), (17, []), (18, []), (19, []), (20, []), (21, []), (22, [])])]
set_option maxHeartbeats 4000000 in
theorem at_spec (its : List Item) (n : Nat) (p c o1 : Nat) (x : XC) (V : View) (h1 : V.has p o1 (its.flatMap icells)) (hl : its.length ≤ 1000000) (hl2 : n ≤ 1000000) :
  PSpec 29 [.slice (some ⟨p, o1, none⟩) its.length c, .int .i64 n, xagg x] V (fun v _ => v = .tuple #[.int .i64 (atA x.tb x.nm (its.take n)).1, .int .i64 (atA x.tb x.nm (its.take n)).2]) := by
 refine pspec pl43 (args := [.v _, .v _, .v _]) Tryz.func29 (by kernel_rfl) rfl ?_; conv => whnf
 intro b1
 conv => whnf
 refine LoopN.mk' (σ := Nat × Int) (fun s => St.of [(0, .v (.slice (some ⟨p, o1, none⟩) its.length c)), (1, .v (.int .i64 n)), (5, .own 5 0), (8, .v (.int .i64 s.2)), (9, .v (.int .i64 s.1))] [(5, .box b1 71 (xcells x))])
  (fun k s V' => V.le V' ∧ s.1 ≤ its.length ∧ s.1 ≤ n ∧ its.length - s.1 = k ∧ findA x.tb x.nm s.1 s.2 ((its.take n).drop s.1) = findA x.tb x.nm 0 (-1) (its.take n)) its.length (0, -1)
  (weak_of ⟨⟨rfl, _, rfl⟩, ⟨rfl, _, rfl⟩, ⟨rfl, _, rfl⟩, ⟨rfl, _, rfl⟩, ⟨rfl, _, rfl⟩, trivial⟩ ⟨rfl, trivial⟩) ⟨View.le_refl _, by simp, by simp, by simp, rfl⟩ fun k s V' ⟨hV, hi, hin, hk, hc⟩ => ?_
 obtain ⟨i, j⟩ := s
 simp only at hi hin hk hc
 conv => whnf
 refine ⟨⟨_, min_run its.length n _ _, ?_⟩⟩
 conv => whnf
 apply br <;> intro h3 <;> conv => whnf
 ·have h3 : (i : Int) < (if (n : Int) < its.length then (n : Int) else its.length) := by simpa using h3
  have hi1 : i < its.length := by split at h3 <;> omega
  have hi2 : i < n := by split at h3 <;> omega
  obtain ⟨y, hy⟩ : ∃ y, its[i]? = some y := ⟨_, List.getElem?_eq_getElem hi1⟩
  have hstep : findA x.tb x.nm 0 (-1) (its.take n) = if hitA x.tb x.nm y then (if 0 ≤ j then none else findA x.tb x.nm (i + 1) i ((its.take n).drop (i + 1))) else findA x.tb x.nm (i + 1) j ((its.take n).drop (i + 1)) := by
   have hi3 : i < (its.take n).length := by rw [List.length_take]; omega
   rw [← hc, List.drop_eq_getElem_cons hi3]
   have e1 : (its.take n)[i] = y := by
    rw [List.getElem_take]
    rw [List.getElem?_eq_getElem hi1] at hy; exact Option.some.inj hy
   rw [e1]; rfl
  have hy1 := (has_flat (n := 3) (fun _ => rfl) its o1 h1 i y hy).mono hV
  have hw : IntKind.i64.wrap ((i : Int) + 1) = ((i + 1 : Nat) : Int) := by rw [wrapE]; omega
  refine IdxN.of (by omega) (by omega) ?_; conv => whnf
  refine LoadN.of hy1 2 rfl rfl ?_; conv => whnf
  apply br <;> intro h4 <;> conv => whnf
  ·repeat (refine br_t h4 ?_; conv => whnf)
   apply br <;> intro h5 <;> conv => whnf
   ·have hh : hitA x.tb x.nm y = true := by
     simp only [hitA, Bool.and_eq_true, Bool.or_eq_true]
     exact ⟨h4, .inl h5⟩
    repeat (first | (refine br_t h4 ?_; conv => whnf) | (refine br_t h5 ?_; conv => whnf))
    apply br <;> intro h7 <;> conv => whnf
    ·have h7 : 0 ≤ j := by simpa using h7
     refine ret_pure ?_
     unfold atA
     rw [hstep, if_pos hh, if_pos h7]; rfl
    ·have h7 : ¬ 0 ≤ j := by simpa using h7
     refine ⟨k - 1, _, by omega, ?_, (i + 1, (i : Int)), rfl, hV, by simp only; omega, by simp only; omega, by simp only; omega, by rw [hstep, if_pos hh, if_neg h7]⟩
     exact weak_of ⟨⟨rfl, _, rfl⟩, ⟨rfl, _, rfl⟩, ⟨rfl, _, rfl⟩, ⟨rfl, _, rfl⟩, ⟨by rw [← hw]; rfl, _, rfl⟩, trivial⟩ ⟨rfl, trivial⟩
   ·repeat (first | (refine br_t h4 ?_; conv => whnf) | (refine br_f h5 ?_; conv => whnf))
    refine IdxN.of (by omega) (by omega) ?_; conv => whnf
    repeat (first | (refine br_t h4 ?_; conv => whnf) | (refine br_f h5 ?_; conv => whnf))
    refine LoadN.of hy1 1 rfl rfl ?_; conv => whnf
    repeat (first | (refine br_t h4 ?_; conv => whnf) | (refine br_f h5 ?_; conv => whnf))
    apply br <;> intro h6 <;> conv => whnf
    ·have hh : hitA x.tb x.nm y = true := by
      simp only [hitA, Bool.and_eq_true, Bool.or_eq_true]
      exact ⟨h4, .inr h6⟩
     apply br <;> intro h7 <;> conv => whnf
     ·have h7 : 0 ≤ j := by simpa using h7
      refine ret_pure ?_
      unfold atA
      rw [hstep, if_pos hh, if_pos h7]; rfl
     ·have h7 : ¬ 0 ≤ j := by simpa using h7
      refine ⟨k - 1, _, by omega, ?_, (i + 1, (i : Int)), rfl, hV, by simp only; omega, by simp only; omega, by simp only; omega, by rw [hstep, if_pos hh, if_neg h7]⟩
      exact weak_of ⟨⟨rfl, _, rfl⟩, ⟨rfl, _, rfl⟩, ⟨rfl, _, rfl⟩, ⟨rfl, _, rfl⟩, ⟨by rw [← hw]; rfl, _, rfl⟩, trivial⟩ ⟨rfl, trivial⟩
    ·have hh : hitA x.tb x.nm y = false := by
      simp only [hitA]
      rw [show (x.tb.toList == noText.toList) = false from h5, h6]; simp
     refine ⟨k - 1, _, by omega, ?_, (i + 1, j), rfl, hV, by simp only; omega, by simp only; omega, by simp only; omega, by rw [hstep, hh]; rfl⟩
     exact weak_of ⟨⟨rfl, _, rfl⟩, ⟨rfl, _, rfl⟩, ⟨rfl, _, rfl⟩, ⟨rfl, _, rfl⟩, ⟨by rw [← hw]; rfl, _, rfl⟩, trivial⟩ ⟨rfl, trivial⟩
  ·have hh : hitA x.tb x.nm y = false := by
    simp only [hitA]
    rw [h4]; simp
   repeat (refine br_f h4 ?_; conv => whnf)
   refine ⟨k - 1, _, by omega, ?_, (i + 1, j), rfl, hV, by simp only; omega, by simp only; omega, by simp only; omega, by rw [hstep, hh]; rfl⟩
   exact weak_of ⟨⟨rfl, _, rfl⟩, ⟨rfl, _, rfl⟩, ⟨rfl, _, rfl⟩, ⟨rfl, _, rfl⟩, ⟨by rw [← hw]; rfl, _, rfl⟩, trivial⟩ ⟨rfl, trivial⟩
 ·have h3 : ¬ (i : Int) < (if (n : Int) < its.length then (n : Int) else its.length) := by simpa using h3
  have hend : findA x.tb x.nm 0 (-1) (its.take n) = some j := by
   rw [← hc]
   have e : (its.take n).drop i = [] := List.drop_eq_nil_of_le (by rw [List.length_take]; split at h3 <;> omega)
   rw [e]; rfl
  apply br <;> intro h7 <;> conv => whnf
  ·have h7 : j < 0 := by simpa using h7
   refine ret_pure ?_
   unfold atA
   rw [hend]
   simp only [if_pos h7]
   rfl
  ·have h7 : ¬ j < 0 := by simpa using h7
   refine ret_pure ?_
   unfold atA
   rw [hend]
   simp only [if_neg h7]
   rfl
structure Src where
 base : Option Addr
 cap : Nat
 l : List Int
def Src.slice (s : Src) : Value := .slice s.base s.l.length s.cap
def Src.cells (s : Src) : List Value := s.l.map fun x => .int .u8 x
structure Src.ok (s : Src) (V : View) : Prop where
 has : s.l ≠ [] → V.cells s.slice s.cells
 num : ∀ x ∈ s.l, 0 ≤ x ∧ x ≤ 255
 len : s.l.length ≤ 1000000
theorem Src.ok.mono {s : Src} {V V' : View} (h : s.ok V) (hV : V.le V') : s.ok V' := ⟨fun hn => (h.has hn).mono hV, h.num, h.len⟩
def picksC (s : Src) (k : Int) : List Value := [.slice s.base s.l.length s.cap, .int .i64 k]
def picks (b : Nat) (s : Src) (k : Int) : Res := .box b 92 (picksC s k)
/-- how far it has read -/
def FarOk (s : Src) (k : Int) : Prop := 0 ≤ k ∧ k ≤ s.l.length
theorem rem_run (x y : Operand) (p b : Int) (h : b ≠ 0) (w : World) : Sem.run Tryz.prog (do
      eqGuard BinOp.rem 3 x y (.int .i64 p) (.int .i64 b)
      binOp BinOp.rem 3 (.int .i64 p) (.int .i64 b)) w = .ok (.int .i64 (p.tmod b)) w := by
  simp [eqGuard, binOp, Op.intDiv, h]
def pl37 : Plans := [(1, [(0, []), (1, []), (2, []), (3, []), (4, []), (5, []), (6, []), (7, []), (8, []), (9, [])]), (4, [(0, []), (1, []), (2, []), (3, []), (4, []), (5, []), (6, []), (7, []), (8, []), (9, []), (10, []), (11, []), (12, []), (13, []), (14, [])])]
/-- the choice that is read, and how far that is then -/
def numF (l : List Int) (k m : Int) : Int × Int := if k ≥ (l.length : Int) then (0, k) else (((l[k.toNat]?).getD 0).tmod m, k + 1)
theorem num_specF (b : Nat) (s : Src) (k m : Int) (hk : FarOk s k) (hm : 0 < m) (V : View) (hs : s.ok V) :
  Does Tryz.prog 38 [.pointer (some ⟨b, 0, none⟩), .int .i64 m] V [picks b s k] (fun v _ bs => ∃ r k', v = .int .i64 r ∧ 0 ≤ r ∧ r < m ∧ FarOk s k' ∧ bs = [picks b s k'] ∧ (r, k') = numF s.l k m) := by
 refine does_of_yfun pl37 mixed (args := [.own 0 0, .v _]) (ms := [(0, picks b s k)]) Tryz.func38 (by kernel_rfl) rfl ?_; conv => whnf
 obtain ⟨hk0, hk1⟩ := hk
 have hlen := hs.len
 apply br <;> intro h1 <;> conv => whnf
 ·exact ⟨[0], by simp, [picks b s k], rfl, 0, k, rfl, by decide, hm, ⟨hk0, hk1⟩, rfl, by rw [numF, if_pos (of_decide_eq_true h1)]⟩
 have h1 : k < s.l.length := by simpa using h1
 have hw : IntKind.i64.wrap (k + 1) = k + 1 := by rw [wrapE]; omega
 have hw2 : IntKind.i64.wrap (IntKind.i64.wrap (k + 1) - 1) = k := by rw [hw, wrapE]; omega
 have hlt : k.toNat < s.l.length := by omega
 have hhas := hs.has (fun e => by rw [e] at hlt; simp at hlt)
 obtain ⟨x, hx⟩ : ∃ x, s.l[k.toNat]? = some x := ⟨_, List.getElem?_eq_getElem hlt⟩
 have hx2 := hs.num x (List.mem_of_getElem? hx)
 obtain ⟨p, off, hb, hh⟩ : ∃ p off, s.base = some ⟨p, off, none⟩ ∧ V.has p off s.cells := by
  have hne : s.cells ≠ [] := fun e => by
   have := congrArg List.length e
   simp only [Src.cells, List.length_map, List.length_nil] at this
   omega
  obtain ⟨y, l, hyl⟩ := List.exists_cons_of_ne_nil hne
  unfold Src.slice at hhas
  rw [hyl] at hhas ⊢
  exact cells_cut hhas
 have hone : V.has p (off + k.toNat) [.int .u8 x] := fun j v hj => by
  cases j with
  | zero =>
   simp only [List.getElem?_cons_zero, Option.some.injEq] at hj
   subst hj
   exact hh k.toNat _ (by simp [Src.cells, hx])
  | succ j => simp at hj
 refine ⟨⟨p, off, hb, by rw [hw2]; omega, by rw [hw2]; omega, ?_⟩⟩
 conv => whnf
 refine LoadN.of hone 0 (by rw [hw2]; show off + k.toNat * 1 = off + k.toNat + 0; omega) rfl ?_; conv => whnf
 have hwx : IntKind.i64.wrap x = x := by rw [wrapE]; omega
 refine ⟨⟨_, rem_run _ _ _ _ (by omega), ?_⟩⟩
 conv => whnf
 refine ⟨[0], by simp, [picks b s (IntKind.i64.wrap (k + 1))], rfl, _, _, rfl, ?_, ?_, ?_, rfl, ?_⟩
 ·rw [hwx]; exact Int.tmod_nonneg _ hx2.1
 ·rw [hwx]; exact Int.tmod_lt_of_pos _ hm
 ·rw [hw]; exact ⟨by omega, by omega⟩
 ·rw [numF, if_neg (by omega), hw, hwx, hx]; rfl
theorem num_spec (b : Nat) (s : Src) (k m : Int) (hk : FarOk s k) (hm : 0 < m) (V : View) (hs : s.ok V) :
  Does Tryz.prog 38 [.pointer (some ⟨b, 0, none⟩), .int .i64 m] V [picks b s k] (fun v _ bs => ∃ r k', v = .int .i64 r ∧ 0 ≤ r ∧ r < m ∧ FarOk s k' ∧ bs = [picks b s k']) :=
 (num_specF b s k m hk hm V hs).mono fun v V' bs _ ⟨r, k', h1, h2, h3, h4, h5, _⟩ => ⟨r, k', h1, h2, h3, h4, h5⟩
/-- a value of a kind -/
structure KindV (kind : Int) (x : Val) : Prop where
 k : x.k = kind
 n : InR x.n
 t : x.t.size ≤ 100
 empty : kind = 1 → x.t.toList = []
 zero : kind = 2 → x.n = 0
/-- the value that is made -/
def textF (r : Int) : Val := if r = 0 then ⟨2, 0, { data := #[97] }⟩ else if r = 1 then ⟨2, 0, { data := #[98] }⟩ else if r = 2 then ⟨2, 0, { data := #[] }⟩ else if r = 3 then ⟨2, 0, { data := #[105, 116, 39, 115] }⟩ else ⟨2, 0, { data := #[122, 122] }⟩
def valF (l : List Int) (k kind : Int) : Val × Int := if kind = 1 then (if (numF l k 12).1 = 11 then ⟨1, 9223372036854775807, noText⟩ else ⟨1, (numF l k 12).1, noText⟩, (numF l k 12).2) else (textF (numF l k 5).1, (numF l k 5).2)
set_option maxHeartbeats 4000000 in
theorem value_specF (b : Nat) (s : Src) (k kind : Int) (hk : FarOk s k) (hkind : kind = 1 ∨ kind = 2) (V : View) (hs : s.ok V) :
  Does Tryz.prog 41 [.pointer (some ⟨b, 0, none⟩), .int .i64 kind] V [picks b s k] (fun v _ bs => ∃ x k', v = vv x ∧ KindV kind x ∧ FarOk s k' ∧ bs = [picks b s k'] ∧ (x, k') = valF s.l k kind) := by
 refine does_of_yfun [] mixed (args := [.own 0 0, .v _]) (ms := [(0, picks b s k)]) Tryz.func41 (by kernel_rfl) rfl ?_; conv => whnf
 intro b1
 conv => whnf
 rcases hkind with rfl | rfl
 ·refine br_f rfl ?_; conv => whnf
  refine CallN.box 0 rfl (num_specF b s k 12 hk (by decide) _ hs) fun v V1 bs hV ⟨r, k', hv, h0, h1, hf, hb, hN⟩ => ⟨92, picksC s k', hb, ?_⟩
  subst hv; conv => whnf
  apply br <;> intro h2 <;> conv => whnf
  ·exact ⟨[0], by simp, [picks b s k'], rfl, ⟨1, 9223372036854775807, noText⟩, k', rfl, ⟨rfl, ⟨by decide, by decide⟩, by decide, fun _ => by simp [noText, ByteArray.toList_eq], fun h => by cases h⟩, hf, rfl, (by rw [valF, if_pos rfl, ← hN]; simp [show r = 11 from by simpa using h2])⟩
  ·exact ⟨[0], by simp, [picks b s k'], rfl, ⟨1, r, noText⟩, k', rfl, ⟨rfl, ⟨by show _ ≤ r; omega, by show r ≤ _; omega⟩, (by show (0 : Nat) ≤ 100; decide), fun _ => by simp [noText, ByteArray.toList_eq], fun h => by cases h⟩, hf, rfl, (by rw [valF, if_pos rfl, ← hN]; simp [show ¬ r = 11 from by simpa using h2])⟩
 ·refine br_t rfl ?_; conv => whnf
  intro b2 V1 hV1 h1
  conv => whnf
  refine CallN.box 0 rfl (num_specF b s k 5 hk (by decide) _ (hs.mono hV1)) fun v V2 bs hV ⟨r, k', hv, h0, h2, hf, hb, hN⟩ => ⟨92, picksC s k', hb, ?_⟩
  subst hv
  have hr : r = 0 ∨ r = 1 ∨ r = 2 ∨ r = 3 ∨ r = 4 := by omega
  rcases hr with rfl | rfl | rfl | rfl | rfl
  ·conv => whnf
   refine IdxN.lit rfl rfl ?_; conv => whnf
   refine LoadN.of (h1.mono hV) 0 rfl rfl ?_; conv => whnf
   exact ⟨[0], by simp, [picks b s k'], rfl, ⟨2, 0, { data := #[97] }⟩, k', rfl, ⟨rfl, ⟨by show (_ : Int) ≤ 0; decide, by show (0 : Int) ≤ _; decide⟩, by decide, (fun h => by cases h), fun _ => rfl⟩, hf, rfl, by rw [valF, if_neg (by decide), ← hN]; rfl⟩
  ·conv => whnf
   refine IdxN.lit rfl rfl ?_; conv => whnf
   refine LoadN.of (h1.mono hV) 1 rfl rfl ?_; conv => whnf
   exact ⟨[0], by simp, [picks b s k'], rfl, ⟨2, 0, { data := #[98] }⟩, k', rfl, ⟨rfl, ⟨by show (_ : Int) ≤ 0; decide, by show (0 : Int) ≤ _; decide⟩, by decide, (fun h => by cases h), fun _ => rfl⟩, hf, rfl, by rw [valF, if_neg (by decide), ← hN]; rfl⟩
  ·conv => whnf
   refine IdxN.lit rfl rfl ?_; conv => whnf
   refine LoadN.of (h1.mono hV) 2 rfl rfl ?_; conv => whnf
   exact ⟨[0], by simp, [picks b s k'], rfl, ⟨2, 0, { data := #[] }⟩, k', rfl, ⟨rfl, ⟨by show (_ : Int) ≤ 0; decide, by show (0 : Int) ≤ _; decide⟩, by decide, (fun h => by cases h), fun _ => rfl⟩, hf, rfl, by rw [valF, if_neg (by decide), ← hN]; rfl⟩
  ·conv => whnf
   refine IdxN.lit rfl rfl ?_; conv => whnf
   refine LoadN.of (h1.mono hV) 3 rfl rfl ?_; conv => whnf
   exact ⟨[0], by simp, [picks b s k'], rfl, ⟨2, 0, { data := #[105, 116, 39, 115] }⟩, k', rfl, ⟨rfl, ⟨by show (_ : Int) ≤ 0; decide, by show (0 : Int) ≤ _; decide⟩, by decide, (fun h => by cases h), fun _ => rfl⟩, hf, rfl, by rw [valF, if_neg (by decide), ← hN]; rfl⟩
  ·conv => whnf
   refine IdxN.lit rfl rfl ?_; conv => whnf
   refine LoadN.of (h1.mono hV) 4 rfl rfl ?_; conv => whnf
   exact ⟨[0], by simp, [picks b s k'], rfl, ⟨2, 0, { data := #[122, 122] }⟩, k', rfl, ⟨rfl, ⟨by show (_ : Int) ≤ 0; decide, by show (0 : Int) ≤ _; decide⟩, by decide, (fun h => by cases h), fun _ => rfl⟩, hf, rfl, by rw [valF, if_neg (by decide), ← hN]; rfl⟩
theorem value_spec (b : Nat) (s : Src) (k kind : Int) (hk : FarOk s k) (hkind : kind = 1 ∨ kind = 2) (V : View) (hs : s.ok V) :
  Does Tryz.prog 41 [.pointer (some ⟨b, 0, none⟩), .int .i64 kind] V [picks b s k] (fun v _ bs => ∃ x k', v = vv x ∧ KindV kind x ∧ FarOk s k' ∧ bs = [picks b s k']) :=
 (value_specF b s k kind hk hkind V hs).mono fun v V' bs _ ⟨x, k', h1, h2, h3, h4, _⟩ => ⟨x, k', h1, h2, h3, h4⟩
theorem lit_spec (x : Val) (V : View) : PSpec 40 [vv x] V (fun v _ => v = xagg (litX x)) := by
 refine pspec [] (args := [.v _]) Tryz.func40 (by kernel_rfl) rfl ?_; conv => whnf
 intro b1
 conv => whnf
 intro b2
 conv => whnf
 exact ret_pure rfl
theorem mktwo_spec (op : Int) (x y : XC) (V : View) : PSpec 68 [.int .i64 op, xagg x, xagg y] V (fun v V' => ∃ p, v = xagg ⟨op, v0, noText, noText, some ⟨p, 0, none⟩, 2, 2⟩ ∧ V'.has p 0 (xcells x ++ xcells y)) := by
 refine pspec [] (args := [.v _, .v _, .v _]) Tryz.func68 (by kernel_rfl) rfl ?_; conv => whnf
 intro b1
 conv => whnf
 intro b2
 conv => whnf
 intro b3
 conv => whnf
 intro b4 V1 hV1 h1
 conv => whnf
 exact ret_pure ⟨b4, rfl, h1⟩
/-- how often a name stands among columns -/
def countN (nm : ByteArray) : List Item → Nat
 | [] => 0
 | x :: l => if x.nm.toList == nm.toList then countN nm l + 1 else countN nm l
theorem once_spec (its : List Item) (p c o1 : Nat) (nm : ByteArray) (V : View) (h1 : V.has p o1 (its.flatMap icells)) (hl : its.length ≤ 1000000) :
  PSpec 85 [.slice (some ⟨p, o1, none⟩) its.length c, .string nm] V (fun v _ => v = .bool (countN nm its == 1)) := by
 refine pspec [] (args := [.v _, .v _]) Tryz.func85 (by kernel_rfl) rfl ?_; conv => whnf
 refine LoopN.mk' (σ := Nat × Nat) (fun s => St.of [(0, .v (.slice (some ⟨p, o1, none⟩) its.length c)), (1, .v (.string nm)), (5, .v (.int .i64 s.2)), (6, .v (.int .i64 s.1))] [])
  (fun k s V' => V.le V' ∧ s.1 ≤ its.length ∧ s.2 ≤ s.1 ∧ its.length - s.1 = k ∧ s.2 + countN nm (its.drop s.1) = countN nm its) its.length (0, 0)
  (weak_of ⟨⟨rfl, _, rfl⟩, ⟨rfl, _, rfl⟩, ⟨rfl, _, rfl⟩, ⟨rfl, _, rfl⟩, trivial⟩ trivial) ⟨View.le_refl _, by simp, by simp, by simp, by simp⟩ fun k s V' ⟨hV, hi, hj, hk, hc⟩ => ?_
 obtain ⟨i, j⟩ := s
 simp only at hi hj hk hc
 conv => whnf
 have hw : IntKind.i64.wrap ((i : Int) + 1) = ((i + 1 : Nat) : Int) := by rw [wrapE]; omega
 have hw2 : IntKind.i64.wrap ((j : Int) + 1) = ((j + 1 : Nat) : Int) := by rw [wrapE]; omega
 apply br <;> intro h3 <;> conv => whnf
 ·have hi1 : i < its.length := by simpa using h3
  obtain ⟨y, hy⟩ : ∃ y, its[i]? = some y := ⟨_, List.getElem?_eq_getElem hi1⟩
  have hy1 := (has_flat (n := 3) (fun _ => rfl) its o1 h1 i y hy).mono hV
  have hstep : countN nm (its.drop i) = if y.nm.toList == nm.toList then countN nm (its.drop (i + 1)) + 1 else countN nm (its.drop (i + 1)) := by
   rw [List.drop_eq_getElem_cons hi1]
   have e1 : its[i] = y := by rw [List.getElem?_eq_getElem hi1] at hy; exact Option.some.inj hy
   rw [e1]; rfl
  refine IdxN.of (by omega) (by omega) ?_; conv => whnf
  refine LoadN.of hy1 2 rfl rfl ?_; conv => whnf
  apply br <;> intro h4 <;> conv => whnf
  ·rw [if_pos h4] at hstep
   refine ⟨k - 1, _, by omega, ?_, (i + 1, j + 1), rfl, hV, by simp only; omega, by simp only; omega, by simp only; omega, by simp only; omega⟩
   exact weak_of ⟨⟨rfl, _, rfl⟩, ⟨rfl, _, rfl⟩, ⟨by rw [← hw2]; rfl, _, rfl⟩, ⟨by rw [← hw]; rfl, _, rfl⟩, trivial⟩ trivial
  ·rw [if_neg (by rw [h4]; simp)] at hstep
   refine ⟨k - 1, _, by omega, ?_, (i + 1, j), rfl, hV, by simp only; omega, by simp only; omega, by simp only; omega, by simp only; omega⟩
   exact weak_of ⟨⟨rfl, _, rfl⟩, ⟨rfl, _, rfl⟩, ⟨rfl, _, rfl⟩, ⟨by rw [← hw]; rfl, _, rfl⟩, trivial⟩ trivial
 ·have h3 : ¬ i < its.length := by simpa using h3
  refine ret_pure ?_
  have e : its.drop i = [] := List.drop_eq_nil_of_le (by omega)
  rw [e] at hc
  have : j = countN nm its := by simpa [countN] using hc
  subst this
  show Value.bool _ = _
  congr 1
  rw [Bool.eq_iff_iff]
  simp only [beq_iff_eq]
  omega
/-- the two tables -/
structure Tab where
 nm : ByteArray
 p : Nat
 len : Nat
 cap : Nat
 q : Option Addr
 qlen : Nat
 qcap : Nat
def tcells (t : Tab) : List Value := [.string t.nm, .slice (some ⟨t.p, 0, none⟩) t.len t.cap, .slice t.q t.qlen t.qcap]
structure ColT where
 nm : ByteArray
 kind : Int
 ref : ByteArray
def ccells (c : ColT) : List Value := [.string c.nm, .int .i64 c.kind, .string c.ref]
def txt (l : List UInt8) : ByteArray := ⟨⟨l⟩⟩
def colsT : List ColT := [⟨txt [107], 1, noText⟩, ⟨txt [118], 2, noText⟩, ⟨txt [110], 1, noText⟩]
def colsU : List ColT := [⟨txt [107], 2, noText⟩, ⟨txt [114], 1, txt [116]⟩, ⟨txt [110], 1, noText⟩]
def tabT (p q : Nat) : Tab := ⟨txt [116], p, 3, 3, some ⟨q, 0, none⟩, 1, 1⟩
def tabU (p : Nat) : Tab := ⟨txt [117], p, 3, 3, none, 0, 0⟩
theorem schema_spec (V : View) : PSpec 11 [] V (fun v V' => ∃ r p q p2 : Nat, v = .agg #[.slice (some ⟨r, 0, none⟩) 2 2, .slice none 0 0] ∧ V'.has r 0 (tcells (tabT p q) ++ tcells (tabU p2)) ∧ V'.has p 0 (colsT.flatMap ccells) ∧ V'.has p2 0 (colsU.flatMap ccells)) := by
 refine pspec [] (args := []) Tryz.func11 (by kernel_rfl) rfl ?_; conv => whnf
 intro b1
 conv => whnf
 intro p1 V1 hV1 h1
 conv => whnf
 intro p2 V2 hV2 h2
 conv => whnf
 intro p3 V3 hV3 h3
 conv => whnf
 intro p4 V4 hV4 h4
 conv => whnf
 exact ret_pure ⟨p4, p1, p2, p3, rfl, h4, h1.mono (View.le_trans hV2 (View.le_trans hV3 hV4)), h3.mono hV4⟩
/-- 'Made' hands back a box -/
theorem made_spec (s : Src) (V : View) : Does Tryz.prog 12 [s.slice] V [] (fun v _ bs => ∃ b, v = .pointer (some ⟨b, 0, none⟩) ∧ bs = [picks b s 0]) := by
 refine does_of_yfun [] mixed (args := [.v _]) (ms := []) Tryz.func12 (by kernel_rfl) rfl ?_; conv => whnf
 intro b1
 conv => whnf
 exact ⟨[5], by simp, [picks b1 s 0], rfl, b1, rfl, rfl⟩
def itemsT : List Item := [⟨0, txt [116], txt [107]⟩, ⟨0, txt [116], txt [118]⟩, ⟨0, txt [116], txt [110]⟩]
/-- the node of a column -/
def colN (tb nm : ByteArray) : XC := ⟨2, v0, tb, nm, none, 0, 0⟩
def x0 : XC := ⟨0, v0, noText, noText, none, 0, 0⟩
/-- the columns of a kind -/
def colsOf (kind : Int) : List Item → List Int → List Item
 | x :: l, k :: m => if k = kind then x :: colsOf kind l m else colsOf kind l m
 | _, _ => []
theorem colsOf_mem (kind : Int) : ∀ (l : List Item) (m : List Int) (y : Item), y ∈ colsOf kind l m → ∃ i : Nat, l[i]? = some y ∧ m[i]? = some kind
 | [], _, y, h => by simp [colsOf] at h
 | x :: l, [], y, h => by simp [colsOf] at h
 | x :: l, k :: m, y, h => by
  unfold colsOf at h
  split at h
  ·rename_i hk
   rcases List.mem_cons.1 h with h | h
   ·exact ⟨0, by rw [h]; rfl, by rw [hk]; rfl⟩
   ·obtain ⟨i, h1, h2⟩ := colsOf_mem kind l m y h
    exact ⟨i + 1, h1, h2⟩
  ·obtain ⟨i, h1, h2⟩ := colsOf_mem kind l m y h
   exact ⟨i + 1, h1, h2⟩
theorem colsOf_step {kind : Int} {its : List Item} {kinds : List Int} {i : Nat} {x : Item} {k : Int} (hx : its[i]? = some x) (hk : kinds[i]? = some k) :
  colsOf kind (its.drop i) (kinds.drop i) = if k = kind then x :: colsOf kind (its.drop (i + 1)) (kinds.drop (i + 1)) else colsOf kind (its.drop (i + 1)) (kinds.drop (i + 1)) := by
 obtain ⟨h1, e1⟩ := List.getElem?_eq_some_iff.1 hx
 obtain ⟨h2, e2⟩ := List.getElem?_eq_some_iff.1 hk
 rw [List.drop_eq_getElem_cons h1, List.drop_eq_getElem_cons h2, e1, e2]
 rfl
theorem has_ints {V : View} {p off : Nat} {l : List Int} (h : V.has p off (l.map (.int .i64 ·))) {i : Nat} {x : Int} (hx : l[i]? = some x) : V.has p (off + i) [.int .i64 x] := fun j v hj => by
 cases j with
 | zero =>
  simp only [List.getElem?_cons_zero, Option.some.injEq] at hj
  subst hj
  exact h i _ (by simp [hx])
 | succ j => simp at hj
theorem flat_len {α : Type} {f : α → List Value} {n : Nat} (hn : ∀ x, (f x).length = n) : ∀ l : List α, (l.flatMap f).length = l.length * n
 | [] => by simp
 | x :: l => by rw [List.flatMap_cons, List.length_append, hn, flat_len hn l, List.length_cons, Nat.succ_mul, Nat.add_comm]
theorem wrap_nat {i : Nat} (h : i ≤ 2000000) : IntKind.i64.wrap ((i : Int) + 1) = ((i + 1 : Nat) : Int) := by rw [wrapE]; omega
/-- columns, and their kinds, as two slices -/
structure ColsAt (V : View) (its : List Item) (kinds : List Int) (p off q off2 : Nat) : Prop where
 hasI : V.has p off (its.flatMap icells)
 hasK : V.has q off2 (kinds.map (.int .i64 ·))
 len : kinds.length = its.length
 small : its.length ≤ 20
theorem ColsAt.mono {V V' : View} {its : List Item} {kinds : List Int} {p off q off2 : Nat} (h : ColsAt V its kinds p off q off2) (hV : V.le V') : ColsAt V' its kinds p off q off2 := ⟨h.hasI.mono hV, h.hasK.mono hV, h.len, h.small⟩
set_option maxHeartbeats 4000000 in
theorem col_spec (b : Nat) (s : Src) (k kind : Int) (hk : FarOk s k) (its : List Item) (kinds : List Int) (p off c q off2 d n : Nat) (V : View) (hs : s.ok V) (h : ColsAt V its kinds p off q off2) (hn : n = its.length) :
  Does Tryz.prog 69 [.pointer (some ⟨b, 0, none⟩), .slice (some ⟨p, off, none⟩) n c, .slice (some ⟨q, off2, none⟩) n d, .int .i64 kind] V [picks b s k]
   (fun v _ bs => ∃ k', FarOk s k' ∧ bs = [picks b s k'] ∧ ((colsOf kind its kinds = [] ∧ v = .tuple #[xagg x0, .bool false]) ∨
    ∃ x ∈ colsOf kind its kinds, ∃ tb, v = .tuple #[xagg (colN tb x.nm), .bool true] ∧ ((tb = noText ∧ countN x.nm its = 1) ∨ tb = x.tb))) := by
 subst hn
 refine does_of_zfun [] mixed (args := [.own 0 0, .v _, .v _, .v _]) (ms := [(0, picks b s k)]) Tryz.func69 (by kernel_rfl) rfl ?_; conv => whnf
 have hsm := h.small
 have hle := h.len
 intro b1
 conv => whnf
 refine loopz (σ := Nat × Option Addr × Nat × List Item)
  (fun x => [(0, .own 0 0), (1, .v (.slice (some ⟨p, off, none⟩) its.length c)), (2, .v (.slice (some ⟨q, off2, none⟩) its.length d)), (3, .v (.int .i64 kind)), (8, .own 8 0), (10, .row 38), (11, .v (.int .i64 x.1))])
  (fun x => [(0, picks b s k), (8, .box b1 71 (xcells x0)), (38, .row (.slice x.2.1 x.2.2.2.length x.2.2.1) 68 3 x.2.2.2.length)])
  (fun j x V' => V.le V' ∧ x.1 ≤ its.length ∧ its.length - x.1 = j ∧ x.2.2.2.length ≤ x.1 ∧ x.2.2.2 ++ colsOf kind (its.drop x.1) (kinds.drop x.1) = colsOf kind its kinds ∧ V'.cells (.slice x.2.1 x.2.2.2.length x.2.2.1) (x.2.2.2.flatMap icells))
  its.length (0, none, 0, []) ?_ ?_ ?_ ?_
 ·repeat' (first | exact sees_nil | refine sees_cons rfl rfl rfl ?_)
 ·repeat' (first | exact keeps_nil | refine keeps_cons rfl ?_ | refine keeps_free ?_)
 ·exact ⟨View.le_refl _, Nat.zero_le _, by simp, Nat.le_refl _, rfl, rfl⟩
 rintro j ⟨i, base, cap, l⟩ V' ⟨hV, hi, hj, hl, hc, hx⟩
 simp only at hi hj hl hc hx
 conv => whnf
 apply br <;> intro h3 <;> conv => whnf
 ·have hi1 : i < its.length := by simpa using h3
  obtain ⟨x, hx1⟩ : ∃ x, its[i]? = some x := ⟨_, List.getElem?_eq_getElem hi1⟩
  obtain ⟨y, hy1⟩ : ∃ y, kinds[i]? = some y := ⟨_, List.getElem?_eq_getElem (by omega)⟩
  rw [colsOf_step hx1 hy1] at hc
  have hw := wrap_nat (i := i) (by omega)
  repeat (refine br_t h3 ?_; conv => whnf)
  refine IdxN.of (by omega) (by omega) ?_; conv => whnf
  refine LoadN.of (has_ints (h.hasK.mono le_auto) hy1) 0 (by show off2 + i * 1 = off2 + i + 0; omega) rfl ?_; conv => whnf
  apply br <;> intro h4 <;> conv => whnf
  ·have h4 : y = kind := by simpa using h4
   rw [if_pos h4] at hc
   refine IdxN.of (by omega) (by omega) ?_; conv => whnf
   refine LoadN.of (has_flat (n := 3) (fun _ => rfl) its off (h.hasI.mono le_auto) i x hx1) 0 rfl rfl ?_; conv => whnf
   intro b2 V2 hV2 h2
   conv => whnf
   refine AppN.to (l ++ [x]).length (by simp) (l.flatMap icells) (icells x) (hx.mono hV2) (flat_len (f := icells) (n := 3) (fun _ => rfl) l) h2 rfl rfl (by simp; omega) (by decide) fun base' cap' V3 hV3 hc3 => ?_; conv => whnf
   refine ⟨j - 1, (i + 1, base', cap', l ++ [x]), by omega, ?_, ?_, ?_⟩
   ·repeat' (first | exact sees_nil | refine sees_cons rfl rfl rfl ?_ | refine sees_cons rfl rfl (by rw [← hw]; rfl) ?_)
   ·repeat' (first | exact keeps_nil | refine keeps_cons rfl ?_ | refine keeps_free ?_)
   ·refine ⟨View.le_trans hV (View.le_trans hV2 hV3), hi1, by show _ - (i + 1) = _; omega, by show (l ++ [x]).length ≤ i + 1; simp; omega, by rw [List.append_assoc]; exact hc, ?_⟩
    rw [List.flatMap_append]; simpa using hc3
  ·have h4 : ¬ y = kind := by simpa using h4
   rw [if_neg h4] at hc
   refine ⟨j - 1, (i + 1, base, cap, l), by omega, ?_, ?_, ?_⟩
   ·repeat' (first | exact sees_nil | refine sees_cons rfl rfl rfl ?_ | refine sees_cons rfl rfl (by rw [← hw]; rfl) ?_)
   ·repeat' (first | exact keeps_nil | refine keeps_cons rfl ?_ | refine keeps_free ?_)
   ·exact ⟨hV, hi1, by show _ - (i + 1) = _; omega, by show l.length ≤ i + 1; omega, hc, hx⟩
 ·have h3 : ¬ i < its.length := by simpa using h3
  have hend : colsOf kind its kinds = l := by
   rw [← hc, List.drop_eq_nil_of_le (by omega : its.length ≤ i)]
   simp [colsOf]
  apply br <;> intro h5 <;> conv => whnf
  ·have h5 : l = [] := by simpa using h5
   refine ⟨[0], by simp, [picks b s k], rfl, k, hk, rfl, .inl ⟨by rw [hend, h5], rfl⟩⟩
  ·have h5 : l ≠ [] := by simpa using h5
   have hpos : 0 < l.length := List.length_pos_iff.2 h5
   obtain ⟨p3, off3, rfl, hx3⟩ := cells_some hx (fun e => h5 (List.eq_nil_of_length_eq_zero (by have := congrArg List.length e; rw [flat_len (f := icells) (n := 3) (fun _ => rfl)] at this; simp only [List.length_nil] at this; omega)))
   refine CallN.box 0 rfl (num_spec b s k l.length hk (by omega) _ (hs.mono le_auto)) fun v V2 bs hV2 ⟨r, k2, hv, h0, hr, hf, hb⟩ => ⟨92, picksC s k2, hb, ?_⟩
   subst hv; conv => whnf
   obtain ⟨r, rfl⟩ := Int.eq_ofNat_of_zero_le h0
   have hr : r < l.length := by omega
   obtain ⟨x, hxr⟩ : ∃ x, l[r]? = some x := ⟨_, List.getElem?_eq_getElem hr⟩
   have hmem : x ∈ colsOf kind its kinds := by rw [hend]; exact List.mem_of_getElem? hxr
   refine IdxN.of (by omega) (by omega) ?_; conv => whnf
   refine LoadN.of (has_flat (n := 3) (fun _ => rfl) l off3 (hx3.mono le_auto) r x hxr) 0 rfl rfl ?_; conv => whnf
   repeat' ((first | refine br_t rfl ?_ | refine br_f rfl ?_ | refine IdxN.lit rfl rfl ?_ | intro _); conv => whnf)
   refine CallN.box 0 rfl (num_spec b s k2 3 hf (by omega) _ (hs.mono le_auto)) fun v V3 bs hV3 ⟨r2, k3, hv, h02, hr2, hf2, hb2⟩ => ⟨92, picksC s k3, hb2, ?_⟩
   subst hv; conv => whnf
   apply br <;> intro h6 <;> conv => whnf
   ·refine CallN.pure (once_spec its p _ off x.nm _ (h.hasI.mono le_auto) (by omega)) fun v V4 _ hV4 hv => ?_
    subst hv; conv => whnf
    repeat (refine br_t h6 ?_; conv => whnf)
    apply br <;> intro h7 <;> conv => whnf
    ·refine ⟨[0], by simp, [picks b s k3], rfl, k3, hf2, rfl, .inr ⟨x, hmem, noText, rfl, .inl ⟨rfl, by simpa using h7⟩⟩⟩
    ·refine ⟨[0], by simp, [picks b s k3], rfl, k3, hf2, rfl, .inr ⟨x, hmem, x.tb, rfl, .inr rfl⟩⟩
   ·repeat (refine br_f h6 ?_; conv => whnf)
    refine ⟨[0], by simp, [picks b s k3], rfl, k3, hf2, rfl, .inr ⟨x, hmem, x.tb, rfl, .inr rfl⟩⟩
/-- expressions as they are made, of a kind -/
inductive WT (its : List Item) (kinds : List Int) : Int → E → Prop
 | lit {kind : Int} {v : Val} (hk : kind = 1 ∨ kind = 2) (h : KindV kind v) : WT its kinds kind (.lit v)
 | col {kind : Int} {x : Item} {tb : ByteArray} (hk : kind = 1 ∨ kind = 2) (h : x ∈ colsOf kind its kinds) (ht : (tb = noText ∧ countN x.nm its = 1) ∨ tb = x.tb) : WT its kinds kind (.col tb x.nm)
 | neg {a : E} (h : WT its kinds 1 a) : WT its kinds 1 (.un 3 a)
 | not {a : E} (h : WT its kinds 3 a) : WT its kinds 3 (.un 4 a)
 | arith {op : Int} {a b : E} (ho : 5 ≤ op ∧ op ≤ 7) (h : WT its kinds 1 a) (h' : WT its kinds 1 b) : WT its kinds 1 (.bin op a b)
 | cmp {op kind : Int} {a b : E} (ho : 8 ≤ op ∧ op ≤ 13) (hk : kind = 1 ∨ kind = 2) (h : WT its kinds kind a) (h' : WT its kinds kind b) : WT its kinds 3 (.bin op a b)
 | both {op : Int} {a b : E} (ho : op = 14 ∨ op = 15) (h : WT its kinds 3 a) (h' : WT its kinds 3 b) : WT its kinds 3 (.bin op a b)
theorem WT.ok {its : List Item} {kinds : List Int} {kind : Int} {e : E} (h : WT its kinds kind e) : e.ok := by
 induction h with
 | lit hk h => exact h.n
 | col => trivial
 | neg _ ih => exact ih
 | not _ ih => exact ih
 | arith _ _ _ i1 i2 => exact ⟨i1, i2⟩
 | cmp _ _ _ _ i1 i2 => exact ⟨i1, i2⟩
 | both _ _ _ i1 i2 => exact ⟨i1, i2⟩
/-- the lists of what lies below, as they are made -/
def RepL (V : View) : E → XC → Prop
 | .lit _, x => x.len = 0
 | .col _ _, x => x.len = 0
 | .un _ a, x => x.len = 1 ∧ ∃ p off xa, x.base = some ⟨p, off, none⟩ ∧ V.has p off (xcells xa) ∧ RepL V a xa
 | .bin _ a b, x => x.len = 2 ∧ ∃ p off xa xb, x.base = some ⟨p, off, none⟩ ∧ V.has p off (xcells xa ++ xcells xb) ∧ RepL V a xa ∧ RepL V b xb
theorem RepL.mono {V V' : View} (hV : V.le V') : ∀ {e : E} {x : XC}, RepL V e x → RepL V' e x
 | .lit _, x, h => h
 | .col _ _, x, h => h
 | .un _ a, x, ⟨h3, p, off, xa, h4, h5, h6⟩ => ⟨h3, p, off, xa, h4, h5.mono hV, h6.mono hV⟩
 | .bin _ a b, x, ⟨h3, p, off, xa, xb, h4, h5, h6, h7⟩ => ⟨h3, p, off, xa, xb, h4, h5.mono hV, h6.mono hV, h7.mono hV⟩
structure RepX (V : View) (e : E) (x : XC) : Prop where
 re : RepE V e x
 rl : RepL V e x
theorem RepX.mono {V V' : View} {e : E} {x : XC} (h : RepX V e x) (hV : V.le V') : RepX V' e x := ⟨h.re.mono hV, h.rl.mono hV⟩
/-- how high a tree it is -/
def E.high : E → Nat
 | .lit _ => 1
 | .col _ _ => 1
 | .un _ a => a.high + 1
 | .bin _ a b => max a.high b.high + 1
set_option maxHeartbeats 4000000 in
theorem expr_spec (b : Nat) (s : Src) (its : List Item) (kinds : List Int) (p off c q off2 d : Nat) : ∀ (n : Nat) (kind deep k : Int) (V : View), FarOk s k → s.ok V → ColsAt V its kinds p off q off2 → deep = 5 - (n : Int) → n ≤ 5 → (kind = 1 ∨ kind = 2 ∨ (kind = 3 ∧ 1 ≤ n)) →
  Does Tryz.prog 42 [.pointer (some ⟨b, 0, none⟩), .slice (some ⟨p, off, none⟩) its.length c, .slice (some ⟨q, off2, none⟩) its.length d, .int .i64 kind, .int .i64 deep] V [picks b s k]
   (fun v V' bs => ∃ e x k', v = xagg x ∧ RepX V' e x ∧ WT its kinds kind e ∧ FarOk s k' ∧ bs = [picks b s k'] ∧ e.high ≤ n + 1) := by
 intro n
 induction n using Nat.strongRecOn with
 | ind n ih =>
  intro kind deep k V hk hs h hd hn hkind
  refine does_of_zfun [] mixed (args := [.own 0 0, .v _, .v _, .v _, .v _]) (ms := [(0, picks b s k)]) Tryz.func42 (by kernel_rfl) rfl ?_; conv => whnf
  repeat' ((first | refine br_t rfl ?_ | refine br_f rfl ?_ | refine IdxN.lit rfl rfl ?_ | intro _); conv => whnf)
  refine CallN.box 0 rfl (num_spec b s k 8 hk (by omega) _ (hs.mono le_auto)) fun v V1 bs hV1 ⟨r, k1, hv, h0, hr, hf, hb⟩ => ⟨92, picksC s k1, hb, ?_⟩
  subst hv; conv => whnf
  apply br <;> intro h3 <;> conv => whnf
  ·have h3 : kind = 3 := by simpa using h3
   subst h3
   apply br <;> intro h4 <;> conv => whnf
   ·repeat (refine br_t h4 ?_; conv => whnf)
    have hwd : IntKind.i64.wrap (deep + 1) = 5 - ((n - 1 : Nat) : Int) := by rw [wrapE]; omega
    refine CallN.box 0 rfl (num_spec b s k1 2 hf (by omega) _ (hs.mono le_auto)) fun v V2 bs hV2 ⟨r2, k2, hv, h02, hr2, hf2, hb2⟩ => ⟨92, picksC s k2, hb2, ?_⟩
    subst hv; conv => whnf
    refine CallN.box 0 rfl (num_spec b s k2 6 hf2 (by omega) _ (hs.mono le_auto)) fun v V3 bs hV3 ⟨r3, k3, hv, h03, hr3, hf3, hb3⟩ => ⟨92, picksC s k3, hb3, ?_⟩
    subst hv; conv => whnf
    refine CallN.box 0 rfl (ih (n - 1) (by omega) (IntKind.i64.wrap (1 + r2)) (IntKind.i64.wrap (deep + 1)) k3 _ hf3 (hs.mono le_auto) (h.mono le_auto) hwd (by omega) (by first | (simp only [wrapE]; omega) | omega)) fun v V4 bs hV4 ⟨e4, x4, k4, hv, hr4, hw4, hf4, hb4, hh4⟩ => ⟨92, picksC s k4, hb4, ?_⟩
    subst hv; conv => whnf
    refine CallN.box 0 rfl (ih (n - 1) (by omega) (IntKind.i64.wrap (1 + r2)) (IntKind.i64.wrap (deep + 1)) k4 _ hf4 (hs.mono le_auto) (h.mono le_auto) hwd (by omega) (by first | (simp only [wrapE]; omega) | omega)) fun v V5 bs hV5 ⟨e5, x5, k5, hv, hr5, hw5, hf5, hb5, hh5⟩ => ⟨92, picksC s k5, hb5, ?_⟩
    subst hv; conv => whnf
    refine CallN.pure (mktwo_spec _ x4 x5 _) fun v V9 _ hV9 ⟨pp, hv, hh⟩ => ?_
    subst hv; conv => whnf
    exact ⟨[0], by simp, [picks b s k5], rfl, .bin (IntKind.i64.wrap (8 + r3)) e4 e5, _, k5, rfl, ⟨⟨rfl, by rw [wrapE]; omega, rfl, pp, 0, x4, x5, rfl, hh, (hr4.mono le_auto).re, (hr5.mono le_auto).re⟩, ⟨rfl, pp, 0, x4, x5, rfl, hh, (hr4.mono le_auto).rl, (hr5.mono le_auto).rl⟩⟩, .cmp (by rw [wrapE]; omega) (by simp only [wrapE]; omega) hw4 hw5, hf5, rfl, by simp only [E.high]; omega⟩
   ·have h4 : ¬ 3 < deep := by simpa using h4
    apply br <;> intro h5 <;> conv => whnf
    ·repeat (refine br_t h5 ?_; conv => whnf)
     have hwd : IntKind.i64.wrap (deep + 1) = 5 - ((n - 1 : Nat) : Int) := by rw [wrapE]; omega
     refine CallN.box 0 rfl (num_spec b s k1 2 hf (by omega) _ (hs.mono le_auto)) fun v V2 bs hV2 ⟨r2, k2, hv, h02, hr2, hf2, hb2⟩ => ⟨92, picksC s k2, hb2, ?_⟩
     subst hv; conv => whnf
     refine CallN.box 0 rfl (num_spec b s k2 6 hf2 (by omega) _ (hs.mono le_auto)) fun v V3 bs hV3 ⟨r3, k3, hv, h03, hr3, hf3, hb3⟩ => ⟨92, picksC s k3, hb3, ?_⟩
     subst hv; conv => whnf
     refine CallN.box 0 rfl (ih (n - 1) (by omega) (IntKind.i64.wrap (1 + r2)) (IntKind.i64.wrap (deep + 1)) k3 _ hf3 (hs.mono le_auto) (h.mono le_auto) hwd (by omega) (by first | (simp only [wrapE]; omega) | omega)) fun v V4 bs hV4 ⟨e4, x4, k4, hv, hr4, hw4, hf4, hb4, hh4⟩ => ⟨92, picksC s k4, hb4, ?_⟩
     subst hv; conv => whnf
     refine CallN.box 0 rfl (ih (n - 1) (by omega) (IntKind.i64.wrap (1 + r2)) (IntKind.i64.wrap (deep + 1)) k4 _ hf4 (hs.mono le_auto) (h.mono le_auto) hwd (by omega) (by first | (simp only [wrapE]; omega) | omega)) fun v V5 bs hV5 ⟨e5, x5, k5, hv, hr5, hw5, hf5, hb5, hh5⟩ => ⟨92, picksC s k5, hb5, ?_⟩
     subst hv; conv => whnf
     refine CallN.pure (mktwo_spec _ x4 x5 _) fun v V9 _ hV9 ⟨pp, hv, hh⟩ => ?_
     subst hv; conv => whnf
     exact ⟨[0], by simp, [picks b s k5], rfl, .bin (IntKind.i64.wrap (8 + r3)) e4 e5, _, k5, rfl, ⟨⟨rfl, by rw [wrapE]; omega, rfl, pp, 0, x4, x5, rfl, hh, (hr4.mono le_auto).re, (hr5.mono le_auto).re⟩, ⟨rfl, pp, 0, x4, x5, rfl, hh, (hr4.mono le_auto).rl, (hr5.mono le_auto).rl⟩⟩, .cmp (by rw [wrapE]; omega) (by simp only [wrapE]; omega) hw4 hw5, hf5, rfl, by simp only [E.high]; omega⟩
    ·have hwd : IntKind.i64.wrap (deep + 1) = 5 - ((n - 1 : Nat) : Int) := by rw [wrapE]; omega
     apply br <;> intro h6 <;> conv => whnf
     ·refine CallN.box 0 rfl (ih (n - 1) (by omega) 3 (IntKind.i64.wrap (deep + 1)) k1 _ hf (hs.mono le_auto) (h.mono le_auto) hwd (by omega) (by first | (simp only [wrapE]; omega) | omega)) fun v V2 bs hV2 ⟨e2, x2, k2, hv, hr2, hw2, hf2, hb2, hh2⟩ => ⟨92, picksC s k2, hb2, ?_⟩
      subst hv; conv => whnf
      intro pp V3 hV3 hh
      conv => whnf
      exact ⟨[0], by simp, [picks b s k2], rfl, .un 4 e2, ⟨4, v0, noText, noText, some ⟨pp, 0, none⟩, 1, 1⟩, k2, rfl, ⟨⟨rfl, .inr rfl, rfl, pp, 0, x2, rfl, hh, (hr2.mono le_auto).re⟩, ⟨rfl, pp, 0, x2, rfl, hh, (hr2.mono le_auto).rl⟩⟩, .not hw2, hf2, rfl, by simp only [E.high]; omega⟩
     ·refine CallN.box 0 rfl (num_spec b s k1 2 hf (by omega) _ (hs.mono le_auto)) fun v V2 bs hV2 ⟨r2, k2, hv, h02, hr2, hf2, hb2⟩ => ⟨92, picksC s k2, hb2, ?_⟩
      subst hv; conv => whnf
      refine CallN.box 0 rfl (ih (n - 1) (by omega) 3 (IntKind.i64.wrap (deep + 1)) k2 _ hf2 (hs.mono le_auto) (h.mono le_auto) hwd (by omega) (by first | (simp only [wrapE]; omega) | omega)) fun v V3 bs hV3 ⟨e3, x3, k3, hv, hr3, hw3, hf3, hb3, hh3⟩ => ⟨92, picksC s k3, hb3, ?_⟩
      subst hv; conv => whnf
      refine CallN.box 0 rfl (ih (n - 1) (by omega) 3 (IntKind.i64.wrap (deep + 1)) k3 _ hf3 (hs.mono le_auto) (h.mono le_auto) hwd (by omega) (by first | (simp only [wrapE]; omega) | omega)) fun v V4 bs hV4 ⟨e4, x4, k4, hv, hr4, hw4, hf4, hb4, hh4⟩ => ⟨92, picksC s k4, hb4, ?_⟩
      subst hv; conv => whnf
      refine CallN.pure (mktwo_spec _ x3 x4 _) fun v V9 _ hV9 ⟨pp, hv, hh⟩ => ?_
      subst hv; conv => whnf
      exact ⟨[0], by simp, [picks b s k4], rfl, .bin (IntKind.i64.wrap (14 + r2)) e3 e4, _, k4, rfl, ⟨⟨rfl, by rw [wrapE]; omega, rfl, pp, 0, x3, x4, rfl, hh, (hr3.mono le_auto).re, (hr4.mono le_auto).re⟩, ⟨rfl, pp, 0, x3, x4, rfl, hh, (hr3.mono le_auto).rl, (hr4.mono le_auto).rl⟩⟩, .both (by simp only [wrapE]; omega) hw3 hw4, hf4, rfl, by simp only [E.high]; omega⟩
  ·have h3 : kind ≠ 3 := by simpa using h3
   have hk12 : kind = 1 ∨ kind = 2 := by omega
   refine CallN.box 0 rfl (col_spec b s k1 kind hf its kinds p off c q off2 d _ _ (hs.mono le_auto) (h.mono le_auto) rfl) fun v V2 bs hV2 ⟨k2, hf2, hb2, hv⟩ => ⟨92, picksC s k2, hb2, ?_⟩
   rcases hv with ⟨hnone, hv⟩ | ⟨x, hx, tb, hv, htb⟩
   ·subst hv
    repeat' ((first | refine br_t rfl ?_ | refine br_f rfl ?_ | refine IdxN.lit rfl rfl ?_ | intro _); conv => whnf)
    apply br <;> intro h7 <;> conv => whnf
    ·repeat (refine br_t h7 ?_; conv => whnf)
     refine CallN.box 0 rfl (value_spec b s k2 kind hf2 hk12 _ (hs.mono le_auto)) fun v V3 bs hV3 ⟨y, k3, hv, hkv, hf3, hb3⟩ => ⟨92, picksC s k3, hb3, ?_⟩
     subst hv; conv => whnf
     refine CallN.pure (lit_spec y _) fun v V4 _ hV4 hv => ?_
     subst hv; conv => whnf
     exact ⟨[0], by simp, [picks b s k3], rfl, .lit y, litX y, k3, rfl, ⟨⟨rfl, rfl⟩, rfl⟩, .lit hk12 hkv, hf3, rfl, by simp only [E.high]; omega⟩
    repeat (refine br_f h7 ?_; conv => whnf)
    apply br <;> intro h8 <;> conv => whnf
    ·repeat (refine br_t h8 ?_; conv => whnf)
     refine CallN.box 0 rfl (value_spec b s k2 kind hf2 hk12 _ (hs.mono le_auto)) fun v V3 bs hV3 ⟨y, k3, hv, hkv, hf3, hb3⟩ => ⟨92, picksC s k3, hb3, ?_⟩
     subst hv; conv => whnf
     refine CallN.pure (lit_spec y _) fun v V4 _ hV4 hv => ?_
     subst hv; conv => whnf
     exact ⟨[0], by simp, [picks b s k3], rfl, .lit y, litX y, k3, rfl, ⟨⟨rfl, rfl⟩, rfl⟩, .lit hk12 hkv, hf3, rfl, by simp only [E.high]; omega⟩
    repeat (refine br_f h8 ?_; conv => whnf)
    apply br <;> intro h9 <;> conv => whnf
    ·repeat (refine br_t h9 ?_; conv => whnf)
     refine CallN.box 0 rfl (value_spec b s k2 kind hf2 hk12 _ (hs.mono le_auto)) fun v V3 bs hV3 ⟨y, k3, hv, hkv, hf3, hb3⟩ => ⟨92, picksC s k3, hb3, ?_⟩
     subst hv; conv => whnf
     refine CallN.pure (lit_spec y _) fun v V4 _ hV4 hv => ?_
     subst hv; conv => whnf
     exact ⟨[0], by simp, [picks b s k3], rfl, .lit y, litX y, k3, rfl, ⟨⟨rfl, rfl⟩, rfl⟩, .lit hk12 hkv, hf3, rfl, by simp only [E.high]; omega⟩
    repeat (refine br_f h9 ?_; conv => whnf)
    have h7' : kind ≠ 2 := by simpa using h7
    have h8' : ¬ 3 < deep := by simpa using h8
    have hk1 : kind = 1 := by omega
    subst hk1
    have hwd : IntKind.i64.wrap (deep + 1) = 5 - ((n - 1 : Nat) : Int) := by rw [wrapE]; omega
    apply br <;> intro h10 <;> conv => whnf
    ·refine CallN.box 0 rfl (ih (n - 1) (by omega) 1 (IntKind.i64.wrap (deep + 1)) k2 _ hf2 (hs.mono le_auto) (h.mono le_auto) hwd (by omega) (by first | (simp only [wrapE]; omega) | omega)) fun v V3 bs hV3 ⟨e3, x3, k3, hv, hr3, hw3, hf3, hb3, hh3⟩ => ⟨92, picksC s k3, hb3, ?_⟩
     subst hv; conv => whnf
     intro pp V4 hV4 hh
     conv => whnf
     exact ⟨[0], by simp, [picks b s k3], rfl, .un 3 e3, ⟨3, v0, noText, noText, some ⟨pp, 0, none⟩, 1, 1⟩, k3, rfl, ⟨⟨rfl, .inl rfl, rfl, pp, 0, x3, rfl, hh, (hr3.mono le_auto).re⟩, ⟨rfl, pp, 0, x3, rfl, hh, (hr3.mono le_auto).rl⟩⟩, .neg hw3, hf3, rfl, by simp only [E.high]; omega⟩
    ·refine CallN.box 0 rfl (num_spec b s k2 3 hf2 (by omega) _ (hs.mono le_auto)) fun v V3 bs hV3 ⟨r3, k3, hv, h03, hr3, hf3, hb3⟩ => ⟨92, picksC s k3, hb3, ?_⟩
     subst hv; conv => whnf
     refine CallN.box 0 rfl (ih (n - 1) (by omega) 1 (IntKind.i64.wrap (deep + 1)) k3 _ hf3 (hs.mono le_auto) (h.mono le_auto) hwd (by omega) (by first | (simp only [wrapE]; omega) | omega)) fun v V4 bs hV4 ⟨e4, x4, k4, hv, hr4, hw4, hf4, hb4, hh4⟩ => ⟨92, picksC s k4, hb4, ?_⟩
     subst hv; conv => whnf
     refine CallN.box 0 rfl (ih (n - 1) (by omega) 1 (IntKind.i64.wrap (deep + 1)) k4 _ hf4 (hs.mono le_auto) (h.mono le_auto) hwd (by omega) (by first | (simp only [wrapE]; omega) | omega)) fun v V5 bs hV5 ⟨e5, x5, k5, hv, hr5, hw5, hf5, hb5, hh5⟩ => ⟨92, picksC s k5, hb5, ?_⟩
     subst hv; conv => whnf
     refine CallN.pure (mktwo_spec _ x4 x5 _) fun v V9 _ hV9 ⟨pp, hv, hh⟩ => ?_
     subst hv; conv => whnf
     exact ⟨[0], by simp, [picks b s k5], rfl, .bin (IntKind.i64.wrap (5 + r3)) e4 e5, _, k5, rfl, ⟨⟨rfl, by rw [wrapE]; omega, rfl, pp, 0, x4, x5, rfl, hh, (hr4.mono le_auto).re, (hr5.mono le_auto).re⟩, ⟨rfl, pp, 0, x4, x5, rfl, hh, (hr4.mono le_auto).rl, (hr5.mono le_auto).rl⟩⟩, .arith (by simp only [wrapE]; omega) hw4 hw5, hf5, rfl, by simp only [E.high]; omega⟩
   ·subst hv
    repeat' ((first | refine br_t rfl ?_ | refine br_f rfl ?_ | refine IdxN.lit rfl rfl ?_ | intro _); conv => whnf)
    apply br <;> intro h6 <;> conv => whnf
    ·exact ⟨[0], by simp, [picks b s k2], rfl, .col tb x.nm, colN tb x.nm, k2, rfl, ⟨⟨rfl, rfl, rfl⟩, rfl⟩, .col hk12 hx htb, hf2, rfl, by simp only [E.high]; omega⟩
    ·apply br <;> intro h7 <;> conv => whnf
     ·repeat (refine br_t h7 ?_; conv => whnf)
      refine CallN.box 0 rfl (value_spec b s k2 kind hf2 hk12 _ (hs.mono le_auto)) fun v V3 bs hV3 ⟨y, k3, hv, hkv, hf3, hb3⟩ => ⟨92, picksC s k3, hb3, ?_⟩
      subst hv; conv => whnf
      refine CallN.pure (lit_spec y _) fun v V4 _ hV4 hv => ?_
      subst hv; conv => whnf
      exact ⟨[0], by simp, [picks b s k3], rfl, .lit y, litX y, k3, rfl, ⟨⟨rfl, rfl⟩, rfl⟩, .lit hk12 hkv, hf3, rfl, by simp only [E.high]; omega⟩
     repeat (refine br_f h7 ?_; conv => whnf)
     apply br <;> intro h8 <;> conv => whnf
     ·repeat (refine br_t h8 ?_; conv => whnf)
      refine CallN.box 0 rfl (value_spec b s k2 kind hf2 hk12 _ (hs.mono le_auto)) fun v V3 bs hV3 ⟨y, k3, hv, hkv, hf3, hb3⟩ => ⟨92, picksC s k3, hb3, ?_⟩
      subst hv; conv => whnf
      refine CallN.pure (lit_spec y _) fun v V4 _ hV4 hv => ?_
      subst hv; conv => whnf
      exact ⟨[0], by simp, [picks b s k3], rfl, .lit y, litX y, k3, rfl, ⟨⟨rfl, rfl⟩, rfl⟩, .lit hk12 hkv, hf3, rfl, by simp only [E.high]; omega⟩
     repeat (refine br_f h8 ?_; conv => whnf)
     apply br <;> intro h9 <;> conv => whnf
     ·repeat (refine br_t h9 ?_; conv => whnf)
      refine CallN.box 0 rfl (value_spec b s k2 kind hf2 hk12 _ (hs.mono le_auto)) fun v V3 bs hV3 ⟨y, k3, hv, hkv, hf3, hb3⟩ => ⟨92, picksC s k3, hb3, ?_⟩
      subst hv; conv => whnf
      refine CallN.pure (lit_spec y _) fun v V4 _ hV4 hv => ?_
      subst hv; conv => whnf
      exact ⟨[0], by simp, [picks b s k3], rfl, .lit y, litX y, k3, rfl, ⟨⟨rfl, rfl⟩, rfl⟩, .lit hk12 hkv, hf3, rfl, by simp only [E.high]; omega⟩
     repeat (refine br_f h9 ?_; conv => whnf)
     have h7' : kind ≠ 2 := by simpa using h7
     have h8' : ¬ 3 < deep := by simpa using h8
     have hk1 : kind = 1 := by omega
     subst hk1
     have hwd : IntKind.i64.wrap (deep + 1) = 5 - ((n - 1 : Nat) : Int) := by rw [wrapE]; omega
     apply br <;> intro h10 <;> conv => whnf
     ·refine CallN.box 0 rfl (ih (n - 1) (by omega) 1 (IntKind.i64.wrap (deep + 1)) k2 _ hf2 (hs.mono le_auto) (h.mono le_auto) hwd (by omega) (by first | (simp only [wrapE]; omega) | omega)) fun v V3 bs hV3 ⟨e3, x3, k3, hv, hr3, hw3, hf3, hb3, hh3⟩ => ⟨92, picksC s k3, hb3, ?_⟩
      subst hv; conv => whnf
      intro pp V4 hV4 hh
      conv => whnf
      exact ⟨[0], by simp, [picks b s k3], rfl, .un 3 e3, ⟨3, v0, noText, noText, some ⟨pp, 0, none⟩, 1, 1⟩, k3, rfl, ⟨⟨rfl, .inl rfl, rfl, pp, 0, x3, rfl, hh, (hr3.mono le_auto).re⟩, ⟨rfl, pp, 0, x3, rfl, hh, (hr3.mono le_auto).rl⟩⟩, .neg hw3, hf3, rfl, by simp only [E.high]; omega⟩
     ·refine CallN.box 0 rfl (num_spec b s k2 3 hf2 (by omega) _ (hs.mono le_auto)) fun v V3 bs hV3 ⟨r3, k3, hv, h03, hr3, hf3, hb3⟩ => ⟨92, picksC s k3, hb3, ?_⟩
      subst hv; conv => whnf
      refine CallN.box 0 rfl (ih (n - 1) (by omega) 1 (IntKind.i64.wrap (deep + 1)) k3 _ hf3 (hs.mono le_auto) (h.mono le_auto) hwd (by omega) (by first | (simp only [wrapE]; omega) | omega)) fun v V4 bs hV4 ⟨e4, x4, k4, hv, hr4, hw4, hf4, hb4, hh4⟩ => ⟨92, picksC s k4, hb4, ?_⟩
      subst hv; conv => whnf
      refine CallN.box 0 rfl (ih (n - 1) (by omega) 1 (IntKind.i64.wrap (deep + 1)) k4 _ hf4 (hs.mono le_auto) (h.mono le_auto) hwd (by omega) (by first | (simp only [wrapE]; omega) | omega)) fun v V5 bs hV5 ⟨e5, x5, k5, hv, hr5, hw5, hf5, hb5, hh5⟩ => ⟨92, picksC s k5, hb5, ?_⟩
      subst hv; conv => whnf
      refine CallN.pure (mktwo_spec _ x4 x5 _) fun v V9 _ hV9 ⟨pp, hv, hh⟩ => ?_
      subst hv; conv => whnf
      exact ⟨[0], by simp, [picks b s k5], rfl, .bin (IntKind.i64.wrap (5 + r3)) e4 e5, _, k5, rfl, ⟨⟨rfl, by rw [wrapE]; omega, rfl, pp, 0, x4, x5, rfl, hh, (hr4.mono le_auto).re, (hr5.mono le_auto).re⟩, ⟨rfl, pp, 0, x4, x5, rfl, hh, (hr4.mono le_auto).rl, (hr5.mono le_auto).rl⟩⟩, .arith (by simp only [wrapE]; omega) hw4 hw5, hf5, rfl, by simp only [E.high]; omega⟩
end Go.Proofs.YtenpginanhnkbaaGreat
end

section
set_option linter.unusedSimpArgs false
set_option linter.unusedVariables false
namespace Go.Proofs.YtenpginanhnkbaaGreat
open Go.X
set_option linter.unusedSimpArgs false
/-- what an expression of a kind may come to -/
def ValOf (kind : Int) (r : Val × Int) : Prop := (r.2 = 0 → ((kind = 1 ∨ kind = 2) ∧ KindV kind r.1) ∨ (kind = 3 ∧ ∃ b, r.1 = truthV b)) ∧ (r.2 ≠ 0 → r.1 = v0)
theorem cmpI_self (a : Int) : cmpI a a = 0 := by simp [cmpI]
theorem orI_zero (a : Int) : orI a 0 = a := by unfold orI; split <;> omega
theorem zero_orI (a : Int) : orI 0 a = a := by simp [orI]
theorem cmpS_empty {a b : ByteArray} (ha : a.toList = []) (hb : b.toList = []) : cmpS a b = 0 := by simp [cmpS, ha, hb, Op.bytesLess]
theorem cmpV_eq {k : Int} (hk : k = 1 ∨ k = 2) {a b : Val} (ha : KindV k a) (hb : KindV k b) : cmpV a b = cmpR a b := by
 have e1 := ha.k
 have e2 := hb.k
 unfold cmpV cmpR
 rw [e1, e2, cmpI_self, if_neg (Int.lt_irrefl _), if_neg (Int.lt_irrefl _), zero_orI]
 rcases hk with rfl | rfl
 ·rw [if_pos rfl, cmpS_empty (ha.empty rfl) (hb.empty rfl), orI_zero]
 ·rw [if_neg (by decide), ha.zero rfl, hb.zero rfl, cmpI_self, zero_orI]
def okT (a _ : Val) : Prop := a.t.size ≤ 100
theorem kind_int {x : Int} (h : InR x) : KindV 1 ⟨1, x, noText⟩ := ⟨rfl, h, by show (0 : Nat) ≤ 100; decide, fun _ => by simp [noText, ByteArray.toList_eq], fun h => by cases h⟩
theorem valOf_whole (x : Int) : ValOf 1 (wholeV (fits x)) := by
 unfold ValOf wholeV
 split
 ·exact ⟨fun _ => .inl ⟨.inl rfl, kind_int (fits_inR x)⟩, fun h => absurd rfl h⟩
 ·rename_i h
  exact ⟨fun h2 => absurd h2 h, fun _ => rfl⟩
theorem valOf_truth (b : Bool) : ValOf 3 (truthV b, 0) := ⟨fun _ => .inr ⟨rfl, b, rfl⟩, fun h => absurd rfl h⟩
theorem valOf_err {kind e : Int} (h : e ≠ 0) : ValOf kind (v0, e) := ⟨fun h2 => absurd h2 h, fun _ => rfl⟩
theorem ValOf.kind {kind : Int} {r : Val × Int} (h : ValOf kind r) (h0 : r.2 = 0) (hk : kind = 1 ∨ kind = 2) : KindV kind r.1 := by
 rcases h.1 h0 with h | h
 ·exact h.2
 ·omega
theorem ValOf.bool {r : Val × Int} (h : ValOf 3 r) (h0 : r.2 = 0) : ∃ b, r.1 = truthV b := by
 rcases h.1 h0 with h | h
 ·omega
 ·exact h.2
theorem valOf_cmp (c op : Int) (hop : 8 ≤ op ∧ op ≤ 13) (a b : Val) : ValOf 3 (binY c op a b) := by
 have : op = 8 ∨ op = 9 ∨ op = 10 ∨ op = 11 ∨ op = 12 ∨ op = 13 := by omega
 rcases this with rfl | rfl | rfl | rfl | rfl | rfl <;> exact valOf_truth _
theorem valOf_arith (c op : Int) (hop : 5 ≤ op ∧ op ≤ 7) (a b : Val) : ValOf 1 (binY c op a b) := by
 have : op = 5 ∨ op = 6 ∨ op = 7 := by omega
 rcases this with rfl | rfl | rfl <;> exact valOf_whole _
theorem binY_arith (c d op : Int) (hop : 5 ≤ op ∧ op ≤ 7) (a b : Val) : binY c op a b = binY d op a b := by
 have : op = 5 ∨ op = 6 ∨ op = 7 := by omega
 rcases this with rfl | rfl | rfl <;> rfl
theorem pair_err {r : Val × Int} (h : r.1 = v0) : r = (v0, r.2) := by rw [← h]
structure Agree (cX cR : ByteArray → ByteArray → Val × Int) (kind : Int) (e : E) : Prop where
 eq : evalX cX e = refX cmpR cR e
 val : ValOf kind (evalX cX e)
 fine : e.fine okT cmpR cR
set_option maxHeartbeats 4000000 in
theorem agree {its : List Item} {kinds : List Int} {cX cR : ByteArray → ByteArray → Val × Int} (hcol : ∀ kind tb nm, WT its kinds kind (.col tb nm) → cX tb nm = cR tb nm ∧ ValOf kind (cX tb nm)) {kind : Int} {e : E} (h : WT its kinds kind e) : Agree cX cR kind e := by
 induction h with
 | lit hk h => exact ⟨rfl, ⟨fun _ => .inl ⟨hk, h⟩, fun h => absurd rfl h⟩, trivial⟩
 | col hk h ht => exact ⟨(hcol _ _ _ (.col hk h ht)).1, (hcol _ _ _ (.col hk h ht)).2, trivial⟩
 | @neg a h ih =>
  refine ⟨?_, ?_, ih.fine⟩
  ·rw [evalX, refX, ih.eq]
  ·rw [evalX]
   split
   ·exact valOf_whole _
   ·rename_i h0; exact valOf_err h0
 | @not a h ih =>
  refine ⟨?_, ?_, ih.fine⟩
  ·rw [evalX, refX, ih.eq]
  ·rw [evalX]
   split
   ·exact valOf_truth _
   ·rename_i h0; exact valOf_err h0
 | @arith op a b ho h h' i1 i2 =>
  have hno : ¬ (op = 14 ∨ op = 15) := by omega
  refine ⟨?_, ?_, i1.fine, i2.fine, fun h => by omega⟩
  ·rw [evalX, refX, ← i1.eq, ← i2.eq, if_neg hno]
   by_cases h1 : (evalX cX a).2 = 0
   ·rw [if_pos h1, if_neg (show ¬ (evalX cX a).2 ≠ 0 from fun h => h h1), if_neg (show ¬ (op = 14 ∧ (evalX cX a).1.n = 0) from by omega), if_neg (show ¬ (op = 15 ∧ (evalX cX a).1.n = 1) from by omega)]
    by_cases h2 : (evalX cX b).2 = 0
    ·rw [if_pos h2, if_neg (show ¬ (evalX cX b).2 ≠ 0 from fun h => h h2), twoR, if_neg (show ¬ 14 ≤ op from by omega), binX_eq]
     exact binY_arith _ _ _ ho _ _
    ·rw [if_neg h2, if_pos h2]
   ·rw [if_neg h1, if_pos h1]
  ·rw [evalX, if_neg hno]
   repeat' split
   ·exact valOf_arith _ _ ho _ _
   ·rename_i h0; exact valOf_err h0
   ·rename_i h0; exact valOf_err h0
 | @cmp op kind a b ho hk h h' i1 i2 =>
  have hno : ¬ (op = 14 ∨ op = 15) := by omega
  refine ⟨?_, ?_, i1.fine, i2.fine, fun _ => ?_⟩
  ·rw [evalX, refX, ← i1.eq, ← i2.eq, if_neg hno]
   by_cases h1 : (evalX cX a).2 = 0
   ·rw [if_pos h1, if_neg (show ¬ (evalX cX a).2 ≠ 0 from fun h => h h1), if_neg (show ¬ (op = 14 ∧ (evalX cX a).1.n = 0) from by omega), if_neg (show ¬ (op = 15 ∧ (evalX cX a).1.n = 1) from by omega)]
    by_cases h2 : (evalX cX b).2 = 0
    ·rw [if_pos h2, if_neg (show ¬ (evalX cX b).2 ≠ 0 from fun h => h h2), twoR, if_neg (show ¬ 14 ≤ op from by omega), binX_eq, cmpV_eq hk (i1.val.kind h1 hk) (i2.val.kind h2 hk)]
    ·rw [if_neg h2, if_pos h2]
   ·rw [if_neg h1, if_pos h1]
  ·rw [evalX, if_neg hno]
   repeat' split
   ·exact valOf_cmp _ _ ho _ _
   ·rename_i h0; exact valOf_err h0
   ·rename_i h0; exact valOf_err h0
  ·show (refX cmpR cR a).1.t.size ≤ 100
   rw [← i1.eq]
   by_cases h1 : (evalX cX a).2 = 0
   ·exact (i1.val.kind h1 hk).t
   ·rw [i1.val.2 h1]; decide
 | @both op a b ho h h' i1 i2 =>
  refine ⟨?_, ?_, i1.fine, i2.fine, fun h => by omega⟩
  ·rw [evalX, refX, ← i1.eq, ← i2.eq, if_pos ho]
   by_cases h1 : (evalX cX a).2 = 0
   ·obtain ⟨x, hx⟩ := i1.val.bool h1
    have e2 : (if (evalX cX b).2 ≠ 0 then (v0, (evalX cX b).2) else twoR cmpR op (evalX cX a).1 (evalX cX b).1) = evalX cX b := by
     by_cases h2 : (evalX cX b).2 = 0
     ·obtain ⟨y, hy⟩ := i2.val.bool h2
      rw [if_neg (show ¬ (evalX cX b).2 ≠ 0 from fun h => h h2), twoR, if_pos (show 14 ≤ op from by omega), hy]
      rw [show truthV ((truthV y).n == 1) = truthV y from by cases y <;> rfl, ← hy, ← h2]
     ·rw [if_pos h2]; exact (pair_err (i2.val.2 h2)).symm
    rw [e2]
    rw [if_neg (by simp [h1] : ¬ (evalX cX a).2 ≠ 0)]
    have e1 : evalX cX a = (truthV x, 0) := by rw [← hx, ← h1]
    rw [e1]
    rcases ho with rfl | rfl <;> cases x <;> simp [truthV]
   ·rw [if_pos (.inl h1), if_pos h1]; exact pair_err (i1.val.2 h1)
  ·rw [evalX, if_pos ho]
   split
   ·exact i1.val
   ·exact i2.val
end Go.Proofs.YtenpginanhnkbaaGreat
end

section
set_option linter.unusedSimpArgs false
set_option linter.unusedVariables false
namespace Go.Proofs.YtenpginanhnkbaaGreat
open Go.X
set_option maxRecDepth 100000
theorem beqL_comm (a b : List UInt8) : (a == b) = (b == a) := by rw [Bool.eq_iff_iff, beq_iff_eq, beq_iff_eq]; exact eq_comm
theorem hit_same (tb nm : ByteArray) (x : Item) : hitA tb nm x = hitI tb nm x := by
 unfold hitA hitI
 rw [beqL_comm tb.toList x.tb.toList]
/-- just one column is meant, the i-th -/
structure OneHit (its : List Item) (tb nm : ByteArray) (i : Nat) : Prop where
 hit : ∃ x, its[i]? = some x ∧ hitI tb nm x = true
 only : ∀ (j : Nat) (y : Item), its[j]? = some y → hitI tb nm y = true → j = i
theorem OneHit.cons {x : Item} {its : List Item} {tb nm : ByteArray} {i : Nat} (h : OneHit (x :: its) tb nm (i + 1)) : OneHit its tb nm i ∧ hitI tb nm x = false :=
 ⟨⟨h.hit, fun j y hy hh => Nat.succ.inj (h.only (j + 1) y hy hh)⟩, by
  cases hx : hitI tb nm x with
  | false => rfl
  | true => have := h.only 0 x rfl hx; omega⟩
theorem colAt_one {tb nm : ByteArray} : ∀ {its : List Item} {vals : List Val} {i : Nat} {v : Val}, OneHit its tb nm i → vals[i]? = some v → colAt tb nm its vals = (v, 0)
 | [], _, i, v, h, _ => by obtain ⟨x, hx, _⟩ := h.hit; simp at hx
 | x :: its, [], i, v, h, hv => by simp at hv
 | x :: its, w :: vals, 0, v, h, hv => by
  obtain ⟨y, hy, hh⟩ := h.hit
  simp only [List.getElem?_cons_zero, Option.some.injEq] at hy hv
  subst hy; subst hv
  rw [colAt, if_pos hh]
 | x :: its, w :: vals, i + 1, v, h, hv => by
  obtain ⟨h1, h2⟩ := h.cons
  rw [colAt, h2]
  exact colAt_one h1 (by simpa using hv)
theorem findA_none {tb nm : ByteArray} : ∀ {its : List Item} (n : Nat) (k : Int), (∀ y ∈ its, hitI tb nm y = false) → findA tb nm n k its = some k
 | [], _, _, _ => rfl
 | x :: its, n, k, h => by
  rw [findA, hit_same, h x List.mem_cons_self]
  exact findA_none (n + 1) k fun y hy => h y (List.mem_cons_of_mem _ hy)
theorem findA_one {tb nm : ByteArray} : ∀ {its : List Item} {i : Nat} (n : Nat), OneHit its tb nm i → findA tb nm n (-1) its = some ((n + i : Nat) : Int)
 | [], i, n, h => by obtain ⟨x, hx, _⟩ := h.hit; simp at hx
 | x :: its, 0, n, h => by
  obtain ⟨y, hy, hh⟩ := h.hit
  simp only [List.getElem?_cons_zero, Option.some.injEq] at hy
  subst hy
  rw [findA, hit_same, hh, if_pos rfl, if_neg (by decide)]
  refine findA_none _ _ fun y hy => ?_
  cases hx : hitI tb nm y with
  | false => rfl
  | true =>
   obtain ⟨j, hj⟩ := List.mem_iff_getElem?.1 hy
   have := h.only (j + 1) y hj hx
   omega
 | x :: its, i + 1, n, h => by
  obtain ⟨h1, h2⟩ := h.cons
  rw [findA, hit_same, h2]
  rw [show n + (i + 1) = (n + 1) + i from by omega]
  exact findA_one (n + 1) h1
theorem atA_one {its : List Item} {tb nm : ByteArray} {i : Nat} (h : OneHit its tb nm i) : atA tb nm its = ((i : Int), 0) := by
 unfold atA
 rw [findA_one 0 h]
 simp only [Nat.zero_add]
 rw [if_neg (by omega)]
/-- names of tables and columns, no two alike -/
structure Names (its : List Item) : Prop where
 apart : ∀ (i j : Nat) (x y : Item), its[i]? = some x → its[j]? = some y → x.nm.toList = y.nm.toList → x.tb.toList = y.tb.toList → i = j
 table : ∀ x ∈ its, x.tb.toList ≠ []
theorem countN_zero {nm : ByteArray} : ∀ {its : List Item}, countN nm its = 0 → ∀ y ∈ its, y.nm.toList ≠ nm.toList
 | [], _, y, hy => by simp at hy
 | x :: its, h, y, hy => by
  unfold countN at h
  split at h
  ·omega
  ·rename_i hx
   rcases List.mem_cons.1 hy with rfl | hy
   ·simpa using hx
   ·exact countN_zero h y hy
theorem countN_one {nm : ByteArray} : ∀ {its : List Item}, countN nm its = 1 → ∀ (i j : Nat) (x y : Item), its[i]? = some x → its[j]? = some y → x.nm.toList = nm.toList → y.nm.toList = nm.toList → i = j
 | [], h, i, j, x, y, hx, _, _, _ => by simp at hx
 | z :: its, h, i, j, x, y, hx, hy, h1, h2 => by
  unfold countN at h
  split at h
  ·rename_i hz
   have h0 : countN nm its = 0 := by omega
   cases i with
   | zero => cases j with
    | zero => rfl
    | succ j => exact absurd h2 (countN_zero h0 y (List.mem_of_getElem? (by simpa using hy)))
   | succ i => exact absurd h1 (countN_zero h0 x (List.mem_of_getElem? (by simpa using hx)))
  ·rename_i hz
   have hz : z.nm.toList ≠ nm.toList := by simpa using hz
   cases i with
   | zero =>
    simp only [List.getElem?_cons_zero, Option.some.injEq] at hx
    subst hx; exact absurd h1 hz
   | succ i => cases j with
    | zero =>
     simp only [List.getElem?_cons_zero, Option.some.injEq] at hy
     subst hy; exact absurd h2 hz
    | succ j => rw [countN_one h i j x y (by simpa using hx) (by simpa using hy) h1 h2]
theorem noText_list : noText.toList = [] := by simp [noText, ByteArray.toList_eq]
theorem oneHit_of {its : List Item} (hN : Names its) {i : Nat} {x : Item} {tb : ByteArray} (hx : its[i]? = some x) (ht : (tb = noText ∧ countN x.nm its = 1) ∨ tb = x.tb) : OneHit its tb x.nm i := by
 rcases ht with ⟨rfl, h1⟩ | rfl
 ·refine ⟨⟨x, hx, by simp [hitI]⟩, fun j y hy hh => ?_⟩
  simp only [hitI, Bool.and_eq_true, beq_iff_eq] at hh
  exact countN_one h1 j i y x hy hx hh.1 rfl
 ·refine ⟨⟨x, hx, by simp [hitI]⟩, fun j y hy hh => ?_⟩
  simp only [hitI, Bool.and_eq_true, Bool.or_eq_true, beq_iff_eq, noText_list] at hh
  refine hN.apart j i y x hy hx hh.1 ?_
  rcases hh.2 with h | h
  ·exact absurd h (hN.table x (List.mem_of_getElem? hx))
  ·exact h
/-- the document's column -/
def refCol (its : List Item) (vals : List Val) (tb nm : ByteArray) : Val × Int :=
 if (atA tb nm (its.take vals.length)).2 = 0 then ((vals[(atA tb nm (its.take vals.length)).1.toNat]?).getD v0, 0) else (v0, (atA tb nm (its.take vals.length)).2)
/-- a row's values are of its columns' kinds -/
structure RowOk (kinds : List Int) (vals : List Val) : Prop where
 len : vals.length = kinds.length
 kind : ∀ (i : Nat) (k : Int) (v : Val), kinds[i]? = some k → vals[i]? = some v → KindV k v
theorem col_agree {its : List Item} {kinds : List Int} {vals : List Val} (hN : Names its) (hl : kinds.length = its.length) (hr : RowOk kinds vals) {kind : Int} {tb nm : ByteArray} (h : WT its kinds kind (.col tb nm)) :
  colAt tb nm its vals = refCol its vals tb nm ∧ ValOf kind (colAt tb nm its vals) := by
 cases h with
 | @col _ x _ hk hx ht =>
  obtain ⟨i, h1, h2⟩ := colsOf_mem kind its kinds x hx
  have hi : i < vals.length := by
   have := (List.getElem?_eq_some_iff.1 h2).1
   rw [hr.len]; exact this
  obtain ⟨v, hv⟩ : ∃ v, vals[i]? = some v := ⟨_, List.getElem?_eq_getElem hi⟩
  have one := oneHit_of hN h1 ht
  have htake : its.take vals.length = its := List.take_of_length_le (by rw [hr.len, hl]; exact Nat.le_refl _)
  rw [colAt_one one hv]
  refine ⟨?_, ⟨fun _ => .inl ⟨hk, hr.kind i kind v h2 hv⟩, fun h => absurd rfl h⟩⟩
  unfold refCol
  rw [htake, atA_one one, if_pos rfl]
  simp [hv]
theorem findA_bound {tb nm : ByteArray} : ∀ {its : List Item} {n : Nat} {k j : Int}, findA tb nm n k its = some j → j = k ∨ (n : Int) ≤ j ∧ j < n + its.length
 | [], n, k, j, h => by
  simp only [findA, Option.some.injEq] at h
  exact .inl h.symm
 | x :: its, n, k, j, h => by
  unfold findA at h
  split at h
  ·split at h
   ·cases h
   ·rcases findA_bound h with h1 | h1
    ·right; simp only [List.length_cons]; omega
    ·right; simp only [List.length_cons]; omega
  ·rcases findA_bound h with h1 | h1
   ·exact .inl h1
   ·right; simp only [List.length_cons]; omega
theorem atA_bound {tb nm : ByteArray} {its : List Item} (h : (atA tb nm its).2 = 0) : 0 ≤ (atA tb nm its).1 ∧ (atA tb nm its).1 < its.length := by
 unfold atA at h ⊢
 split at h
 ·cases h
 ·rename_i k hk
  split at h
  ·cases h
  ·rename_i h0
   rw [if_neg h0]
   rcases findA_bound hk with h1 | h1
   ·omega
   ·simp only; omega
theorem rcol_spec (its : List Item) (vals : List Val) (p q c d o1 o2 : Nat) (x : XC) (hop : x.op = 2) (V : View) (h1 : V.has p o1 (its.flatMap icells)) (h2 : V.has q o2 (vals.flatMap vcells)) (hl : its.length ≤ 1000000) (hl2 : vals.length ≤ 1000000) :
  PSpec 25 [.slice (some ⟨p, o1, none⟩) its.length c, .slice (some ⟨q, o2, none⟩) vals.length d, xagg x] V (fun v _ => v = pairX (refCol its vals x.tb x.nm)) := by
 obtain ⟨xop, xv, xtb, xnm, xbase, xlen, xcap⟩ := x
 simp only at hop
 subst hop
 refine does_of_zfun [] mixed (args := [.v _, .v _, .v _]) (ms := []) Tryz.func25 (by kernel_rfl) rfl ?_; conv => whnf
 repeat' ((first | refine br_t rfl ?_ | refine br_f rfl ?_ | refine IdxN.lit rfl rfl ?_ | intro _); conv => whnf)
 refine CallN.pure (at_spec its vals.length p _ o1 ⟨2, xv, xtb, xnm, xbase, xlen, xcap⟩ _ (h1.mono le_auto) hl hl2) fun v V1 _ hV1 hv => ?_
 subst hv; conv => whnf
 have hb := @atA_bound xtb xnm (its.take vals.length)
 have hlt : (its.take vals.length).length ≤ vals.length := by rw [List.length_take]; omega
 unfold refCol
 simp only
 generalize atA xtb xnm (its.take vals.length) = r at hb ⊢
 apply br <;> intro h3 <;> conv => whnf
 ·have h3 : r.2 ≠ 0 := by simpa using h3
  refine ret_pure ?_
  rw [if_neg h3]; rfl
 ·have h3 : r.2 = 0 := by simpa using h3
  have hb := hb h3
  obtain ⟨k, hk⟩ := Int.eq_ofNat_of_zero_le hb.1
  have hk2 : k < vals.length := by omega
  obtain ⟨v, hv⟩ : ∃ v, vals[k]? = some v := ⟨_, List.getElem?_eq_getElem hk2⟩
  refine IdxN.of hb.1 (by omega) ?_; conv => whnf
  refine LoadN.of (has_flat (n := 3) (fun _ => rfl) vals o2 (h2.mono le_auto) k v hv) 0 (by rw [hk]; rfl) rfl ?_; conv => whnf
  refine ret_pure ?_
  rw [if_pos h3, hk, Int.toNat_natCast, hv]
  rfl
def holdsX (r : Val × Int) : Bool × Int := if r.2 = 0 then (r.1.n == 1, 0) else (false, r.2)
theorem holds1_spec (cb vb : Option Addr) (cl cc vl vc p off cap : Nat) (x : XC) (r : Val × Int) (V : View) (hs : V.has p off (xcells x))
  (h : ∀ V', V.le V' → PSpec 76 [.agg #[.slice cb cl cc, .slice vb vl vc], xagg x] V' (fun v _ => v = pairX r)) :
  PSpec 51 [.slice cb cl cc, .slice vb vl vc, .slice (some ⟨p, off, none⟩) 1 cap] V (fun v _ => v = .tuple #[.bool (holdsX r).1, .int .i64 (holdsX r).2]) := by
 refine does_of_zfun [] mixed (args := [.v _, .v _, .v _]) (ms := []) Tryz.func51 (by kernel_rfl) rfl ?_; conv => whnf
 repeat' ((first | refine br_t rfl ?_ | refine br_f rfl ?_ | refine IdxN.lit rfl rfl ?_ | intro _); conv => whnf)
 refine CallN.pure (each1_spec (.agg #[.slice cb cl cc, .slice vb vl vc]) x r p off cap _ (hs.mono le_auto) (fun V' hV' => h V' le_auto)) fun v V1 _ hV1 hv => ?_
 unfold Each1 at hv
 split at hv
 ·rename_i h0
  obtain ⟨p2, off2, cap2, rfl, hs2⟩ := hv
  conv => whnf
  repeat' ((first | refine br_t rfl ?_ | refine br_f rfl ?_ | refine IdxN.lit rfl rfl ?_ | intro _); conv => whnf)
  refine unrollz 2 ?_; conv => whnf
  repeat' ((first | refine br_t rfl ?_ | refine br_f rfl ?_ | refine IdxN.lit rfl rfl ?_ | intro _); conv => whnf)
  refine LoadN.of (hs2.mono le_auto) 0 rfl rfl ?_; conv => whnf
  repeat' ((first | refine br_t rfl ?_ | refine br_f rfl ?_ | refine IdxN.lit rfl rfl ?_ | intro _); conv => whnf)
  apply br <;> intro h3 <;> conv => whnf
  ·refine ret_pure ?_
   have h3 : ¬ r.1.n = 1 := by simpa using h3
   have : (r.1.n == 1) = false := by simpa using h3
   rw [holdsX, if_pos h0, this]; rfl
  ·repeat' ((first | refine br_t rfl ?_ | refine br_f rfl ?_ | refine IdxN.lit rfl rfl ?_ | intro _); conv => whnf)
   refine ret_pure ?_
   have h3 : r.1.n = 1 := by simpa using h3
   rw [holdsX, if_pos h0, h3]; rfl
 ·rename_i h0
  subst hv; conv => whnf
  refine br_t (by simpa using h0) ?_; conv => whnf
  refine ret_pure ?_
  rw [holdsX, if_neg h0]; rfl
theorem eql_of (o1 o2 : Operand) (x y : Val) (w : World) : Sem.run Tryz.prog (binOp .eql 44 (vv x) (vv y)) w = .ok (.bool (sameV x y)) w := by
 have h := eqv_run o1 o2 x y w
 unfold vv at h ⊢
 rw [Sem.run_bind, run_eqGuard_agg w .eql 44 o1 o2 _ _ (by kernel_rfl)] at h
 simpa only [Result.andThen_ok] using h
theorem nev_run (o1 o2 : Operand) (x y : Val) (w : World) : Sem.run Tryz.prog (do
      eqGuard .neq 44 o1 o2 (vv x) (vv y)
      binOp .neq 44 (vv x) (vv y)) w = .ok (.bool (!sameV x y)) w := by
  have h := eql_of o1 o2 x y w
  unfold vv at h ⊢
  rw [Sem.run_bind, run_eqGuard_agg w .neq 44 o1 o2 _ _ (by kernel_rfl)]
  simp only [Result.andThen_ok]
  unfold binOp at h ⊢
  simp only [Sem.run_bind] at h ⊢
  cases hr : Sem.run Tryz.prog (Op.equal 44 (Value.agg #[Value.int IntKind.i64 x.k, Value.int IntKind.i64 x.n, Value.string x.t]) (Value.agg #[Value.int IntKind.i64 y.k, Value.int IntKind.i64 y.n, Value.string y.t])) w with
  | ok b w' =>
    rw [hr] at h
    simp only [Result.andThen_ok, Sem.run_pure, Result.ok.injEq, Value.bool.injEq] at h
    obtain ⟨rfl, rfl⟩ := h
    simp
  | _ => rw [hr] at h; simp [Result.andThen] at h
theorem sameV_self (x : Val) : sameV x x = true := by simp [sameV]
theorem names_T : Names itemsT := by
 refine ⟨fun i j x y hx hy h _ => ?_, fun x hx => ?_⟩
 ·have hi : i < 3 := (List.getElem?_eq_some_iff.1 hx).1
  have hj : j < 3 := (List.getElem?_eq_some_iff.1 hy).1
  have hi3 : i = 0 ∨ i = 1 ∨ i = 2 := by omega
  have hj3 : j = 0 ∨ j = 1 ∨ j = 2 := by omega
  rcases hi3 with rfl | rfl | rfl <;> rcases hj3 with rfl | rfl | rfl <;> first | rfl | (simp only [itemsT, List.getElem?_cons_zero, List.getElem?_cons_succ, Option.some.injEq] at hx hy; subst hx; subst hy; simp [txt, ByteArray.toList_eq] at h)
 ·simp only [itemsT, List.mem_cons, List.not_mem_nil, or_false] at hx
  rcases hx with rfl | rfl | rfl <;> simp [txt, ByteArray.toList_eq]
theorem colAt_inR {tb nm : ByteArray} : ∀ {its : List Item} {vals : List Val}, (∀ v ∈ vals, InR v.n) → InR (colAt tb nm its vals).1.n
 | [], _, _ => v0_inR
 | x :: its, [], _ => v0_inR
 | x :: its, v :: vals, h => by
  unfold colAt
  split
  ·exact h v List.mem_cons_self
  ·exact colAt_inR fun w hw => h w (List.mem_cons_of_mem _ hw)
theorem refCol_inR {tb nm : ByteArray} {its : List Item} {vals : List Val} (h : ∀ v ∈ vals, InR v.n) : InR (refCol its vals tb nm).1.n := by
 unfold refCol
 split
 ·cases hv : vals[(atA tb nm (its.take vals.length)).1.toNat]? with
  | none => exact v0_inR
  | some v => exact h v (List.mem_of_getElem? hv)
 ·exact v0_inR
/-- numbers as they come in -/
structure Src.as (s : Src) (V : View) : Prop where
 has : s.l ≠ [] → V.cells s.slice s.cells
 num : ∀ x ∈ s.l, 0 ≤ x ∧ x ≤ 255
theorem Src.as.ok {s : Src} {V : View} (h : s.as V) {n : Nat} (hl : s.l.length ≤ n) (hn : n ≤ 1000000) : s.ok V := ⟨h.has, h.num, Nat.le_trans hl hn⟩
end Go.Proofs.YtenpginanhnkbaaGreat
end

section
set_option linter.unusedSimpArgs false
set_option linter.unusedVariables false
namespace Go.Proofs.YtenpginanhnkbaaGreat
open Go.X Go.ChangeShapes Go.WideShapes Go.RowKit
theorem in_u8 {a : Int} (h : (Lit.int .u8 a).wf = true) : 0 ≤ a ∧ a ≤ 255 := by
 simp only [Lit.wf, Bool.and_eq_true, decide_eq_true_eq] at h
 have e1 : IntKind.u8.min = 0 := by decide +kernel
 have e2 : IntKind.u8.max = 255 := by decide +kernel
 rw [e1, e2] at h
 exact h
set_option maxRecDepth 100000 in
/-- a list of bytes, as an argument -/
theorem open_src {H : Type} {enc : TypeId × Value → H} {w : World} {r : Reach} {b0 : Nat} {v : Value} {d : DataW H} {ps : List MemPlace} (hval : Value.okWide Tryz.prog w r b0 22 v) (h : DataW.Trod enc Tryz.prog w 0 (fun _ => true) true 22 v d ps) :
  ∃ s : Src, v = s.slice ∧ s.as (entryV w) := by
 obtain ⟨base, cap, l, hv, hc, hwf, _⟩ := open_nums Tryz.underlying22 Tryz.underlying5 (by kernel_rfl) (fun c x hc hx => by
  obtain ⟨a, n, cp, rfl⟩ := okWide_slice Tryz.underlying22 hval
  rw [hx] at hc
  simpa [Value.cells] using hc) h
 exact ⟨⟨base, cap, l⟩, hv, fun hn => by
  obtain ⟨p, off, rfl, hh⟩ := hc hn
  exact hh, fun x hx => in_u8 (hwf x hx)⟩
end Go.Proofs.YtenpginanhnkbaaGreat
end

section
set_option linter.unusedSimpArgs false
set_option linter.unusedVariables false
namespace Go.Proofs.YtenpginanhnkbaaGreat
open Go.X
set_option maxRecDepth 100000
theorem wrap_big {i n : Nat} (h : i < n) (hn : n ≤ 9223372036854775807) : IntKind.i64.wrap ((i : Int) + 1) = ((i + 1 : Nat) : Int) := by rw [wrapE]; omega
/-- a list of values, wherever it lies -/
structure ValsAt (V : View) (l : List Val) (base : Option Addr) : Prop where
 has : l ≠ [] → ∃ p off, base = some ⟨p, off, none⟩ ∧ V.has p off (l.flatMap vcells)
 len : l.length ≤ 9223372036854775807
theorem ValsAt.mono {V V' : View} {l : List Val} {base : Option Addr} (h : ValsAt V l base) (hV : V.le V') : ValsAt V' l base := ⟨fun hn => by
 obtain ⟨p, off, h1, h2⟩ := h.has hn
 exact ⟨p, off, h1, h2.mono hV⟩, h.len⟩
theorem ValsAt.at {V : View} {l : List Val} {base : Option Addr} (h : ValsAt V l base) {i : Nat} {x : Val} (hx : l[i]? = some x) : ∃ p off, base = some ⟨p, off, none⟩ ∧ V.has p (off + i * 3) (vcells x) := by
 obtain ⟨p, off, h1, h2⟩ := h.has (fun e => by rw [e] at hx; simp at hx)
 exact ⟨p, off, h1, has_flat (n := 3) (fun _ => rfl) l off h2 i x hx⟩
def keyC (x : Item) : List UInt8 × List UInt8 := (x.nm.toList, x.tb.toList)
theorem holds_gen (its : List Item) (vals : List Val) (n m p o1 c q o2 d r o3 g : Nat) (V : View) (hn : its.length = n) (hm : vals.length = m) (hs : its.length ≤ 1000) (hs2 : vals.length ≤ 1000) (hin : ∀ v ∈ vals, InR v.n)
  (h1 : V.has p o1 (its.flatMap icells)) (h2 : V.has q o2 (vals.flatMap vcells)) {e : E} (hok : e.ok) {xe : XC} (hrep : RepE V e xe) (h3 : V.has r o3 (xcells xe)) :
  PSpec 51 [.slice (some ⟨p, o1, none⟩) n c, .slice (some ⟨q, o2, none⟩) m d, .slice (some ⟨r, o3, none⟩) 1 g] V
   (fun v _ => v = .tuple #[.bool (holdsX (evalX (fun tb nm => colAt tb nm its vals) e)).1, .int .i64 (holdsX (evalX (fun tb nm => colAt tb nm its vals) e)).2]) := by
 subst hn; subst hm
 exact holds1_spec _ _ _ _ _ _ r o3 g xe _ V h3 (fun V' hV => eval_spec _ _ _ (fun tb nm => colAt_inR hin) e xe V' hok (hrep.mono hV) (fun tb nm V2 hV2 => column_spec its vals p q c d o1 o2 tb nm V2 ((h1.mono hV).mono hV2) ((h2.mono hV).mono hV2) (by omega) (by omega)))
end Go.Proofs.YtenpginanhnkbaaGreat
end
