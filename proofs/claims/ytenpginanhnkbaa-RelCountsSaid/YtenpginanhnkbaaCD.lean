/- One part of a proof: an evaluator of the model, shown right, and contracts that it yields. No condition beyond those that each theorem names. -/
import Derived.Test.YtenpginanhnkbaaCC
section
set_option linter.unusedSimpArgs false
set_option linter.unusedVariables false
namespace Go.Proofs.Ytenpginanhnkbaa
open Go.X
set_option maxRecDepth 100000

/-! ## columns -/
theorem has_flat {α : Type} {f : α → List Value} {n : Nat} (hn : ∀ x, (f x).length = n) {V : View} {p : Nat} : ∀ (l : List α) (off : Nat), V.has p off (l.flatMap f) → ∀ (i : Nat) (x : α), l[i]? = some x → V.has p (off + i * n) (f x)
  | [], off, _, i, x, hx => by simp at hx
  | y :: l, off, h, i, x, hx => by
    rw [List.flatMap_cons] at h
    cases i with
    | zero =>
      simp only [List.getElem?_cons_zero, Option.some.injEq] at hx
      subst hx
      intro j v hj
      rw [Nat.zero_mul, Nat.add_zero]
      refine h j v ?_
      rw [List.getElem?_append_left (List.getElem?_eq_some_iff.1 hj).1]; exact hj
    | succ i =>
      have h2 : V.has p (off + n) (l.flatMap f) := fun j v hj => by
        have := h (n + j) v (by rw [List.getElem?_append_right (by rw [hn]; omega), hn, Nat.add_sub_cancel_left]; exact hj)
        rwa [← Nat.add_assoc] at this
      have := has_flat hn l (off + n) h2 i x (by simpa using hx)
      rw [Nat.succ_mul, Nat.add_comm (i * n) n, ← Nat.add_assoc]
      exact this
structure Item where
  agg : Int
  tb : ByteArray
  nm : ByteArray
def icells (x : Item) : List Value := [.int .i64 x.agg, .string x.tb, .string x.nm]
def hitI (tb nm : ByteArray) (x : Item) : Bool := x.nm.toList == nm.toList && (tb.toList == noText.toList || x.tb.toList == tb.toList)
/-- the first column of that name -/
def colAt (tb nm : ByteArray) : List Item → List Val → Val × Int
  | x :: l, v :: m => if hitI tb nm x then (v, 0) else colAt tb nm l m
  | _, _ => (v0, 10)
theorem min_run (a b : Int) (t : Array TypeId) (u : TypeId) (w : World) : (Builtin.min_ t u #[.int .i64 a, .int .i64 b]).run Try.prog w = .ok (.int .i64 (if b < a then b else a)) w := by
  simp [Builtin.min_, Builtin.min2]
theorem column_spec (its : List Item) (vals : List Val) (p q c d o1 o2 : Nat) (tb nm : ByteArray) (V : View) (h1 : V.has p o1 (its.flatMap icells)) (h2 : V.has q o2 (vals.flatMap vcells)) (hl : its.length ≤ 1000000) (hl2 : vals.length ≤ 1000000) :
    PSpec 67 [.agg #[.slice (some ⟨p, o1, none⟩) its.length c, .slice (some ⟨q, o2, none⟩) vals.length d], .string tb, .string nm] V (fun v _ => v = pairX (colAt tb nm its vals)) := by
  refine pspec [] (args := [.v _, .v _, .v _]) Try.func67 (by kernel_rfl) rfl ?_
  conv => whnf
  intro b1
  conv => whnf
  intro b2
  conv => whnf
  refine ⟨⟨_, min_run its.length vals.length _ _, ?_⟩⟩
  conv => whnf
  generalize hn : (if (vals.length : Int) < its.length then (vals.length : Int) else its.length) = n
  have hn1 : n ≤ its.length ∧ n ≤ vals.length ∧ (n = its.length ∨ n = vals.length) := by split at hn <;> omega
  refine LoopN.mk' (σ := Nat) (fun i => St.of [(1, .v (.string tb)), (2, .v (.string nm)), (3, .own 3 0), (6, .own 6 0), (16, .v (.int .i64 n)), (17, .v (.int .i64 i))]
      [(3, .box b1 93 [.slice (some ⟨p, o1, none⟩) its.length c, .slice (some ⟨q, o2, none⟩) vals.length d]), (6, .box b2 38 [.int .i64 0, .int .i64 0, .string noText])])
    (fun k i V' => V.le V' ∧ (i : Int) ≤ n ∧ n - i = k ∧ colAt tb nm (its.drop i) (vals.drop i) = colAt tb nm its vals) n.toNat 0
    (weak_of ⟨⟨rfl, _, rfl⟩, ⟨rfl, _, rfl⟩, ⟨rfl, _, rfl⟩, ⟨rfl, _, rfl⟩, ⟨rfl, _, rfl⟩, ⟨rfl, _, rfl⟩, trivial⟩ ⟨rfl, rfl, trivial⟩) ⟨View.le_refl _, by omega, by omega, rfl⟩ fun k i V' ⟨hV, hi, hk, hc⟩ => ?_
  conv => whnf
  apply br <;> intro h3 <;> conv => whnf
  · have h3 : (i : Int) < n := by simpa using h3
    have hi1 : i < its.length := by omega
    have hi2 : i < vals.length := by omega
    obtain ⟨x, hx⟩ : ∃ x, its[i]? = some x := ⟨_, List.getElem?_eq_getElem hi1⟩
    obtain ⟨v, hv⟩ : ∃ v, vals[i]? = some v := ⟨_, List.getElem?_eq_getElem hi2⟩
    have hstep : colAt tb nm its vals = if hitI tb nm x then (v, 0) else colAt tb nm (its.drop (i + 1)) (vals.drop (i + 1)) := by
      rw [← hc]
      rw [List.drop_eq_getElem_cons hi1, List.drop_eq_getElem_cons hi2]
      have e1 : its[i] = x := by rw [List.getElem?_eq_getElem hi1] at hx; exact Option.some.inj hx
      have e2 : vals[i] = v := by rw [List.getElem?_eq_getElem hi2] at hv; exact Option.some.inj hv
      rw [e1, e2]; rfl
    refine IdxN.of (by omega) (by omega) ?_
    conv => whnf
    have hx1 := (has_flat (n := 3) (fun _ => rfl) its o1 h1 i x hx).mono hV
    have hv1 := (has_flat (n := 3) (fun _ => rfl) vals o2 h2 i v hv).mono hV
    refine LoadN.of hx1 0 rfl rfl ?_
    conv => whnf
    intro b3
    conv => whnf
    have hw : IntKind.i64.wrap ((i : Int) + 1) = ((i + 1 : Nat) : Int) := by rw [wrapE]; omega
    have found : hitI tb nm x = true → pairX (colAt tb nm its vals) = pairX (v, 0) := fun h => by rw [hstep, if_pos h]
    have next : hitI tb nm x = false → colAt tb nm (its.drop (i + 1)) (vals.drop (i + 1)) = colAt tb nm its vals := fun h => by rw [hstep, h]; rfl
    apply br <;> intro h4 <;> conv => whnf
    · apply br <;> intro h5 <;> conv => whnf
      · have hh : hitI tb nm x = true := by
          simp only [hitI, Bool.and_eq_true, Bool.or_eq_true]
          exact ⟨h4, .inl h5⟩
        refine IdxN.of (by omega) (by omega) ?_
        conv => whnf
        refine LoadN.of hv1 0 rfl rfl ?_
        conv => whnf
        refine ret_pure ?_
        rw [found hh]; rfl
      · apply br <;> intro h6 <;> conv => whnf
        · have hh : hitI tb nm x = true := by
            simp only [hitI, Bool.and_eq_true, Bool.or_eq_true]
            exact ⟨h4, .inr h6⟩
          refine IdxN.of (by omega) (by omega) ?_
          conv => whnf
          refine LoadN.of hv1 0 rfl rfl ?_
          conv => whnf
          refine ret_pure ?_
          rw [found hh]; rfl
        · have hh : hitI tb nm x = false := by
            simp only [hitI]
            rw [show (tb.toList == noText.toList) = false from h5, h6]; simp
          refine ⟨k - 1, _, by omega, ?_, i + 1, rfl, hV, by omega, by omega, next hh⟩
          exact weak_of ⟨⟨rfl, _, rfl⟩, ⟨rfl, _, rfl⟩, ⟨rfl, _, rfl⟩, ⟨rfl, _, rfl⟩, ⟨rfl, _, rfl⟩, ⟨by rw [← hw]; rfl, _, rfl⟩, trivial⟩ ⟨rfl, rfl, trivial⟩
    · have hh : hitI tb nm x = false := by
        simp only [hitI]
        rw [h4]; simp
      refine ⟨k - 1, _, by omega, ?_, i + 1, rfl, hV, by omega, by omega, next hh⟩
      exact weak_of ⟨⟨rfl, _, rfl⟩, ⟨rfl, _, rfl⟩, ⟨rfl, _, rfl⟩, ⟨rfl, _, rfl⟩, ⟨rfl, _, rfl⟩, ⟨by rw [← hw]; rfl, _, rfl⟩, trivial⟩ ⟨rfl, rfl, trivial⟩
  · have h3 : ¬ (i : Int) < n := by simpa using h3
    have hend : colAt tb nm its vals = (v0, 10) := by
      rw [← hc]
      rcases hn1.2.2 with h | h
      · have e : its.drop i = [] := List.drop_eq_nil_of_le (by omega)
        rw [e]; rfl
      · have e : vals.drop i = [] := List.drop_eq_nil_of_le (by omega)
        rw [e]
        cases its.drop i <;> rfl
    refine ret_pure ?_
    rw [hend]; rfl
end Go.Proofs.Ytenpginanhnkbaa
end

section
set_option linter.unusedSimpArgs false
set_option linter.unusedVariables false
namespace Go.Proofs.Ytenpginanhnkbaa
open Go.X
set_option maxRecDepth 100000

/-! ## the document's column -/
def hitA (tb nm : ByteArray) (x : Item) : Bool := x.nm.toList == nm.toList && (tb.toList == noText.toList || tb.toList == x.tb.toList)
/-- the place of the one column of that name -/
def findA (tb nm : ByteArray) : Nat → Int → List Item → Option Int
  | _, k, [] => some k
  | i, k, x :: l => if hitA tb nm x then (if 0 ≤ k then none else findA tb nm (i + 1) i l) else findA tb nm (i + 1) k l
def atA (tb nm : ByteArray) (its : List Item) : Int × Int := match findA tb nm 0 (-1) its with
  | none => (-1, 10)
  | some k => if k < 0 then (-1, 10) else (k, 0)
def pl43 : Plans := [(5, [(0, []), (1, []), (2, []), (3, []), (4, []), (5, []), (6, []), (7, []), (8, []), (9, []), (10, []), (11, []), (12, []), (13, []), (14, []), (15, []), (16, []), (17, []), (18, []), (19, []), (20, []), (21, []), (22, [])])]
theorem at_spec (its : List Item) (n : Nat) (p c o1 : Nat) (x : XC) (V : View) (h1 : V.has p o1 (its.flatMap icells)) (hl : its.length ≤ 1000000) (hl2 : n ≤ 1000000) :
    PSpec 43 [.slice (some ⟨p, o1, none⟩) its.length c, .int .i64 n, xagg x] V (fun v _ => v = .tuple #[.int .i64 (atA x.tb x.nm (its.take n)).1, .int .i64 (atA x.tb x.nm (its.take n)).2]) := by
  refine pspec pl43 (args := [.v _, .v _, .v _]) Try.func43 (by kernel_rfl) rfl ?_
  conv => whnf
  intro b1
  conv => whnf
  refine LoopN.mk' (σ := Nat × Int) (fun s => St.of [(0, .v (.slice (some ⟨p, o1, none⟩) its.length c)), (1, .v (.int .i64 n)), (5, .own 5 0), (8, .v (.int .i64 s.2)), (9, .v (.int .i64 s.1))] [(5, .box b1 41 (xcells x))])
    (fun k s V' => V.le V' ∧ s.1 ≤ its.length ∧ s.1 ≤ n ∧ its.length - s.1 = k ∧ findA x.tb x.nm s.1 s.2 ((its.take n).drop s.1) = findA x.tb x.nm 0 (-1) (its.take n)) its.length (0, -1)
    (weak_of ⟨⟨rfl, _, rfl⟩, ⟨rfl, _, rfl⟩, ⟨rfl, _, rfl⟩, ⟨rfl, _, rfl⟩, ⟨rfl, _, rfl⟩, trivial⟩ ⟨rfl, trivial⟩) ⟨View.le_refl _, by simp, by simp, by simp, rfl⟩ fun k s V' ⟨hV, hi, hin, hk, hc⟩ => ?_
  obtain ⟨i, j⟩ := s
  simp only at hi hin hk hc
  conv => whnf
  refine ⟨⟨_, min_run its.length n _ _, ?_⟩⟩
  conv => whnf
  apply br <;> intro h3 <;> conv => whnf
  · have h3 : (i : Int) < (if (n : Int) < its.length then (n : Int) else its.length) := by simpa using h3
    have hi1 : i < its.length := by split at h3 <;> omega
    have hi2 : i < n := by split at h3 <;> omega
    obtain ⟨y, hy⟩ : ∃ y, its[i]? = some y := ⟨_, List.getElem?_eq_getElem hi1⟩
    have hstep : findA x.tb x.nm 0 (-1) (its.take n) = if hitA x.tb x.nm y then (if 0 ≤ j then none else findA x.tb x.nm (i + 1) i ((its.take n).drop (i + 1))) else findA x.tb x.nm (i + 1) j ((its.take n).drop (i + 1)) := by
      have hi3 : i < (its.take n).length := by rw [List.length_take]; omega
      rw [← hc, List.drop_eq_getElem_cons hi3]
      have e1 : (its.take n)[i] = y := by
        rw [List.getElem_take]
        rw [List.getElem?_eq_getElem hi1] at hy; exact Option.some.inj hy
      rw [e1]; rfl
    have hy1 := (has_flat (n := 3) (fun _ => rfl) its o1 h1 i y hy).mono hV
    have hw : IntKind.i64.wrap ((i : Int) + 1) = ((i + 1 : Nat) : Int) := by rw [wrapE]; omega
    refine IdxN.of (by omega) (by omega) ?_
    conv => whnf
    refine LoadN.of hy1 2 rfl rfl ?_
    conv => whnf
    apply br <;> intro h4 <;> conv => whnf
    · repeat (refine br_t h4 ?_; conv => whnf)
      apply br <;> intro h5 <;> conv => whnf
      · have hh : hitA x.tb x.nm y = true := by
          simp only [hitA, Bool.and_eq_true, Bool.or_eq_true]
          exact ⟨h4, .inl h5⟩
        repeat (first | (refine br_t h4 ?_; conv => whnf) | (refine br_t h5 ?_; conv => whnf))
        apply br <;> intro h7 <;> conv => whnf
        · have h7 : 0 ≤ j := by simpa using h7
          refine ret_pure ?_
          unfold atA
          rw [hstep, if_pos hh, if_pos h7]; rfl
        · have h7 : ¬ 0 ≤ j := by simpa using h7
          refine ⟨k - 1, _, by omega, ?_, (i + 1, (i : Int)), rfl, hV, by simp only; omega, by simp only; omega, by simp only; omega, by rw [hstep, if_pos hh, if_neg h7]⟩
          exact weak_of ⟨⟨rfl, _, rfl⟩, ⟨rfl, _, rfl⟩, ⟨rfl, _, rfl⟩, ⟨rfl, _, rfl⟩, ⟨by rw [← hw]; rfl, _, rfl⟩, trivial⟩ ⟨rfl, trivial⟩
      · repeat (first | (refine br_t h4 ?_; conv => whnf) | (refine br_f h5 ?_; conv => whnf))
        refine IdxN.of (by omega) (by omega) ?_
        conv => whnf
        repeat (first | (refine br_t h4 ?_; conv => whnf) | (refine br_f h5 ?_; conv => whnf))
        refine LoadN.of hy1 1 rfl rfl ?_
        conv => whnf
        repeat (first | (refine br_t h4 ?_; conv => whnf) | (refine br_f h5 ?_; conv => whnf))
        apply br <;> intro h6 <;> conv => whnf
        · have hh : hitA x.tb x.nm y = true := by
            simp only [hitA, Bool.and_eq_true, Bool.or_eq_true]
            exact ⟨h4, .inr h6⟩
          apply br <;> intro h7 <;> conv => whnf
          · have h7 : 0 ≤ j := by simpa using h7
            refine ret_pure ?_
            unfold atA
            rw [hstep, if_pos hh, if_pos h7]; rfl
          · have h7 : ¬ 0 ≤ j := by simpa using h7
            refine ⟨k - 1, _, by omega, ?_, (i + 1, (i : Int)), rfl, hV, by simp only; omega, by simp only; omega, by simp only; omega, by rw [hstep, if_pos hh, if_neg h7]⟩
            exact weak_of ⟨⟨rfl, _, rfl⟩, ⟨rfl, _, rfl⟩, ⟨rfl, _, rfl⟩, ⟨rfl, _, rfl⟩, ⟨by rw [← hw]; rfl, _, rfl⟩, trivial⟩ ⟨rfl, trivial⟩
        · have hh : hitA x.tb x.nm y = false := by
            simp only [hitA]
            rw [show (x.tb.toList == noText.toList) = false from h5, h6]; simp
          refine ⟨k - 1, _, by omega, ?_, (i + 1, j), rfl, hV, by simp only; omega, by simp only; omega, by simp only; omega, by rw [hstep, hh]; rfl⟩
          exact weak_of ⟨⟨rfl, _, rfl⟩, ⟨rfl, _, rfl⟩, ⟨rfl, _, rfl⟩, ⟨rfl, _, rfl⟩, ⟨by rw [← hw]; rfl, _, rfl⟩, trivial⟩ ⟨rfl, trivial⟩
    · have hh : hitA x.tb x.nm y = false := by
        simp only [hitA]
        rw [h4]; simp
      repeat (refine br_f h4 ?_; conv => whnf)
      refine ⟨k - 1, _, by omega, ?_, (i + 1, j), rfl, hV, by simp only; omega, by simp only; omega, by simp only; omega, by rw [hstep, hh]; rfl⟩
      exact weak_of ⟨⟨rfl, _, rfl⟩, ⟨rfl, _, rfl⟩, ⟨rfl, _, rfl⟩, ⟨rfl, _, rfl⟩, ⟨by rw [← hw]; rfl, _, rfl⟩, trivial⟩ ⟨rfl, trivial⟩
  · have h3 : ¬ (i : Int) < (if (n : Int) < its.length then (n : Int) else its.length) := by simpa using h3
    have hend : findA x.tb x.nm 0 (-1) (its.take n) = some j := by
      rw [← hc]
      have e : (its.take n).drop i = [] := List.drop_eq_nil_of_le (by rw [List.length_take]; split at h3 <;> omega)
      rw [e]; rfl
    apply br <;> intro h7 <;> conv => whnf
    · have h7 : j < 0 := by simpa using h7
      refine ret_pure ?_
      unfold atA
      rw [hend]
      simp only [if_pos h7]
      rfl
    · have h7 : ¬ j < 0 := by simpa using h7
      refine ret_pure ?_
      unfold atA
      rw [hend]
      simp only [if_neg h7]
      rfl
end Go.Proofs.Ytenpginanhnkbaa
end

section
set_option linter.unusedSimpArgs false
set_option linter.unusedVariables false
namespace Go.Proofs.Ytenpginanhnkbaa
open Go.X
set_option maxRecDepth 100000

/-! ## numbers from which choices are read -/
structure Src where
  base : Option Addr
  cap : Nat
  l : List Int
def Src.slice (s : Src) : Value := .slice s.base s.l.length s.cap
def Src.cells (s : Src) : List Value := s.l.map fun x => .int .u8 x
structure Src.ok (s : Src) (V : View) : Prop where
  has : s.l ≠ [] → V.cells s.slice s.cells
  num : ∀ x ∈ s.l, 0 ≤ x ∧ x ≤ 255
  len : s.l.length ≤ 1000000
theorem Src.ok.mono {s : Src} {V V' : View} (h : s.ok V) (hV : V.le V') : s.ok V' := ⟨fun hn => (h.has hn).mono hV, h.num, h.len⟩
def picksC (s : Src) (k : Int) : List Value := [.slice s.base s.l.length s.cap, .int .i64 k]
def picks (b : Nat) (s : Src) (k : Int) : Res := .box b 85 (picksC s k)
/-- how far it has read -/
def FarOk (s : Src) (k : Int) : Prop := 0 ≤ k ∧ k ≤ s.l.length
theorem rem_run (x y : Operand) (p b : Int) (h : b ≠ 0) (w : World) : Sem.run Try.prog (do
      eqGuard BinOp.rem 3 x y (.int .i64 p) (.int .i64 b)
      binOp BinOp.rem 3 (.int .i64 p) (.int .i64 b)) w = .ok (.int .i64 (p.tmod b)) w := by
  simp [eqGuard, binOp, Op.intDiv, h]
def pl37 : Plans := [(1, [(0, []), (1, []), (2, []), (3, []), (4, []), (5, []), (6, []), (7, []), (8, []), (9, [])]), (4, [(0, []), (1, []), (2, []), (3, []), (4, []), (5, []), (6, []), (7, []), (8, []), (9, []), (10, []), (11, []), (12, []), (13, []), (14, [])])]
theorem num_spec (b : Nat) (s : Src) (k m : Int) (hk : FarOk s k) (hm : 0 < m) (V : View) (hs : s.ok V) :
    Does Try.prog 37 [.pointer (some ⟨b, 0, none⟩), .int .i64 m] V [picks b s k] (fun v _ bs => ∃ r k', v = .int .i64 r ∧ 0 ≤ r ∧ r < m ∧ FarOk s k' ∧ bs = [picks b s k']) := by
  refine does_of_yfun pl37 mixed (args := [.own 0 0, .v _]) (ms := [(0, picks b s k)]) Try.func37 (by kernel_rfl) rfl ?_
  conv => whnf
  obtain ⟨hk0, hk1⟩ := hk
  have hlen := hs.len
  apply br <;> intro h1 <;> conv => whnf
  · exact ⟨[0], by simp, [picks b s k], rfl, 0, k, rfl, by decide, hm, ⟨hk0, hk1⟩, rfl⟩
  have h1 : k < s.l.length := by simpa using h1
  have hw : IntKind.i64.wrap (k + 1) = k + 1 := by rw [wrapE]; omega
  have hw2 : IntKind.i64.wrap (IntKind.i64.wrap (k + 1) - 1) = k := by rw [hw, wrapE]; omega
  have hlt : k.toNat < s.l.length := by omega
  have hhas := hs.has (fun e => by rw [e] at hlt; simp at hlt)
  obtain ⟨x, hx⟩ : ∃ x, s.l[k.toNat]? = some x := ⟨_, List.getElem?_eq_getElem hlt⟩
  have hx2 := hs.num x (List.mem_of_getElem? hx)
  obtain ⟨p, off, hb, hh⟩ : ∃ p off, s.base = some ⟨p, off, none⟩ ∧ V.has p off s.cells := by
    have hne : s.cells ≠ [] := fun e => by
      have := congrArg List.length e
      simp only [Src.cells, List.length_map, List.length_nil] at this
      omega
    obtain ⟨y, l, hyl⟩ := List.exists_cons_of_ne_nil hne
    unfold Src.slice at hhas
    rw [hyl] at hhas ⊢
    exact cells_cut hhas
  have hone : V.has p (off + k.toNat) [.int .u8 x] := fun j v hj => by
    cases j with
    | zero =>
      simp only [List.getElem?_cons_zero, Option.some.injEq] at hj
      subst hj
      exact hh k.toNat _ (by simp [Src.cells, hx])
    | succ j => simp at hj
  refine ⟨⟨p, off, hb, by rw [hw2]; omega, by rw [hw2]; omega, ?_⟩⟩
  conv => whnf
  refine LoadN.of hone 0 (by rw [hw2]; show off + k.toNat * 1 = off + k.toNat + 0; omega) rfl ?_
  conv => whnf
  have hwx : IntKind.i64.wrap x = x := by rw [wrapE]; omega
  refine ⟨⟨_, rem_run _ _ _ _ (by omega), ?_⟩⟩
  conv => whnf
  refine ⟨[0], by simp, [picks b s (IntKind.i64.wrap (k + 1))], rfl, _, _, rfl, ?_, ?_, ?_, rfl⟩
  · rw [hwx]; exact Int.tmod_nonneg _ hx2.1
  · rw [hwx]; exact Int.tmod_lt_of_pos _ hm
  · rw [hw]; exact ⟨by omega, by omega⟩
end Go.Proofs.Ytenpginanhnkbaa
end

section
set_option linter.unusedSimpArgs false
set_option linter.unusedVariables false
namespace Go.Proofs.Ytenpginanhnkbaa
open Go.X
set_option maxRecDepth 100000

/-- a value of a kind -/
structure KindV (kind : Int) (x : Val) : Prop where
  k : x.k = kind
  n : InR x.n
  t : x.t.size ≤ 100
  empty : kind = 1 → x.t.toList = []
  zero : kind = 2 → x.n = 0
theorem value_spec (b : Nat) (s : Src) (k kind : Int) (hk : FarOk s k) (hkind : kind = 1 ∨ kind = 2) (V : View) (hs : s.ok V) :
    Does Try.prog 41 [.pointer (some ⟨b, 0, none⟩), .int .i64 kind] V [picks b s k] (fun v _ bs => ∃ x k', v = vv x ∧ KindV kind x ∧ FarOk s k' ∧ bs = [picks b s k']) := by
  refine does_of_yfun [] mixed (args := [.own 0 0, .v _]) (ms := [(0, picks b s k)]) Try.func41 (by kernel_rfl) rfl ?_
  conv => whnf
  intro b1
  conv => whnf
  rcases hkind with rfl | rfl
  · refine br_f rfl ?_
    conv => whnf
    refine CallN.box 0 rfl (num_spec b s k 12 hk (by decide) _ hs) fun v V1 bs hV ⟨r, k', hv, h0, h1, hf, hb⟩ => ⟨85, picksC s k', hb, ?_⟩
    subst hv
    conv => whnf
    apply br <;> intro h2 <;> conv => whnf
    · exact ⟨[0], by simp, [picks b s k'], rfl, ⟨1, 9223372036854775807, noText⟩, k', rfl, ⟨rfl, ⟨by decide, by decide⟩, by decide, fun _ => by simp [noText, ByteArray.toList_eq], fun h => by cases h⟩, hf, rfl⟩
    · exact ⟨[0], by simp, [picks b s k'], rfl, ⟨1, r, noText⟩, k', rfl, ⟨rfl, ⟨by show _ ≤ r; omega, by show r ≤ _; omega⟩, (by show (0 : Nat) ≤ 100; decide), fun _ => by simp [noText, ByteArray.toList_eq], fun h => by cases h⟩, hf, rfl⟩
  · refine br_t rfl ?_
    conv => whnf
    intro b2 V1 hV1 h1
    conv => whnf
    refine CallN.box 0 rfl (num_spec b s k 5 hk (by decide) _ (hs.mono hV1)) fun v V2 bs hV ⟨r, k', hv, h0, h2, hf, hb⟩ => ⟨85, picksC s k', hb, ?_⟩
    subst hv
    have hr : r = 0 ∨ r = 1 ∨ r = 2 ∨ r = 3 ∨ r = 4 := by omega
    rcases hr with rfl | rfl | rfl | rfl | rfl
    · conv => whnf
      refine IdxN.lit rfl rfl ?_
      conv => whnf
      refine LoadN.of (h1.mono hV) 0 rfl rfl ?_
      conv => whnf
      exact ⟨[0], by simp, [picks b s k'], rfl, ⟨2, 0, { data := #[97] }⟩, k', rfl, ⟨rfl, ⟨by show (_ : Int) ≤ 0; decide, by show (0 : Int) ≤ _; decide⟩, by decide, (fun h => by cases h), fun _ => rfl⟩, hf, rfl⟩
    · conv => whnf
      refine IdxN.lit rfl rfl ?_
      conv => whnf
      refine LoadN.of (h1.mono hV) 1 rfl rfl ?_
      conv => whnf
      exact ⟨[0], by simp, [picks b s k'], rfl, ⟨2, 0, { data := #[98] }⟩, k', rfl, ⟨rfl, ⟨by show (_ : Int) ≤ 0; decide, by show (0 : Int) ≤ _; decide⟩, by decide, (fun h => by cases h), fun _ => rfl⟩, hf, rfl⟩
    · conv => whnf
      refine IdxN.lit rfl rfl ?_
      conv => whnf
      refine LoadN.of (h1.mono hV) 2 rfl rfl ?_
      conv => whnf
      exact ⟨[0], by simp, [picks b s k'], rfl, ⟨2, 0, { data := #[] }⟩, k', rfl, ⟨rfl, ⟨by show (_ : Int) ≤ 0; decide, by show (0 : Int) ≤ _; decide⟩, by decide, (fun h => by cases h), fun _ => rfl⟩, hf, rfl⟩
    · conv => whnf
      refine IdxN.lit rfl rfl ?_
      conv => whnf
      refine LoadN.of (h1.mono hV) 3 rfl rfl ?_
      conv => whnf
      exact ⟨[0], by simp, [picks b s k'], rfl, ⟨2, 0, { data := #[105, 116, 39, 115] }⟩, k', rfl, ⟨rfl, ⟨by show (_ : Int) ≤ 0; decide, by show (0 : Int) ≤ _; decide⟩, by decide, (fun h => by cases h), fun _ => rfl⟩, hf, rfl⟩
    · conv => whnf
      refine IdxN.lit rfl rfl ?_
      conv => whnf
      refine LoadN.of (h1.mono hV) 4 rfl rfl ?_
      conv => whnf
      exact ⟨[0], by simp, [picks b s k'], rfl, ⟨2, 0, { data := #[122, 122] }⟩, k', rfl, ⟨rfl, ⟨by show (_ : Int) ≤ 0; decide, by show (0 : Int) ≤ _; decide⟩, by decide, (fun h => by cases h), fun _ => rfl⟩, hf, rfl⟩
theorem lit_spec (x : Val) (V : View) : PSpec 40 [vv x] V (fun v _ => v = xagg (litX x)) := by
  refine pspec [] (args := [.v _]) Try.func40 (by kernel_rfl) rfl ?_
  conv => whnf
  intro b1
  conv => whnf
  intro b2
  conv => whnf
  exact ret_pure rfl
theorem mktwo_spec (op : Int) (x y : XC) (V : View) : PSpec 38 [.int .i64 op, xagg x, xagg y] V (fun v V' => ∃ p, v = xagg ⟨op, v0, noText, noText, some ⟨p, 0, none⟩, 2, 2⟩ ∧ V'.has p 0 (xcells x ++ xcells y)) := by
  refine pspec [] (args := [.v _, .v _, .v _]) Try.func38 (by kernel_rfl) rfl ?_
  conv => whnf
  intro b1
  conv => whnf
  intro b2
  conv => whnf
  intro b3
  conv => whnf
  intro b4 V1 hV1 h1
  conv => whnf
  exact ret_pure ⟨b4, rfl, h1⟩
end Go.Proofs.Ytenpginanhnkbaa
end

section
set_option linter.unusedSimpArgs false
set_option linter.unusedVariables false
namespace Go.Proofs.Ytenpginanhnkbaa
open Go.X
set_option maxRecDepth 100000

/-- how often a name stands among columns -/
def countN (nm : ByteArray) : List Item → Nat
  | [] => 0
  | x :: l => if x.nm.toList == nm.toList then countN nm l + 1 else countN nm l
theorem countN_le (nm : ByteArray) : ∀ l : List Item, countN nm l ≤ l.length
  | [] => Nat.le_refl _
  | x :: l => by
    unfold countN
    have := countN_le nm l
    split <;> simp only [List.length_cons] <;> omega
theorem once_spec (its : List Item) (p c o1 : Nat) (nm : ByteArray) (V : View) (h1 : V.has p o1 (its.flatMap icells)) (hl : its.length ≤ 1000000) :
    PSpec 66 [.slice (some ⟨p, o1, none⟩) its.length c, .string nm] V (fun v _ => v = .bool (countN nm its == 1)) := by
  refine pspec [] (args := [.v _, .v _]) Try.func66 (by kernel_rfl) rfl ?_
  conv => whnf
  refine LoopN.mk' (σ := Nat × Nat) (fun s => St.of [(0, .v (.slice (some ⟨p, o1, none⟩) its.length c)), (1, .v (.string nm)), (5, .v (.int .i64 s.2)), (6, .v (.int .i64 s.1))] [])
    (fun k s V' => V.le V' ∧ s.1 ≤ its.length ∧ s.2 ≤ s.1 ∧ its.length - s.1 = k ∧ s.2 + countN nm (its.drop s.1) = countN nm its) its.length (0, 0)
    (weak_of ⟨⟨rfl, _, rfl⟩, ⟨rfl, _, rfl⟩, ⟨rfl, _, rfl⟩, ⟨rfl, _, rfl⟩, trivial⟩ trivial) ⟨View.le_refl _, by simp, by simp, by simp, by simp⟩ fun k s V' ⟨hV, hi, hj, hk, hc⟩ => ?_
  obtain ⟨i, j⟩ := s
  simp only at hi hj hk hc
  conv => whnf
  have hw : IntKind.i64.wrap ((i : Int) + 1) = ((i + 1 : Nat) : Int) := by rw [wrapE]; omega
  have hw2 : IntKind.i64.wrap ((j : Int) + 1) = ((j + 1 : Nat) : Int) := by rw [wrapE]; omega
  apply br <;> intro h3 <;> conv => whnf
  · have hi1 : i < its.length := by simpa using h3
    obtain ⟨y, hy⟩ : ∃ y, its[i]? = some y := ⟨_, List.getElem?_eq_getElem hi1⟩
    have hy1 := (has_flat (n := 3) (fun _ => rfl) its o1 h1 i y hy).mono hV
    have hstep : countN nm (its.drop i) = if y.nm.toList == nm.toList then countN nm (its.drop (i + 1)) + 1 else countN nm (its.drop (i + 1)) := by
      rw [List.drop_eq_getElem_cons hi1]
      have e1 : its[i] = y := by rw [List.getElem?_eq_getElem hi1] at hy; exact Option.some.inj hy
      rw [e1]; rfl
    refine IdxN.of (by omega) (by omega) ?_
    conv => whnf
    refine LoadN.of hy1 2 rfl rfl ?_
    conv => whnf
    apply br <;> intro h4 <;> conv => whnf
    · rw [if_pos h4] at hstep
      refine ⟨k - 1, _, by omega, ?_, (i + 1, j + 1), rfl, hV, by simp only; omega, by simp only; omega, by simp only; omega, by simp only; omega⟩
      exact weak_of ⟨⟨rfl, _, rfl⟩, ⟨rfl, _, rfl⟩, ⟨by rw [← hw2]; rfl, _, rfl⟩, ⟨by rw [← hw]; rfl, _, rfl⟩, trivial⟩ trivial
    · rw [if_neg (by rw [h4]; simp)] at hstep
      refine ⟨k - 1, _, by omega, ?_, (i + 1, j), rfl, hV, by simp only; omega, by simp only; omega, by simp only; omega, by simp only; omega⟩
      exact weak_of ⟨⟨rfl, _, rfl⟩, ⟨rfl, _, rfl⟩, ⟨rfl, _, rfl⟩, ⟨by rw [← hw]; rfl, _, rfl⟩, trivial⟩ trivial
  · have h3 : ¬ i < its.length := by simpa using h3
    refine ret_pure ?_
    have e : its.drop i = [] := List.drop_eq_nil_of_le (by omega)
    rw [e] at hc
    have : j = countN nm its := by simpa [countN] using hc
    subst this
    show Value.bool _ = _
    congr 1
    rw [Bool.eq_iff_iff]
    simp only [beq_iff_eq]
    omega

/-- the two tables -/
structure Tab where
  nm : ByteArray
  p : Nat
  len : Nat
  cap : Nat
  q : Option Addr
  qlen : Nat
  qcap : Nat
def tcells (t : Tab) : List Value := [.string t.nm, .slice (some ⟨t.p, 0, none⟩) t.len t.cap, .slice t.q t.qlen t.qcap]
structure ColT where
  nm : ByteArray
  kind : Int
  ref : ByteArray
def ccells (c : ColT) : List Value := [.string c.nm, .int .i64 c.kind, .string c.ref]
def txt (l : List UInt8) : ByteArray := ⟨⟨l⟩⟩
def colsT : List ColT := [⟨txt [107], 1, noText⟩, ⟨txt [118], 2, noText⟩, ⟨txt [110], 1, noText⟩]
def colsU : List ColT := [⟨txt [107], 2, noText⟩, ⟨txt [114], 1, txt [116]⟩, ⟨txt [110], 1, noText⟩]
def tabT (p q : Nat) : Tab := ⟨txt [116], p, 3, 3, some ⟨q, 0, none⟩, 1, 1⟩
def tabU (p : Nat) : Tab := ⟨txt [117], p, 3, 3, none, 0, 0⟩
theorem schema_spec (V : View) : PSpec 15 [] V (fun v V' => ∃ r p q p2 : Nat, v = .agg #[.slice (some ⟨r, 0, none⟩) 2 2, .slice none 0 0] ∧ V'.has r 0 (tcells (tabT p q) ++ tcells (tabU p2)) ∧ V'.has p 0 (colsT.flatMap ccells) ∧ V'.has p2 0 (colsU.flatMap ccells)) := by
  refine pspec [] (args := []) Try.func15 (by kernel_rfl) rfl ?_
  conv => whnf
  intro b1
  conv => whnf
  intro p1 V1 hV1 h1
  conv => whnf
  intro p2 V2 hV2 h2
  conv => whnf
  intro p3 V3 hV3 h3
  conv => whnf
  intro p4 V4 hV4 h4
  conv => whnf
  exact ret_pure ⟨p4, p1, p2, p3, rfl, h4, h1.mono (View.le_trans hV2 (View.le_trans hV3 hV4)), h3.mono hV4⟩
/-- 'Made' hands back a box -/
theorem made_spec (s : Src) (V : View) : Does Try.prog 17 [s.slice] V [] (fun v _ bs => ∃ b, v = .pointer (some ⟨b, 0, none⟩) ∧ bs = [picks b s 0]) := by
  refine does_of_yfun [] mixed (args := [.v _]) (ms := []) Try.func17 (by kernel_rfl) rfl ?_
  conv => whnf
  intro b1
  conv => whnf
  exact ⟨[5], by simp, [picks b1 s 0], rfl, b1, rfl, rfl⟩
end Go.Proofs.Ytenpginanhnkbaa
end

section
set_option linter.unusedSimpArgs false
set_option linter.unusedVariables false
namespace Go.Proofs.Ytenpginanhnkbaa
open Go.X
set_option maxRecDepth 100000

def itemsT : List Item := [⟨0, txt [116], txt [107]⟩, ⟨0, txt [116], txt [118]⟩, ⟨0, txt [116], txt [110]⟩]
def kindsT : List Int := [1, 2, 1]
def pl16 : Plans := [(6, [(0, []), (1, []), (2, []), (3, []), (4, []), (5, []), (6, []), (7, []), (8, []), (9, []), (12, []), (13, []), (14, []), (15, []), (16, []), (17, []), (18, []), (10, [19]), (11, [19]), (19, []), (20, []), (21, []), (22, [])])]
set_option maxHeartbeats 2000000 in
theorem cols_spec (p q : Nat) (V : View) (h : V.has p 0 (colsT.flatMap ccells)) :
    PSpec 16 [.agg #[.string (txt [116]), .slice (some ⟨p, 0, none⟩) 3 3, .slice (some ⟨q, 0, none⟩) 1 1]] V (fun v V' => ∃ a ao ac b bo bc, v = .tuple #[.slice (some ⟨a, ao, none⟩) 3 ac, .slice (some ⟨b, bo, none⟩) 3 bc] ∧
      V'.has a ao (itemsT.flatMap icells) ∧ V'.has b bo (kindsT.map (.int .i64 ·))) := by
  refine pspec pl16 (args := [.v _]) Try.func16 (by kernel_rfl) rfl ?_
  conv => whnf
  intro b1
  conv => whnf
  refine LoopN.unroll 4 ?_
  conv => whnf
  refine br_t rfl ?_
  conv => whnf
  refine IdxN.lit rfl rfl ?_
  conv => whnf
  refine LoadN.of h 0 rfl rfl ?_
  conv => whnf
  refine IdxN.lit rfl rfl ?_
  conv => whnf
  refine LoadN.of h 1 rfl rfl ?_
  conv => whnf
  intro c0 k0
  conv => whnf
  refine AppN.of [] (icells itemsT[0]) rfl rfl k0.has rfl rfl (by decide) (by decide) fun base cap W0 vx0 hc => ?_
  obtain ⟨pp0, oo0, rfl, cx0⟩ := cells_cut hc
  conv => whnf
  intro d0 l0
  conv => whnf
  refine AppN.of [] [.int .i64 1] rfl rfl l0.has rfl rfl (by decide) (by decide) fun base cap U0 vk0 hc => ?_
  obtain ⟨pk0, ok0, rfl, ck0⟩ := cells_cut hc
  conv => whnf
  replace h := (((h.mono (View.addU_le _ _ _)).mono vx0).mono (View.addU_le _ _ _)).mono vk0
  refine br_t rfl ?_
  conv => whnf
  refine IdxN.lit rfl rfl ?_
  conv => whnf
  refine LoadN.of h 3 rfl rfl ?_
  conv => whnf
  refine IdxN.lit rfl rfl ?_
  conv => whnf
  refine LoadN.of h 4 rfl rfl ?_
  conv => whnf
  intro c1 k1
  conv => whnf
  refine AppN.of (icells itemsT[0]) (icells itemsT[1]) (((cx0.mono (View.addU_le _ _ _)).mono vk0).mono (View.addU_le _ _ _)) rfl k1.has rfl rfl (by decide) (by decide) fun base cap W1 vx1 hc => ?_
  obtain ⟨pp1, oo1, rfl, cx1⟩ := cells_cut hc
  conv => whnf
  intro d1 l1
  conv => whnf
  refine AppN.of [.int .i64 1] [.int .i64 2] (((ck0.mono (View.addU_le _ _ _)).mono vx1).mono (View.addU_le _ _ _)) rfl l1.has rfl rfl (by decide) (by decide) fun base cap U1 vk1 hc => ?_
  obtain ⟨pk1, ok1, rfl, ck1⟩ := cells_cut hc
  conv => whnf
  replace h := (((h.mono (View.addU_le _ _ _)).mono vx1).mono (View.addU_le _ _ _)).mono vk1
  refine br_t rfl ?_
  conv => whnf
  refine IdxN.lit rfl rfl ?_
  conv => whnf
  refine LoadN.of h 6 rfl rfl ?_
  conv => whnf
  refine IdxN.lit rfl rfl ?_
  conv => whnf
  refine LoadN.of h 7 rfl rfl ?_
  conv => whnf
  intro c2 k2
  conv => whnf
  refine AppN.of (icells itemsT[0] ++ icells itemsT[1]) (icells itemsT[2]) (((cx1.mono (View.addU_le _ _ _)).mono vk1).mono (View.addU_le _ _ _)) rfl k2.has rfl rfl (by decide) (by decide) fun base cap W2 vx2 hc => ?_
  obtain ⟨pp2, oo2, rfl, cx2⟩ := cells_cut hc
  conv => whnf
  intro d2 l2
  conv => whnf
  refine AppN.of [.int .i64 1, .int .i64 2] [.int .i64 1] (((ck1.mono (View.addU_le _ _ _)).mono vx2).mono (View.addU_le _ _ _)) rfl l2.has rfl rfl (by decide) (by decide) fun base cap U2 vk2 hc => ?_
  obtain ⟨pk2, ok2, rfl, ck2⟩ := cells_cut hc
  conv => whnf
  replace h := (((h.mono (View.addU_le _ _ _)).mono vx2).mono (View.addU_le _ _ _)).mono vk2
  refine br_f rfl ?_
  conv => whnf
  exact ret_pure ⟨_, _, _, _, _, _, rfl, (cx2.mono (View.addU_le _ _ _)).mono vk2, ck2⟩
end Go.Proofs.Ytenpginanhnkbaa
end

section
set_option linter.unusedSimpArgs false
set_option linter.unusedVariables false
namespace Go.Proofs.Ytenpginanhnkbaa
open Go.X
set_option maxRecDepth 100000

set_option maxHeartbeats 2000000 in
theorem row_spec (b : Nat) (s : Src) (k : Int) (hk : FarOk s k) (p q : Nat) (V : View) (hs : s.ok V) (h : V.has p 0 (colsT.flatMap ccells)) :
    Does Try.prog 19 [.pointer (some ⟨b, 0, none⟩), .agg #[.string (txt [116]), .slice (some ⟨p, 0, none⟩) 3 3, .slice (some ⟨q, 0, none⟩) 1 1]] V [picks b s k]
      (fun v V' bs => ∃ x y z k' a ao ac, v = .slice (some ⟨a, ao, none⟩) 3 ac ∧ V'.has a ao (vcells x ++ vcells y ++ vcells z) ∧ KindV 1 x ∧ KindV 2 y ∧ KindV 1 z ∧ FarOk s k' ∧ bs = [picks b s k']) := by
  refine does_of_yfun [] mixed (args := [.own 0 0, .v _]) (ms := [(0, picks b s k)]) Try.func19 (by kernel_rfl) rfl ?_
  conv => whnf
  intro b1
  conv => whnf
  refine LoopN.unroll 4 ?_
  conv => whnf
  refine br_t rfl ?_
  conv => whnf
  refine IdxN.lit rfl rfl ?_
  conv => whnf
  refine LoadN.of h 1 rfl rfl ?_
  conv => whnf
  refine CallN.box 0 rfl (value_spec b s k 1 hk (by decide) _ hs) fun v V0 bs v0 ⟨x0, k0, hv, hx0, hf0, hb⟩ => ⟨85, picksC s k0, hb, ?_⟩
  subst hv
  conv => whnf
  intro c0 W0 w0 l0
  conv => whnf
  refine AppN.of [] (vcells x0) rfl rfl l0 rfl rfl (by decide) (by decide) fun base cap U0 u0 hc => ?_
  obtain ⟨pp0, oo0, rfl, cx0⟩ := cells_cut hc
  conv => whnf
  replace h := ((h.mono v0).mono w0).mono u0
  replace hs := ((hs.mono v0).mono w0).mono u0
  refine br_t rfl ?_
  conv => whnf
  refine IdxN.lit rfl rfl ?_
  conv => whnf
  refine LoadN.of h 4 rfl rfl ?_
  conv => whnf
  refine CallN.box 0 rfl (value_spec b s k0 2 hf0 (by decide) _ hs) fun v V1 bs v1 ⟨x1, k1, hv, hx1, hf1, hb⟩ => ⟨85, picksC s k1, hb, ?_⟩
  subst hv
  conv => whnf
  intro c1 W1 w1 l1
  conv => whnf
  refine AppN.of (vcells x0) (vcells x1) ((cx0.mono v1).mono w1) rfl l1 rfl rfl (by decide) (by decide) fun base cap U1 u1 hc => ?_
  obtain ⟨pp1, oo1, rfl, cx1⟩ := cells_cut hc
  conv => whnf
  replace h := ((h.mono v1).mono w1).mono u1
  replace hs := ((hs.mono v1).mono w1).mono u1
  refine br_t rfl ?_
  conv => whnf
  refine IdxN.lit rfl rfl ?_
  conv => whnf
  refine LoadN.of h 7 rfl rfl ?_
  conv => whnf
  refine CallN.box 0 rfl (value_spec b s k1 1 hf1 (by decide) _ hs) fun v V2 bs v2 ⟨x2, k2, hv, hx2, hf2, hb⟩ => ⟨85, picksC s k2, hb, ?_⟩
  subst hv
  conv => whnf
  intro c2 W2 w2 l2
  conv => whnf
  refine AppN.of (vcells x0 ++ vcells x1) (vcells x2) ((cx1.mono v2).mono w2) rfl l2 rfl rfl (by decide) (by decide) fun base cap U2 u2 hc => ?_
  obtain ⟨pp2, oo2, rfl, cx2⟩ := cells_cut hc
  conv => whnf
  replace h := ((h.mono v2).mono w2).mono u2
  replace hs := ((hs.mono v2).mono w2).mono u2
  refine br_f rfl ?_
  conv => whnf
  exact ⟨[0], by simp, [picks b s k2], rfl, x0, x1, x2, k2, _, _, _, rfl, cx2, hx0, hx1, hx2, hf2, rfl⟩
end Go.Proofs.Ytenpginanhnkbaa
end
