/- One part of a proof: an evaluator of the model, shown right, and contracts that it yields. No condition beyond those that each theorem names. -/
import Derived.Test.YtenpginanhnkbaaCF
section
set_option linter.unusedSimpArgs false
set_option linter.unusedVariables false
namespace Go.Proofs.Ytenpginanhnkbaa
open Go.X
set_option maxRecDepth 100000

theorem wrap_big {i n : Nat} (h : i < n) (hn : n ≤ 9223372036854775807) : IntKind.i64.wrap ((i : Int) + 1) = ((i + 1 : Nat) : Int) := by rw [wrapE]; omega
/-- a list of values, wherever it lies -/
structure ValsAt (V : View) (l : List Val) (base : Option Addr) : Prop where
  has : l ≠ [] → ∃ p off, base = some ⟨p, off, none⟩ ∧ V.has p off (l.flatMap vcells)
  len : l.length ≤ 9223372036854775807
theorem ValsAt.mono {V V' : View} {l : List Val} {base : Option Addr} (h : ValsAt V l base) (hV : V.le V') : ValsAt V' l base := ⟨fun hn => by
  obtain ⟨p, off, h1, h2⟩ := h.has hn
  exact ⟨p, off, h1, h2.mono hV⟩, h.len⟩
theorem ValsAt.at {V : View} {l : List Val} {base : Option Addr} (h : ValsAt V l base) {i : Nat} {x : Val} (hx : l[i]? = some x) : ∃ p off, base = some ⟨p, off, none⟩ ∧ V.has p (off + i * 3) (vcells x) := by
  obtain ⟨p, off, h1, h2⟩ := h.has (fun e => by rw [e] at hx; simp at hx)
  exact ⟨p, off, h1, has_flat (n := 3) (fun _ => rfl) l off h2 i x hx⟩
theorem mayrow_spec (l : List Val) (base : Option Addr) (cap : Nat) (V : View) (h : ValsAt V l base) :
    PSpec 25 [.slice base l.length cap] V (fun v _ => ∃ r, v = .bool r ∧ (r = true → 1 ≤ l.length ∧ l.length ≤ 6)) := by
  have hlen := h.len
  refine does_of_zfun [] mixed (args := [.v _]) (ms := []) Try.func25 (by kernel_rfl) rfl ?_
  conv => whnf
  refine loopz (σ := Nat) (fun i => [(0, .v (.slice base l.length cap)), (3, .v (.int .i64 i))]) (fun _ => []) (fun j i V' => V.le V' ∧ i ≤ l.length ∧ l.length - i = j) l.length 0 ?_ ?_ ?_ ?_
  · repeat' (first | exact sees_nil | refine sees_cons rfl rfl rfl ?_)
  · exact keeps_nil
  · exact ⟨View.le_refl _, Nat.zero_le _, rfl⟩
  rintro j i V' ⟨hV, hi, hj⟩
  conv => whnf
  apply br <;> intro h3 <;> conv => whnf
  · have hi1 : i < l.length := by simpa using h3
    obtain ⟨x, hx⟩ : ∃ x, l[i]? = some x := ⟨_, List.getElem?_eq_getElem hi1⟩
    obtain ⟨p, off, hb, hh⟩ := h.at hx
    subst hb
    refine IdxN.of (by omega) (by omega) ?_
    conv => whnf
    refine LoadN.of (hh.mono (by repeat (first | exact View.le_refl _ | assumption | exact View.addU_le _ _ _ | refine View.le_trans ?_ (by assumption) | refine View.le_trans ?_ (View.addU_le _ _ _)))) 0 rfl rfl ?_
    conv => whnf
    refine CallN.pure (may_spec x _) fun v V1 _ hV1 ⟨r, hv, _⟩ => ?_
    subst hv
    conv => whnf
    apply br <;> intro h4 <;> conv => whnf
    · exact ret_pure ⟨false, rfl, fun h => by cases h⟩
    · refine ⟨j - 1, i + 1, by omega, ?_, keeps_nil, View.le_trans hV hV1, hi1, by omega⟩
      have hw := wrap_big hi1 hlen
      repeat' (first | exact sees_nil | refine sees_cons rfl rfl rfl ?_ | refine sees_cons rfl rfl (by rw [← hw]; rfl) ?_)
  · apply br <;> intro h5 <;> conv => whnf
    · repeat (refine br_t h5 ?_; conv => whnf)
      refine ret_pure ⟨decide ((l.length : Int) ≤ 6), rfl, fun h6 => ?_⟩
      have h5 : 1 ≤ l.length := by have := of_decide_eq_true h5; omega
      have h6 : (l.length : Int) ≤ 6 := by simpa using h6
      omega
    · repeat (refine br_f h5 ?_; conv => whnf)
      exact ret_pure ⟨false, rfl, fun h => by cases h⟩
/-- the columns of EvalCols -/
def itemsC : List Item := [⟨0, txt [116], txt [97]⟩, ⟨0, txt [117], txt [97]⟩, ⟨0, txt [116], txt [98]⟩, ⟨0, txt [117], txt [98]⟩, ⟨0, txt [116], txt [99]⟩, ⟨0, txt [117], txt [99]⟩]
end Go.Proofs.Ytenpginanhnkbaa
end

section
set_option linter.unusedSimpArgs false
set_option linter.unusedVariables false
namespace Go.Proofs.Ytenpginanhnkbaa
open Go.X
set_option maxRecDepth 100000

theorem itemsC_ne : ∀ x ∈ itemsC, x.tb.toList ≠ [] := by
  intro x hx
  simp only [itemsC, List.mem_cons, List.not_mem_nil, or_false] at hx
  rcases hx with rfl | rfl | rfl | rfl | rfl | rfl <;> simp [txt, ByteArray.toList_eq]
def keyC (x : Item) : List UInt8 × List UInt8 := (x.nm.toList, x.tb.toList)
theorem itemsC_nodup : (itemsC.map keyC).Nodup := by
  simp [itemsC, keyC, txt, ByteArray.toList_eq]
theorem names_C (n : Nat) : Names (itemsC.take n) := by
  refine ⟨fun i j x y hx hy h1 h2 => ?_, fun x hx => itemsC_ne x (List.mem_of_mem_take hx)⟩
  have hi : itemsC[i]? = some x := by
    rw [List.getElem?_take] at hx; split at hx
    · exact hx
    · cases hx
  have hj : itemsC[j]? = some y := by
    rw [List.getElem?_take] at hy; split at hy
    · exact hy
    · cases hy
  have e1 : (itemsC.map keyC)[i]? = some (keyC x) := by rw [List.getElem?_map, hi]; rfl
  have e2 : (itemsC.map keyC)[j]? = some (keyC y) := by rw [List.getElem?_map, hj]; rfl
  have e3 : keyC x = keyC y := by unfold keyC; rw [h1, h2]
  rw [e3] at e1
  have hlt := (List.getElem?_eq_some_iff.1 e1).1
  exact (List.getElem?_inj hlt itemsC_nodup).1 (e1.trans e2.symm)
theorem eval_gen (its : List Item) (vals : List Val) (n m p o1 c q o2 d : Nat) (V : View) (hn : its.length = n) (hm : vals.length = m) (hs : its.length ≤ 1000) (hs2 : vals.length ≤ 1000) (hin : ∀ v ∈ vals, InR v.n)
    (h1 : V.has p o1 (its.flatMap icells)) (h2 : V.has q o2 (vals.flatMap vcells)) {e : E} (hok : e.ok) {xe : XC} (hrep : RepE V e xe) :
    PSpec 20 [.slice (some ⟨p, o1, none⟩) n c, .slice (some ⟨q, o2, none⟩) m d, xagg xe] V (fun v _ => v = pairX (evalX (fun tb nm => colAt tb nm its vals) e)) := by
  subst hn; subst hm
  exact Eval_spec _ _ _ _ _ _ _ (fun tb nm => colAt_inR hin) e xe V hok hrep (fun tb nm V' hV => column_spec its vals p q c d o1 o2 tb nm V' (h1.mono hV) (h2.mono hV) (by omega) (by omega))
theorem holds_gen (its : List Item) (vals : List Val) (n m p o1 c q o2 d r o3 g : Nat) (V : View) (hn : its.length = n) (hm : vals.length = m) (hs : its.length ≤ 1000) (hs2 : vals.length ≤ 1000) (hin : ∀ v ∈ vals, InR v.n)
    (h1 : V.has p o1 (its.flatMap icells)) (h2 : V.has q o2 (vals.flatMap vcells)) {e : E} (hok : e.ok) {xe : XC} (hrep : RepE V e xe) (h3 : V.has r o3 (xcells xe)) :
    PSpec 22 [.slice (some ⟨p, o1, none⟩) n c, .slice (some ⟨q, o2, none⟩) m d, .slice (some ⟨r, o3, none⟩) 1 g] V
      (fun v _ => v = .tuple #[.bool (holdsX (evalX (fun tb nm => colAt tb nm its vals) e)).1, .int .i64 (holdsX (evalX (fun tb nm => colAt tb nm its vals) e)).2]) := by
  subst hn; subst hm
  exact holds1_spec _ _ _ _ _ _ r o3 g xe _ V h3 (fun V' hV => eval_spec _ _ _ (fun tb nm => colAt_inR hin) e xe V' hok (hrep.mono hV) (fun tb nm V2 hV2 => column_spec its vals p q c d o1 o2 tb nm V2 ((h1.mono hV).mono hV2) ((h2.mono hV).mono hV2) (by omega) (by omega)))
theorem rem_to {p b k : Int} (h : b ≠ 0) (hk : p.tmod b = k) (x y : Operand) (w : World) : Sem.run Try.prog (do
      eqGuard BinOp.rem 3 x y (.int .i64 p) (.int .i64 b)
      binOp BinOp.rem 3 (.int .i64 p) (.int .i64 b)) w = .ok (.int .i64 k) w := by rw [rem_run x y p b h w, hk]
theorem alone_C {n k : Nat} {x : Item} (hn : n ≤ 6) (h1 : 1 ≤ n) (hk : k = n - 1) (he : k % 2 = 0) (hx : (itemsC.take n)[k]? = some x) : countN x.nm (itemsC.take n) = 1 := by
  have : n = 1 ∨ n = 3 ∨ n = 5 := by omega
  rcases this with rfl | rfl | rfl <;> subst hk
  · have : (⟨0, txt [116], txt [97]⟩ : Item) = x := Option.some.inj (show some _ = some x from hx)
    subst this
    simp [itemsC, countN, txt, ByteArray.toList_eq]
  · have : (⟨0, txt [116], txt [98]⟩ : Item) = x := Option.some.inj (show some _ = some x from hx)
    subst this
    simp [itemsC, countN, txt, ByteArray.toList_eq]
  · have : (⟨0, txt [116], txt [99]⟩ : Item) = x := Option.some.inj (show some _ = some x from hx)
    subst this
    simp [itemsC, countN, txt, ByteArray.toList_eq]
theorem cols_all (l : List Val) (base : Option Addr) (cap : Nat) (a : Int) (V : View) (h : ValsAt V l base) (hin : ∀ x ∈ l, InR x.n) (ha : 0 ≤ a ∧ a ≤ 255) :
    PSpec 7 [.slice base l.length cap, .int .u8 a] V (fun v _ => v = .bool true) := by
  refine does_of_zfun [(9, [(0, []), (2, []), (3, []), (7, []), (8, []), (1, [6]), (4, []), (5, []), (6, []), (9, []), (10, []), (11, []), (12, []), (13, []), (14, [])]), (11, [(0, []), (1, []), (2, []), (3, []), (4, []), (5, []), (6, []), (7, []), (8, []), (9, []), (10, []), (11, []), (12, []), (13, [17]), (14, []), (15, []), (16, []), (17, []), (18, []), (19, [])]), (14, [(0, []), (1, []), (2, []), (3, []), (4, []), (5, []), (6, []), (7, []), (8, []), (9, []), (10, []), (11, []), (12, []), (13, []), (14, []), (15, []), (16, []), (17, []), (18, []), (19, []), (20, []), (21, []), (22, []), (23, []), (24, []), (25, []), (26, [])]), (15, [(0, []), (1, []), (2, []), (3, []), (4, []), (5, []), (6, []), (7, []), (8, []), (9, []), (10, []), (11, []), (12, []), (13, []), (14, []), (15, []), (16, []), (17, []), (18, []), (19, []), (20, []), (21, []), (22, []), (23, []), (24, []), (25, []), (26, []), (27, []), (28, []), (29, []), (30, []), (31, []), (32, []), (33, [])])] mixed (args := [.v _, .v _]) (ms := []) Try.func7 (by kernel_rfl) rfl ?_
  conv => whnf
  refine CallN.pure (begun_spec _) fun v V1 _ hV1 hv => ?_
  subst hv
  conv => whnf
  repeat' first
    | (refine br_t rfl ?_; conv => whnf)
    | (refine br_f rfl ?_; conv => whnf)
    | (refine IdxN.lit rfl rfl ?_; conv => whnf)
    | (intro _; conv => whnf)
  refine CallN.pure (mayrow_spec l base cap _ (h.mono (by repeat (first | exact View.le_refl _ | assumption | exact View.addU_le _ _ _ | refine View.le_trans ?_ (by assumption) | refine View.le_trans ?_ (View.addU_le _ _ _))))) fun v V2 _ hV2 ⟨r, hv, hr⟩ => ?_
  subst hv
  conv => whnf
  apply br <;> intro h3 <;> conv => whnf
  · exact ret_pure rfl
  have h3 : r = true := by simpa using h3
  obtain ⟨hl1, hl2⟩ := hr h3
  refine loopz (σ := Nat × Option Addr × Nat) (fun x => [(0, .v (.slice base l.length cap)), (1, .v (.int .u8 a)), (5, .row 39), (6, .v (.int .i64 x.1))]) (fun x => [(39, .row (.slice x.2.1 x.1 x.2.2) 61 3 x.1)])
    (fun j x V' => V2.le V' ∧ x.1 ≤ l.length ∧ l.length - x.1 = j ∧ V'.cells (.slice x.2.1 x.1 x.2.2) ((itemsC.take x.1).flatMap icells)) l.length (0, none, 0) ?_ ?_ ?_ ?_
  · repeat' (first | exact sees_nil | refine sees_cons rfl rfl rfl ?_)
  · repeat' (first | exact keeps_nil | refine keeps_cons rfl ?_ | refine keeps_free ?_)
  · exact ⟨View.le_refl _, Nat.zero_le _, rfl, rfl⟩
  rintro j ⟨i, cb, cc⟩ V' ⟨hV, hi, hj, hc⟩
  simp only at hi hj hc
  conv => whnf
  apply br <;> intro h4 <;> conv => whnf
  · have hi1 : i < l.length := by have := of_decide_eq_true h4; omega
    have hi6 : i = 0 ∨ i = 1 ∨ i = 2 ∨ i = 3 ∨ i = 4 ∨ i = 5 := by omega
    rcases hi6 with rfl | rfl | rfl | rfl | rfl | rfl
    · repeat' first
        | (refine br_t rfl ?_; conv => whnf)
        | (refine br_f rfl ?_; conv => whnf)
        | (refine IdxN.lit rfl rfl ?_; conv => whnf)
        | (intro _; conv => whnf)
      rename_i b1 lk1
      try (refine IdxN.of (by show (0 : Int) ≤ Int.tmod ((0 : Nat) : Int) 2; decide) (by show Int.tmod ((0 : Nat) : Int) 2 < ((2 : Nat) : Int); decide) ?_; conv => whnf)
      refine LoadN.of lk1.has 0 (by show 0 + (Int.tmod ((0 : Nat) : Int) 2).toNat * 1 = 0 + 0; decide) rfl ?_
      conv => whnf
      repeat' first
        | (refine br_t rfl ?_; conv => whnf)
        | (refine br_f rfl ?_; conv => whnf)
        | (refine IdxN.lit rfl rfl ?_; conv => whnf)
        | (intro _; conv => whnf)
      rename_i b2 lk2
      try (refine IdxN.of (by show (0 : Int) ≤ IntKind.i64.wrap (Int.tdiv ((0 : Nat) : Int) 2); decide) (by show IntKind.i64.wrap (Int.tdiv ((0 : Nat) : Int) 2) < ((3 : Nat) : Int); decide) ?_; conv => whnf)
      refine LoadN.of lk2.has 0 (by show 0 + (IntKind.i64.wrap (Int.tdiv ((0 : Nat) : Int) 2)).toNat * 1 = 0 + 0; decide) rfl ?_
      conv => whnf
      repeat' first
        | (refine br_t rfl ?_; conv => whnf)
        | (refine br_f rfl ?_; conv => whnf)
        | (refine IdxN.lit rfl rfl ?_; conv => whnf)
        | (intro _; conv => whnf)
      rename_i b3 lk3
      refine AppN.to (0 + 1) rfl ((itemsC.take 0).flatMap icells) (icells itemsC[0]) (hc.mono (by repeat (first | exact View.le_refl _ | assumption | exact View.addU_le _ _ _ | refine View.le_trans ?_ (by assumption) | refine View.le_trans ?_ (View.addU_le _ _ _)))) rfl lk3.has rfl rfl (by decide) (by decide) fun base' cap' V3 hV3 hc3 => ?_
      conv => whnf
      refine ⟨j - 1, (0 + 1, base', cap'), by omega, ?_, ?_, ?_⟩
      · repeat' (first | exact sees_nil | refine sees_cons rfl rfl rfl ?_)
      · repeat' (first | exact keeps_nil | refine keeps_cons rfl ?_ | refine keeps_free ?_)
      · exact ⟨View.le_trans hV (by repeat (first | exact View.le_refl _ | assumption | exact View.addU_le _ _ _ | refine View.le_trans ?_ (by assumption) | refine View.le_trans ?_ (View.addU_le _ _ _))), hi1, by show _ - (0 + 1) = _; omega, hc3⟩
    · repeat' first
        | (refine br_t rfl ?_; conv => whnf)
        | (refine br_f rfl ?_; conv => whnf)
        | (refine IdxN.lit rfl rfl ?_; conv => whnf)
        | (intro _; conv => whnf)
      rename_i b1 lk1
      try (refine IdxN.of (by show (0 : Int) ≤ Int.tmod ((1 : Nat) : Int) 2; decide) (by show Int.tmod ((1 : Nat) : Int) 2 < ((2 : Nat) : Int); decide) ?_; conv => whnf)
      refine LoadN.of lk1.has 1 (by show 0 + (Int.tmod ((1 : Nat) : Int) 2).toNat * 1 = 0 + 1; decide) rfl ?_
      conv => whnf
      repeat' first
        | (refine br_t rfl ?_; conv => whnf)
        | (refine br_f rfl ?_; conv => whnf)
        | (refine IdxN.lit rfl rfl ?_; conv => whnf)
        | (intro _; conv => whnf)
      rename_i b2 lk2
      try (refine IdxN.of (by show (0 : Int) ≤ IntKind.i64.wrap (Int.tdiv ((1 : Nat) : Int) 2); decide) (by show IntKind.i64.wrap (Int.tdiv ((1 : Nat) : Int) 2) < ((3 : Nat) : Int); decide) ?_; conv => whnf)
      refine LoadN.of lk2.has 0 (by show 0 + (IntKind.i64.wrap (Int.tdiv ((1 : Nat) : Int) 2)).toNat * 1 = 0 + 0; decide) rfl ?_
      conv => whnf
      repeat' first
        | (refine br_t rfl ?_; conv => whnf)
        | (refine br_f rfl ?_; conv => whnf)
        | (refine IdxN.lit rfl rfl ?_; conv => whnf)
        | (intro _; conv => whnf)
      rename_i b3 lk3
      refine AppN.to (1 + 1) rfl ((itemsC.take 1).flatMap icells) (icells itemsC[1]) (hc.mono (by repeat (first | exact View.le_refl _ | assumption | exact View.addU_le _ _ _ | refine View.le_trans ?_ (by assumption) | refine View.le_trans ?_ (View.addU_le _ _ _)))) rfl lk3.has rfl rfl (by decide) (by decide) fun base' cap' V3 hV3 hc3 => ?_
      conv => whnf
      refine ⟨j - 1, (1 + 1, base', cap'), by omega, ?_, ?_, ?_⟩
      · repeat' (first | exact sees_nil | refine sees_cons rfl rfl rfl ?_)
      · repeat' (first | exact keeps_nil | refine keeps_cons rfl ?_ | refine keeps_free ?_)
      · exact ⟨View.le_trans hV (by repeat (first | exact View.le_refl _ | assumption | exact View.addU_le _ _ _ | refine View.le_trans ?_ (by assumption) | refine View.le_trans ?_ (View.addU_le _ _ _))), hi1, by show _ - (1 + 1) = _; omega, hc3⟩
    · repeat' first
        | (refine br_t rfl ?_; conv => whnf)
        | (refine br_f rfl ?_; conv => whnf)
        | (refine IdxN.lit rfl rfl ?_; conv => whnf)
        | (intro _; conv => whnf)
      rename_i b1 lk1
      try (refine IdxN.of (by show (0 : Int) ≤ Int.tmod ((2 : Nat) : Int) 2; decide) (by show Int.tmod ((2 : Nat) : Int) 2 < ((2 : Nat) : Int); decide) ?_; conv => whnf)
      refine LoadN.of lk1.has 0 (by show 0 + (Int.tmod ((2 : Nat) : Int) 2).toNat * 1 = 0 + 0; decide) rfl ?_
      conv => whnf
      repeat' first
        | (refine br_t rfl ?_; conv => whnf)
        | (refine br_f rfl ?_; conv => whnf)
        | (refine IdxN.lit rfl rfl ?_; conv => whnf)
        | (intro _; conv => whnf)
      rename_i b2 lk2
      try (refine IdxN.of (by show (0 : Int) ≤ IntKind.i64.wrap (Int.tdiv ((2 : Nat) : Int) 2); decide) (by show IntKind.i64.wrap (Int.tdiv ((2 : Nat) : Int) 2) < ((3 : Nat) : Int); decide) ?_; conv => whnf)
      refine LoadN.of lk2.has 1 (by show 0 + (IntKind.i64.wrap (Int.tdiv ((2 : Nat) : Int) 2)).toNat * 1 = 0 + 1; decide) rfl ?_
      conv => whnf
      repeat' first
        | (refine br_t rfl ?_; conv => whnf)
        | (refine br_f rfl ?_; conv => whnf)
        | (refine IdxN.lit rfl rfl ?_; conv => whnf)
        | (intro _; conv => whnf)
      rename_i b3 lk3
      refine AppN.to (2 + 1) rfl ((itemsC.take 2).flatMap icells) (icells itemsC[2]) (hc.mono (by repeat (first | exact View.le_refl _ | assumption | exact View.addU_le _ _ _ | refine View.le_trans ?_ (by assumption) | refine View.le_trans ?_ (View.addU_le _ _ _)))) rfl lk3.has rfl rfl (by decide) (by decide) fun base' cap' V3 hV3 hc3 => ?_
      conv => whnf
      refine ⟨j - 1, (2 + 1, base', cap'), by omega, ?_, ?_, ?_⟩
      · repeat' (first | exact sees_nil | refine sees_cons rfl rfl rfl ?_)
      · repeat' (first | exact keeps_nil | refine keeps_cons rfl ?_ | refine keeps_free ?_)
      · exact ⟨View.le_trans hV (by repeat (first | exact View.le_refl _ | assumption | exact View.addU_le _ _ _ | refine View.le_trans ?_ (by assumption) | refine View.le_trans ?_ (View.addU_le _ _ _))), hi1, by show _ - (2 + 1) = _; omega, hc3⟩
    · repeat' first
        | (refine br_t rfl ?_; conv => whnf)
        | (refine br_f rfl ?_; conv => whnf)
        | (refine IdxN.lit rfl rfl ?_; conv => whnf)
        | (intro _; conv => whnf)
      rename_i b1 lk1
      try (refine IdxN.of (by show (0 : Int) ≤ Int.tmod ((3 : Nat) : Int) 2; decide) (by show Int.tmod ((3 : Nat) : Int) 2 < ((2 : Nat) : Int); decide) ?_; conv => whnf)
      refine LoadN.of lk1.has 1 (by show 0 + (Int.tmod ((3 : Nat) : Int) 2).toNat * 1 = 0 + 1; decide) rfl ?_
      conv => whnf
      repeat' first
        | (refine br_t rfl ?_; conv => whnf)
        | (refine br_f rfl ?_; conv => whnf)
        | (refine IdxN.lit rfl rfl ?_; conv => whnf)
        | (intro _; conv => whnf)
      rename_i b2 lk2
      try (refine IdxN.of (by show (0 : Int) ≤ IntKind.i64.wrap (Int.tdiv ((3 : Nat) : Int) 2); decide) (by show IntKind.i64.wrap (Int.tdiv ((3 : Nat) : Int) 2) < ((3 : Nat) : Int); decide) ?_; conv => whnf)
      refine LoadN.of lk2.has 1 (by show 0 + (IntKind.i64.wrap (Int.tdiv ((3 : Nat) : Int) 2)).toNat * 1 = 0 + 1; decide) rfl ?_
      conv => whnf
      repeat' first
        | (refine br_t rfl ?_; conv => whnf)
        | (refine br_f rfl ?_; conv => whnf)
        | (refine IdxN.lit rfl rfl ?_; conv => whnf)
        | (intro _; conv => whnf)
      rename_i b3 lk3
      refine AppN.to (3 + 1) rfl ((itemsC.take 3).flatMap icells) (icells itemsC[3]) (hc.mono (by repeat (first | exact View.le_refl _ | assumption | exact View.addU_le _ _ _ | refine View.le_trans ?_ (by assumption) | refine View.le_trans ?_ (View.addU_le _ _ _)))) rfl lk3.has rfl rfl (by decide) (by decide) fun base' cap' V3 hV3 hc3 => ?_
      conv => whnf
      refine ⟨j - 1, (3 + 1, base', cap'), by omega, ?_, ?_, ?_⟩
      · repeat' (first | exact sees_nil | refine sees_cons rfl rfl rfl ?_)
      · repeat' (first | exact keeps_nil | refine keeps_cons rfl ?_ | refine keeps_free ?_)
      · exact ⟨View.le_trans hV (by repeat (first | exact View.le_refl _ | assumption | exact View.addU_le _ _ _ | refine View.le_trans ?_ (by assumption) | refine View.le_trans ?_ (View.addU_le _ _ _))), hi1, by show _ - (3 + 1) = _; omega, hc3⟩
    · repeat' first
        | (refine br_t rfl ?_; conv => whnf)
        | (refine br_f rfl ?_; conv => whnf)
        | (refine IdxN.lit rfl rfl ?_; conv => whnf)
        | (intro _; conv => whnf)
      rename_i b1 lk1
      try (refine IdxN.of (by show (0 : Int) ≤ Int.tmod ((4 : Nat) : Int) 2; decide) (by show Int.tmod ((4 : Nat) : Int) 2 < ((2 : Nat) : Int); decide) ?_; conv => whnf)
      refine LoadN.of lk1.has 0 (by show 0 + (Int.tmod ((4 : Nat) : Int) 2).toNat * 1 = 0 + 0; decide) rfl ?_
      conv => whnf
      repeat' first
        | (refine br_t rfl ?_; conv => whnf)
        | (refine br_f rfl ?_; conv => whnf)
        | (refine IdxN.lit rfl rfl ?_; conv => whnf)
        | (intro _; conv => whnf)
      rename_i b2 lk2
      try (refine IdxN.of (by show (0 : Int) ≤ IntKind.i64.wrap (Int.tdiv ((4 : Nat) : Int) 2); decide) (by show IntKind.i64.wrap (Int.tdiv ((4 : Nat) : Int) 2) < ((3 : Nat) : Int); decide) ?_; conv => whnf)
      refine LoadN.of lk2.has 2 (by show 0 + (IntKind.i64.wrap (Int.tdiv ((4 : Nat) : Int) 2)).toNat * 1 = 0 + 2; decide) rfl ?_
      conv => whnf
      repeat' first
        | (refine br_t rfl ?_; conv => whnf)
        | (refine br_f rfl ?_; conv => whnf)
        | (refine IdxN.lit rfl rfl ?_; conv => whnf)
        | (intro _; conv => whnf)
      rename_i b3 lk3
      refine AppN.to (4 + 1) rfl ((itemsC.take 4).flatMap icells) (icells itemsC[4]) (hc.mono (by repeat (first | exact View.le_refl _ | assumption | exact View.addU_le _ _ _ | refine View.le_trans ?_ (by assumption) | refine View.le_trans ?_ (View.addU_le _ _ _)))) rfl lk3.has rfl rfl (by decide) (by decide) fun base' cap' V3 hV3 hc3 => ?_
      conv => whnf
      refine ⟨j - 1, (4 + 1, base', cap'), by omega, ?_, ?_, ?_⟩
      · repeat' (first | exact sees_nil | refine sees_cons rfl rfl rfl ?_)
      · repeat' (first | exact keeps_nil | refine keeps_cons rfl ?_ | refine keeps_free ?_)
      · exact ⟨View.le_trans hV (by repeat (first | exact View.le_refl _ | assumption | exact View.addU_le _ _ _ | refine View.le_trans ?_ (by assumption) | refine View.le_trans ?_ (View.addU_le _ _ _))), hi1, by show _ - (4 + 1) = _; omega, hc3⟩
    · repeat' first
        | (refine br_t rfl ?_; conv => whnf)
        | (refine br_f rfl ?_; conv => whnf)
        | (refine IdxN.lit rfl rfl ?_; conv => whnf)
        | (intro _; conv => whnf)
      rename_i b1 lk1
      try (refine IdxN.of (by show (0 : Int) ≤ Int.tmod ((5 : Nat) : Int) 2; decide) (by show Int.tmod ((5 : Nat) : Int) 2 < ((2 : Nat) : Int); decide) ?_; conv => whnf)
      refine LoadN.of lk1.has 1 (by show 0 + (Int.tmod ((5 : Nat) : Int) 2).toNat * 1 = 0 + 1; decide) rfl ?_
      conv => whnf
      repeat' first
        | (refine br_t rfl ?_; conv => whnf)
        | (refine br_f rfl ?_; conv => whnf)
        | (refine IdxN.lit rfl rfl ?_; conv => whnf)
        | (intro _; conv => whnf)
      rename_i b2 lk2
      try (refine IdxN.of (by show (0 : Int) ≤ IntKind.i64.wrap (Int.tdiv ((5 : Nat) : Int) 2); decide) (by show IntKind.i64.wrap (Int.tdiv ((5 : Nat) : Int) 2) < ((3 : Nat) : Int); decide) ?_; conv => whnf)
      refine LoadN.of lk2.has 2 (by show 0 + (IntKind.i64.wrap (Int.tdiv ((5 : Nat) : Int) 2)).toNat * 1 = 0 + 2; decide) rfl ?_
      conv => whnf
      repeat' first
        | (refine br_t rfl ?_; conv => whnf)
        | (refine br_f rfl ?_; conv => whnf)
        | (refine IdxN.lit rfl rfl ?_; conv => whnf)
        | (intro _; conv => whnf)
      rename_i b3 lk3
      refine AppN.to (5 + 1) rfl ((itemsC.take 5).flatMap icells) (icells itemsC[5]) (hc.mono (by repeat (first | exact View.le_refl _ | assumption | exact View.addU_le _ _ _ | refine View.le_trans ?_ (by assumption) | refine View.le_trans ?_ (View.addU_le _ _ _)))) rfl lk3.has rfl rfl (by decide) (by decide) fun base' cap' V3 hV3 hc3 => ?_
      conv => whnf
      refine ⟨j - 1, (5 + 1, base', cap'), by omega, ?_, ?_, ?_⟩
      · repeat' (first | exact sees_nil | refine sees_cons rfl rfl rfl ?_)
      · repeat' (first | exact keeps_nil | refine keeps_cons rfl ?_ | refine keeps_free ?_)
      · exact ⟨View.le_trans hV (by repeat (first | exact View.le_refl _ | assumption | exact View.addU_le _ _ _ | refine View.le_trans ?_ (by assumption) | refine View.le_trans ?_ (View.addU_le _ _ _))), hi1, by show _ - (5 + 1) = _; omega, hc3⟩
  · have hi1 : i = l.length := by have := of_decide_eq_false h4; omega
    subst hi1
    obtain ⟨p5, o5, rfl, hc5⟩ := cells_some hc (by
      intro e
      have := congrArg List.length e
      rw [flat_len (f := icells) (n := 3) (fun _ => rfl), List.length_take] at this
      simp [itemsC] at this
      omega)
    have hpos : (l.length : Int) ≠ 0 := by omega
    have hwa : IntKind.i64.wrap a = a := by rw [wrapE]; omega
    have hk0 : 0 ≤ (IntKind.i64.wrap a).tmod (l.length : Int) := Int.tmod_nonneg _ (by rw [hwa]; exact ha.1)
    have hk1 : (IntKind.i64.wrap a).tmod (l.length : Int) < l.length := Int.tmod_lt_of_pos _ (by omega)
    obtain ⟨k, hk⟩ := Int.eq_ofNat_of_zero_le hk0
    refine ⟨⟨_, rem_to hpos hk _ _, ?_⟩⟩
    conv => whnf
    have hkl : k < l.length := by omega
    have hlen : (itemsC.take l.length).length = l.length := by rw [List.length_take]; simp [itemsC]; omega
    obtain ⟨x, hx⟩ : ∃ x, (itemsC.take l.length)[k]? = some x := ⟨_, List.getElem?_eq_getElem (by omega)⟩
    obtain ⟨y, hy⟩ : ∃ y, l[k]? = some y := ⟨_, List.getElem?_eq_getElem hkl⟩
    have hcx := has_flat (n := 3) (fun _ => rfl) (itemsC.take l.length) o5 hc5 k x hx
    obtain ⟨q, o2, hb⟩ : ∃ q o2, base = some ⟨q, o2, none⟩ := by
      obtain ⟨q, o2, hb, _⟩ := h.at hy
      exact ⟨q, o2, hb⟩
    subst hb
    have hvals : V.has q o2 (l.flatMap vcells) := by
      obtain ⟨q', o', hb, hh⟩ := h.has (fun e => by rw [e] at hl1; simp at hl1)
      simp only [Option.some.injEq, Addr.mk.injEq] at hb
      obtain ⟨rfl, rfl, _⟩ := hb
      exact hh
    have hvk := has_flat (n := 3) (fun _ => rfl) l o2 hvals k y hy
    refine IdxN.of (by omega) (by omega) ?_
    conv => whnf
    refine LoadN.of (hcx.mono (by repeat (first | exact View.le_refl _ | assumption | exact View.addU_le _ _ _ | refine View.le_trans ?_ (by assumption) | refine View.le_trans ?_ (View.addU_le _ _ _)))) 1 rfl rfl ?_
    conv => whnf
    try (refine IdxN.of (by omega) (by omega) ?_; conv => whnf)
    refine LoadN.of (hcx.mono (by repeat (first | exact View.le_refl _ | assumption | exact View.addU_le _ _ _ | refine View.le_trans ?_ (by assumption) | refine View.le_trans ?_ (View.addU_le _ _ _)))) 2 rfl rfl ?_
    conv => whnf
    repeat' first
      | (refine br_t rfl ?_; conv => whnf)
      | (refine br_f rfl ?_; conv => whnf)
      | (refine IdxN.lit rfl rfl ?_; conv => whnf)
      | (intro _; conv => whnf)
    have one : OneHit (itemsC.take l.length) x.tb x.nm k := oneHit_of (names_C _) hx (.inr rfl)
    have hcol : colAt x.tb x.nm (itemsC.take l.length) l = (y, 0) := colAt_one one hy
    refine CallN.pure (eval_gen (itemsC.take l.length) l l.length l.length p5 o5 _ q o2 _ _ hlen rfl (by omega) (by omega) hin (hc5.mono (by repeat (first | exact View.le_refl _ | assumption | exact View.addU_le _ _ _ | refine View.le_trans ?_ (by assumption) | refine View.le_trans ?_ (View.addU_le _ _ _)))) (hvals.mono (by repeat (first | exact View.le_refl _ | assumption | exact View.addU_le _ _ _ | refine View.le_trans ?_ (by assumption) | refine View.le_trans ?_ (View.addU_le _ _ _)))) (e := .col x.tb x.nm) trivial (xe := colN x.tb x.nm) ⟨rfl, rfl, rfl⟩) fun v V3 _ hV3 hv => ?_
    rw [evalX, hcol] at hv
    subst hv
    conv => whnf
    repeat' first
      | (refine br_t rfl ?_; conv => whnf)
      | (refine br_f rfl ?_; conv => whnf)
      | (refine IdxN.lit rfl rfl ?_; conv => whnf)
      | (intro _; conv => whnf)
    refine Prot.refl ?_
    conv => whnf
    repeat' first
      | (refine br_t rfl ?_; conv => whnf)
      | (refine br_f rfl ?_; conv => whnf)
      | (refine IdxN.lit rfl rfl ?_; conv => whnf)
      | (intro _; conv => whnf)
    have hal : k = l.length - 1 → k % 2 = 0 → colAt noText x.nm (itemsC.take l.length) l = (y, 0) := fun h1 h2 => colAt_one (oneHit_of (names_C _) hx (.inl ⟨rfl, alone_C hl2 hl1 h1 h2 hx⟩)) hy
    have hw1 : IntKind.i64.wrap ((l.length : Int) - 1) = ((l.length - 1 : Nat) : Int) := by rw [wrapE]; omega
    apply br <;> intro g1 <;> conv => whnf
    · repeat (refine br_t g1 ?_; conv => whnf)
      try (refine IdxN.of (by omega) (by omega) ?_; conv => whnf)
      refine LoadN.of (hcx.mono (by repeat (first | exact View.le_refl _ | assumption | exact View.addU_le _ _ _ | refine View.le_trans ?_ (by assumption) | refine View.le_trans ?_ (View.addU_le _ _ _)))) 2 rfl rfl ?_
      conv => whnf
      refine CallN.pure (eval_gen (itemsC.take l.length) l l.length l.length p5 o5 _ q o2 _ _ hlen rfl (by omega) (by omega) hin (hc5.mono (by repeat (first | exact View.le_refl _ | assumption | exact View.addU_le _ _ _ | refine View.le_trans ?_ (by assumption) | refine View.le_trans ?_ (View.addU_le _ _ _)))) (hvals.mono (by repeat (first | exact View.le_refl _ | assumption | exact View.addU_le _ _ _ | refine View.le_trans ?_ (by assumption) | refine View.le_trans ?_ (View.addU_le _ _ _)))) (e := .col noText x.nm) trivial (xe := colN noText x.nm) ⟨rfl, rfl, rfl⟩) fun v V4 _ hV4 hv => ?_
      rw [evalX] at hv
      subst hv
      conv => whnf
      repeat' first
        | (refine br_t rfl ?_; conv => whnf)
        | (refine br_f rfl ?_; conv => whnf)
        | (refine IdxN.lit rfl rfl ?_; conv => whnf)
        | (intro _; conv => whnf)
      repeat (first | (refine IdxN.of (by omega) (by omega) ?_; conv => whnf) | (refine LoadN.of (hcx.mono (by repeat (first | exact View.le_refl _ | assumption | exact View.addU_le _ _ _ | refine View.le_trans ?_ (by assumption) | refine View.le_trans ?_ (View.addU_le _ _ _)))) 1 rfl rfl ?_; conv => whnf) | (refine LoadN.of (hcx.mono (by repeat (first | exact View.le_refl _ | assumption | exact View.addU_le _ _ _ | refine View.le_trans ?_ (by assumption) | refine View.le_trans ?_ (View.addU_le _ _ _)))) 2 rfl rfl ?_; conv => whnf) | (refine LoadN.of (hvk.mono (by repeat (first | exact View.le_refl _ | assumption | exact View.addU_le _ _ _ | refine View.le_trans ?_ (by assumption) | refine View.le_trans ?_ (View.addU_le _ _ _)))) 0 rfl rfl ?_; conv => whnf))
      repeat' first
        | (refine br_t rfl ?_; conv => whnf)
        | (refine br_f rfl ?_; conv => whnf)
        | (refine IdxN.lit rfl rfl ?_; conv => whnf)
        | (intro _; conv => whnf)
      rename_i b1 lk1 b2 lk2
      have hl1' := lk1.has
      have hl2' := lk2.has
      refine CallN.pure (holds_gen (itemsC.take l.length) l l.length l.length p5 o5 _ q o2 _ b2 0 _ _ hlen rfl (by omega) (by omega) hin (hc5.mono (by repeat (first | exact View.le_refl _ | assumption | exact View.addU_le _ _ _ | refine View.le_trans ?_ (by assumption) | refine View.le_trans ?_ (View.addU_le _ _ _)))) (hvals.mono (by repeat (first | exact View.le_refl _ | assumption | exact View.addU_le _ _ _ | refine View.le_trans ?_ (by assumption) | refine View.le_trans ?_ (View.addU_le _ _ _)))) (e := .bin 8 (.col x.tb x.nm) (.lit y)) ⟨trivial, hin y (List.mem_of_getElem? hy)⟩
        (xe := ⟨8, v0, noText, noText, some ⟨b1, 0, none⟩, 2, 2⟩) ⟨rfl, by decide, rfl, b1, 0, colN x.tb x.nm, litX y, rfl, (hl1'.mono (by repeat (first | exact View.le_refl _ | assumption | exact View.addU_le _ _ _ | refine View.le_trans ?_ (by assumption) | refine View.le_trans ?_ (View.addU_le _ _ _)))), ⟨rfl, rfl, rfl⟩, ⟨rfl, rfl⟩⟩ hl2') fun v V5 _ hV5 hv => ?_
      have hev : evalX (fun tb nm => colAt tb nm (itemsC.take l.length) l) (.bin 8 (.col x.tb x.nm) (.lit y)) = (truthV true, 0) := by
        rw [evalX, if_neg (by decide), evalX, evalX, hcol]
        show binX 8 y y = _
        have hcc : cmpV y y = 0 := by unfold cmpV; rw [cmpI_self, cmpI_self, cmpS_self]; rfl
        show (truthV (cmpV y y == 0), (0 : Int)) = _
        rw [hcc]; rfl
      rw [hev] at hv
      subst hv
      refine Prot.refl ?_
      conv => whnf
      repeat' first
        | (refine br_t rfl ?_; conv => whnf)
        | (refine br_f rfl ?_; conv => whnf)
        | (refine IdxN.lit rfl rfl ?_; conv => whnf)
        | (intro _; conv => whnf)
      have es : sameV y y = true := sameV_self y
      generalize colAt noText x.nm (itemsC.take l.length) l = C at hal ⊢
      have g1' : k = l.length - 1 := by
        have := beq_iff_eq.1 g1
        rw [hw1] at this
        omega
      by_cases hk2 : k % 2 = 0
      · have hC := hal g1' hk2
        subst hC
        have ek : ((k : Int).tmod 2 == 0) = true := by rw [Int.tmod_eq_emod_of_nonneg (by omega), beq_iff_eq]; omega
        have ek' : (!((k : Int).tmod 2 == 0)) = false := by rw [ek]; rfl
        repeat (first | (refine IdxN.of (by omega) (by omega) ?_; conv => whnf) | (refine LoadN.of (hvk.mono (by repeat (first | exact View.le_refl _ | assumption | exact View.addU_le _ _ _ | refine View.le_trans ?_ (by assumption) | refine View.le_trans ?_ (View.addU_le _ _ _)))) 0 rfl rfl ?_; conv => whnf) | (refine ⟨⟨_, eqv_run _ _ _ _, ?_⟩⟩; conv => whnf) | (refine br_t es ?_; conv => whnf) | (refine br_t rfl ?_; conv => whnf) | (refine br_f rfl ?_; conv => whnf) | (refine (br_f ek') ?_; conv => whnf))
        exact ret_pure rfl
      · have ek : ((k : Int).tmod 2 == 0) = false := by rw [Int.tmod_eq_emod_of_nonneg (by omega), beq_eq_false_iff_ne]; omega
        have ek' : (!((k : Int).tmod 2 == 0)) = true := by rw [ek]; rfl
        repeat (first | (refine IdxN.of (by omega) (by omega) ?_; conv => whnf) | (refine LoadN.of (hvk.mono (by repeat (first | exact View.le_refl _ | assumption | exact View.addU_le _ _ _ | refine View.le_trans ?_ (by assumption) | refine View.le_trans ?_ (View.addU_le _ _ _)))) 0 rfl rfl ?_; conv => whnf) | (refine ⟨⟨_, eqv_run _ _ _ _, ?_⟩⟩; conv => whnf) | (refine br_t es ?_; conv => whnf) | (refine br_t rfl ?_; conv => whnf) | (refine br_f rfl ?_; conv => whnf) | (refine (br_t ek') ?_; conv => whnf))
        exact ret_pure rfl
    · repeat (refine br_f g1 ?_; conv => whnf)
      try (refine IdxN.of (by omega) (by omega) ?_; conv => whnf)
      refine LoadN.of (hcx.mono (by repeat (first | exact View.le_refl _ | assumption | exact View.addU_le _ _ _ | refine View.le_trans ?_ (by assumption) | refine View.le_trans ?_ (View.addU_le _ _ _)))) 2 rfl rfl ?_
      conv => whnf
      refine CallN.pure (eval_gen (itemsC.take l.length) l l.length l.length p5 o5 _ q o2 _ _ hlen rfl (by omega) (by omega) hin (hc5.mono (by repeat (first | exact View.le_refl _ | assumption | exact View.addU_le _ _ _ | refine View.le_trans ?_ (by assumption) | refine View.le_trans ?_ (View.addU_le _ _ _)))) (hvals.mono (by repeat (first | exact View.le_refl _ | assumption | exact View.addU_le _ _ _ | refine View.le_trans ?_ (by assumption) | refine View.le_trans ?_ (View.addU_le _ _ _)))) (e := .col noText x.nm) trivial (xe := colN noText x.nm) ⟨rfl, rfl, rfl⟩) fun v V4 _ hV4 hv => ?_
      rw [evalX] at hv
      subst hv
      conv => whnf
      repeat' first
        | (refine br_t rfl ?_; conv => whnf)
        | (refine br_f rfl ?_; conv => whnf)
        | (refine IdxN.lit rfl rfl ?_; conv => whnf)
        | (intro _; conv => whnf)
      repeat (first | (refine IdxN.of (by omega) (by omega) ?_; conv => whnf) | (refine LoadN.of (hcx.mono (by repeat (first | exact View.le_refl _ | assumption | exact View.addU_le _ _ _ | refine View.le_trans ?_ (by assumption) | refine View.le_trans ?_ (View.addU_le _ _ _)))) 1 rfl rfl ?_; conv => whnf) | (refine LoadN.of (hcx.mono (by repeat (first | exact View.le_refl _ | assumption | exact View.addU_le _ _ _ | refine View.le_trans ?_ (by assumption) | refine View.le_trans ?_ (View.addU_le _ _ _)))) 2 rfl rfl ?_; conv => whnf) | (refine LoadN.of (hvk.mono (by repeat (first | exact View.le_refl _ | assumption | exact View.addU_le _ _ _ | refine View.le_trans ?_ (by assumption) | refine View.le_trans ?_ (View.addU_le _ _ _)))) 0 rfl rfl ?_; conv => whnf))
      repeat' first
        | (refine br_t rfl ?_; conv => whnf)
        | (refine br_f rfl ?_; conv => whnf)
        | (refine IdxN.lit rfl rfl ?_; conv => whnf)
        | (intro _; conv => whnf)
      rename_i b1 lk1 b2 lk2
      have hl1' := lk1.has
      have hl2' := lk2.has
      refine CallN.pure (holds_gen (itemsC.take l.length) l l.length l.length p5 o5 _ q o2 _ b2 0 _ _ hlen rfl (by omega) (by omega) hin (hc5.mono (by repeat (first | exact View.le_refl _ | assumption | exact View.addU_le _ _ _ | refine View.le_trans ?_ (by assumption) | refine View.le_trans ?_ (View.addU_le _ _ _)))) (hvals.mono (by repeat (first | exact View.le_refl _ | assumption | exact View.addU_le _ _ _ | refine View.le_trans ?_ (by assumption) | refine View.le_trans ?_ (View.addU_le _ _ _)))) (e := .bin 8 (.col x.tb x.nm) (.lit y)) ⟨trivial, hin y (List.mem_of_getElem? hy)⟩
        (xe := ⟨8, v0, noText, noText, some ⟨b1, 0, none⟩, 2, 2⟩) ⟨rfl, by decide, rfl, b1, 0, colN x.tb x.nm, litX y, rfl, (hl1'.mono (by repeat (first | exact View.le_refl _ | assumption | exact View.addU_le _ _ _ | refine View.le_trans ?_ (by assumption) | refine View.le_trans ?_ (View.addU_le _ _ _)))), ⟨rfl, rfl, rfl⟩, ⟨rfl, rfl⟩⟩ hl2') fun v V5 _ hV5 hv => ?_
      have hev : evalX (fun tb nm => colAt tb nm (itemsC.take l.length) l) (.bin 8 (.col x.tb x.nm) (.lit y)) = (truthV true, 0) := by
        rw [evalX, if_neg (by decide), evalX, evalX, hcol]
        show binX 8 y y = _
        have hcc : cmpV y y = 0 := by unfold cmpV; rw [cmpI_self, cmpI_self, cmpS_self]; rfl
        show (truthV (cmpV y y == 0), (0 : Int)) = _
        rw [hcc]; rfl
      rw [hev] at hv
      subst hv
      refine Prot.refl ?_
      conv => whnf
      repeat' first
        | (refine br_t rfl ?_; conv => whnf)
        | (refine br_f rfl ?_; conv => whnf)
        | (refine IdxN.lit rfl rfl ?_; conv => whnf)
        | (intro _; conv => whnf)
      have es : sameV y y = true := sameV_self y
      generalize colAt noText x.nm (itemsC.take l.length) l = C at hal ⊢
      repeat (first | (refine IdxN.of (by omega) (by omega) ?_; conv => whnf) | (refine LoadN.of (hvk.mono (by repeat (first | exact View.le_refl _ | assumption | exact View.addU_le _ _ _ | refine View.le_trans ?_ (by assumption) | refine View.le_trans ?_ (View.addU_le _ _ _)))) 0 rfl rfl ?_; conv => whnf) | (refine ⟨⟨_, eqv_run _ _ _ _, ?_⟩⟩; conv => whnf) | (refine br_t es ?_; conv => whnf) | (refine br_t rfl ?_; conv => whnf) | (refine br_f rfl ?_; conv => whnf) | (refine (br_t es) ?_; conv => whnf))
      exact ret_pure rfl
end Go.Proofs.Ytenpginanhnkbaa
end

section
set_option linter.unusedSimpArgs false
set_option linter.unusedVariables false
namespace Go.Proofs.Ytenpginanhnkbaa
open Go.X Go.ChangeShapes Go.WideShapes Go.RowKit
set_option maxRecDepth 100000

/-! ## values, rows, as arguments -/
structure FitV (x : Val) : Prop where
  k : InR x.k
  n : InR x.n
  t : x.t.size ≤ maxLen
variable {H : Type} {enc : TypeId × Value → H} {w : World} {base : Nat} {sp : Nat → Bool} {held : Bool}
theorem cellsOf_v : Try.prog.cellsOf 38 = 3 := by kernel_rfl
theorem cellsOf_3 : Try.prog.cellsOf 3 = 1 := by kernel_rfl
theorem cellsOf_2 : Try.prog.cellsOf 2 = 1 := by kernel_rfl
theorem cellsOf_9 : Try.prog.cellsOf 9 = 1 := by kernel_rfl
/-- a value's cells -/
theorem open_vcells {fuel : Nat} {cs : List Value} {y : DataW H × List MemPlace} (h : DataW.trod enc Try.prog w base sp held fuel 38 cs = some y) : ∃ x : Val, cs = vcells x ∧ FitV x := by
  obtain ⟨xs, n, rfl, _, hl, hx, hf⟩ := DataW.trod_struct Try.underlying38 h
  rw [cellsOf_v] at hl
  have hx : xs.length = 3 := hx
  obtain ⟨c0, c1, c2, rfl⟩ : ∃ c0 c1 c2, cs = [c0, c1, c2] := by
    match cs, hl with
    | [a, b, c], _ => exact ⟨a, b, c, rfl⟩
  obtain ⟨y0, y1, y2, rfl⟩ : ∃ a b c, xs = [a, b, c] := by
    match xs, hx with
    | [a, b, c], _ => exact ⟨a, b, c, rfl⟩
  have h0 : DataW.trod enc Try.prog w base sp held n 3 (([c0, c1, c2].drop 0).take (Try.prog.cellsOf 3)) = some y0 := hf 0 _ rfl
  have h1 : DataW.trod enc Try.prog w base sp held n 2 (([c0, c1, c2].drop 1).take (Try.prog.cellsOf 2)) = some y1 := hf 1 _ rfl
  have h2 : DataW.trod enc Try.prog w base sp held n 9 (([c0, c1, c2].drop 2).take (Try.prog.cellsOf 9)) = some y2 := hf 2 _ rfl
  rw [cellsOf_3] at h0
  rw [cellsOf_2] at h1
  rw [cellsOf_9] at h2
  obtain ⟨k, hk, _, wk⟩ := DataW.trod_int Try.underlying3 h0
  obtain ⟨m, hm, _, wm⟩ := DataW.trod_int Try.underlying2 h1
  obtain ⟨s, hs, _, ws⟩ := DataW.trod_string Try.underlying9 h2
  simp only [List.drop_zero, List.take_succ_cons, List.take_zero, List.drop_succ_cons, List.cons.injEq, and_true] at hk hm hs
  subst hk; subst hm; subst hs
  exact ⟨⟨k, m, s⟩, rfl, in_i64 wk, in_i64 wm, ws⟩
theorem exists_list {α : Type} {P : Nat → α → Prop} : ∀ (n : Nat), (∀ i, i < n → ∃ x, P i x) → ∃ l : List α, l.length = n ∧ ∀ (i : Nat) (x : α), l[i]? = some x → P i x
  | 0, _ => ⟨[], rfl, fun i x h => by simp at h⟩
  | n + 1, h => by
    obtain ⟨l, hl, hp⟩ := exists_list n (fun i hi => h i (by omega))
    obtain ⟨x, hx⟩ := h n (by omega)
    refine ⟨l ++ [x], by simp [hl], fun i y hi => ?_⟩
    by_cases hin : i < n
    · rw [List.getElem?_append_left (by omega)] at hi
      exact hp i y hi
    · rw [List.getElem?_append_right (by omega)] at hi
      have : i - l.length = 0 := by
        cases hd : i - l.length with
        | zero => rfl
        | succ d => rw [hd] at hi; simp at hi
      rw [this] at hi
      simp only [List.getElem?_cons_zero, Option.some.injEq] at hi
      subst hi
      have : i = n := by omega
      rw [this]; exact hx
theorem has_of_each {V : View} {p off : Nat} {l : List Val} (h : ∀ (i : Nat) (x : Val), l[i]? = some x → V.has p (off + i * 3) (vcells x)) : V.has p off (l.flatMap vcells) := by
  intro j v hj
  have : ∀ (l : List Val) (off : Nat), (∀ (i : Nat) (x : Val), l[i]? = some x → V.has p (off + i * 3) (vcells x)) → V.has p off (l.flatMap vcells) := fun l => by
    induction l with
    | nil => intro off _ j v hj; simp at hj
    | cons x l ih =>
      intro off h j v hj
      rw [List.flatMap_cons] at hj
      by_cases hj3 : j < 3
      · rw [List.getElem?_append_left (show j < (vcells x).length from hj3)] at hj
        have := h 0 x rfl j v hj
        simpa using this
      · rw [List.getElem?_append_right (show (vcells x).length ≤ j from by show 3 ≤ j; omega)] at hj
        have := ih (off + 3) (fun i y hy => by
          have := h (i + 1) y (by simpa using hy)
          rw [show off + (i + 1) * 3 = off + 3 + i * 3 from by omega] at this
          exact this) (j - 3) v hj
        rw [show off + 3 + (j - 3) = off + j from by omega] at this
        exact this
  exact this l off h j v hj
theorem none_spot {a : Addr} {v : Value} (h : w.cell? a = some v) : ∃ b o, a = ⟨b, o, none⟩ := by
  obtain ⟨b, off, spot⟩ := a
  cases spot with
  | none => exact ⟨b, off, rfl⟩
  | some s =>
    simp only [World.cell?] at h
    split at h
    · simp at h
    · cases h
/-- a list of values -/
theorem open_vlist {fuel : Nat} {cs : List Value} {y : DataW H × List MemPlace} (h : DataW.trod enc Try.prog w 0 sp held fuel 45 cs = some y) :
    ∃ (b : Option Addr) (cap : Nat) (l : List Val), cs = [.slice b l.length cap] ∧ ValsAt (entryV w) l b ∧ ∀ x ∈ l, FitV x := by
  rcases DataW.trod_slice Try.underlying45 h with ⟨h1, _⟩ | ⟨a, len, cap, elems, rest, n, _, h1, _, _, hlc, hcm, hel, heach, _, _⟩
  · exact ⟨none, 0, [], h1, ⟨fun h => absurd rfl h, Nat.zero_le _⟩, fun x hx => by cases hx⟩
  · obtain ⟨l, hl, hp⟩ := exists_list (P := fun i x => w.cells? 0 (a.add (i * 3)) 3 = some (vcells x) ∧ FitV x) len (fun i hi => by
      have he := heach i hi
      rw [cellsOf_v] at he
      obtain ⟨z, hz⟩ : ∃ z, elems[i]? = some z := ⟨_, List.getElem?_eq_getElem (by omega)⟩
      rw [hz, Option.bind_eq_some_iff] at he
      obtain ⟨cs', hc, ht⟩ := he
      obtain ⟨x, rfl, hx⟩ := open_vcells ht
      exact ⟨x, hc, hx⟩)
    have hcell : ∀ (i : Nat) (x : Val), l[i]? = some x → ∀ (j : Nat) (v : Value), (vcells x)[j]? = some v → w.cell? ((a.add (i * 3)).add j) = some v := fun i x hx j v hj => by
      obtain ⟨_, hlen, hall⟩ := World.cells?_some (hp i x hx).1
      have := hall j (by have := (List.getElem?_eq_some_iff.1 hj).1; exact this)
      rw [this]; exact hj
    have hmax : maxLen = 9223372036854775807 := by decide
    have hlen : l.length ≤ 9223372036854775807 := by rw [hl]; omega
    refine ⟨some a, cap, l, by rw [hl]; exact h1, ⟨fun hne => ?_, hlen⟩, fun x hx => ?_⟩
    · obtain ⟨x, l', rfl⟩ := List.exists_cons_of_ne_nil hne
      obtain ⟨b, o, ha⟩ := none_spot (hcell 0 x rfl 0 _ rfl)
      have ha : a = ⟨b, o, none⟩ := by simpa [Addr.add] using ha
      subst ha
      refine ⟨b, o, rfl, has_of_each fun i y hy j v hj => ?_⟩
      have := hcell i y hy j v hj
      rw [add_lit, add_lit] at this
      exact this
    · obtain ⟨i, hi⟩ := List.mem_iff_getElem?.1 hx
      exact (hp i x hi).2
theorem open_vals {r : Reach} {b0 : Nat} {v : Value} {d : DataW H} {ps : List MemPlace} (hval : Value.okWide Try.prog w r b0 45 v) (h : DataW.Trod enc Try.prog w 0 (fun _ => true) true 45 v d ps) :
    ∃ (b : Option Addr) (cap : Nat) (l : List Val), v = .slice b l.length cap ∧ ValsAt (entryV w) l b ∧ ∀ x ∈ l, FitV x := by
  obtain ⟨fuel, h⟩ := h
  obtain ⟨b, cap, l, h1, h2, h3⟩ := open_vlist h
  refine ⟨b, cap, l, ?_, h2, h3⟩
  obtain ⟨a, n, cp, rfl⟩ := okWide_slice Try.underlying45 hval
  simpa [Value.cells] using h1
end Go.Proofs.Ytenpginanhnkbaa
end
