/- One part of a proof: an evaluator of the model, shown right, and contracts that it yields. No condition beyond those that each theorem names. -/
import Derived.Test.YtenpginanhnkbaaGreatCE
section
set_option linter.unusedSimpArgs false
set_option linter.unusedVariables false
namespace Go.Proofs.YtenpginanhnkbaaGreat
open Go.X
set_option maxRecDepth 100000
theorem srt_le {α : Type} {lt : α → α → Bool} (hw : Weak2 lt) {l : List α} (h : Srt lt l) (i j : Nat) (x y : α) (hij : i ≤ j) (hx : l[i]? = some x) (hy : l[j]? = some y) : lt y x = false := by
 rcases Nat.lt_or_ge i j with h1 | h1
 ·exact srt_lt h i j x y h1 hx hy
 ·obtain rfl : i = j := by omega
  rw [hx] at hy; cases hy; exact hw.irr x
section
variable {α : Type} (vals : α → Value) (hh : ∀ i, Hd (vals i)) (cf : α → α → Int)
def SymAt (p1 p2 : Value) (blk len cap : Nat) (ty : TypeId) (X Y : List α) (P S : List Value) (V : View) : Prop :=
 Does Tryz.prog 96 [.slice (some ⟨blk, 0, none⟩) len cap, .int .i64 P.length, .int .i64 (P.length + X.length : Nat), .int .i64 (P.length + X.length + Y.length : Nat), .func (.func 63) #[] #[p1, p2]] V [.box blk ty (P ++ (X.map vals ++ (Y.map vals ++ S)))]
   (fun v V' bs => v = .tuple #[] ∧ bs = [.box blk ty (P ++ ((mrg (ltC cf) X Y).map vals ++ S))])
set_option maxHeartbeats 4000000 in
include hh in
theorem sym3_spec (hw : Weak2 (ltC cf)) (p1 p2 : Value) (blk len cap : Nat) (ty : TypeId) (P S : List Value) (X Y : List α) (V : View)
    (hcmp : ∀ i j V', V.le V' → PSpec 63 [vals i, vals j, p1, p2] V' (fun v _ => v = .int .i64 (cf i j)))
    (ih : ∀ X' Y' P' S' V', V.le V' → X'.length + Y'.length < X.length + Y.length → 0 < X'.length → 0 < Y'.length → Srt (ltC cf) X' → Srt (ltC cf) Y' → P'.length + X'.length + Y'.length ≤ len → SymAt vals cf p1 p2 blk len cap ty X' Y' P' S' V')
    (hX : Srt (ltC cf) X) (hY : Srt (ltC cf) Y) (hX0 : 2 ≤ X.length) (hY0 : 2 ≤ Y.length) (hlen : P.length + X.length + Y.length ≤ len) (hl : len ≤ 100000) : SymAt vals cf p1 p2 blk len cap ty X Y P S V := by
  unfold SymAt
  generalize ha : P.length = a at *
  generalize hm : a + X.length = m at *
  generalize hb : m + Y.length = b at *
  have hmd := midI (i := a) (j := b) (by omega)
  generalize hmid : (a + b) / 2 = mid at *
  refine does_of_zfun [(5, [(1000, [0, 1, 2, 3, 5, 6, 7, 4, 8, 9, 10])]), (11, [(1000, [0, 1, 2, 3, 4, 5, 6, 7, 8, 10, 11, 12, 9, 13, 14, 15, 16, 17])]), (17, [(1000, [0, 1, 2, 3, 5, 6, 7, 4, 8, 9, 10, 11])]), (23, [(1000, [0, 1, 2, 3, 4, 5, 6, 7, 8, 10, 11, 12, 9, 13, 14, 15, 16, 17])]), (35, [(1000, [0, 1, 2, 3, 4, 5, 7, 8, 9, 6, 10, 11, 12, 13])])] mixed (args := [.v _, .v _, .v _, .v _, .v _]) (ms := [(70, .box blk ty (P ++ (X.map vals ++ (Y.map vals ++ S))))]) Tryz.func96 (by kernel_rfl) rfl ?_; conv => whnf
  refine br_f (by show (IntKind.i64.wrap ((m : Int) - (a : Int)) == 1) = false; rw [wrapE]; simp; omega) ?_; conv => whnf
  refine br_f (by show (IntKind.i64.wrap ((b : Int) - (m : Int)) == 1) = false; rw [wrapE]; simp; omega) ?_; conv => whnf
  repeat' ((first | refine br_t rfl ?_ | refine br_f rfl ?_ | refine IdxN.lit rfl rfl ?_ | intro _); conv => whnf)
  have hgX : ∀ (t : Nat) (x : α), X[t]? = some x → (P ++ (X.map vals ++ (Y.map vals ++ S)))[a + t]? = some (vals x) := fun t x hx => by
    have hlt := (List.getElem?_eq_some_iff.1 hx).1
    rw [List.getElem?_append_right (by omega), List.getElem?_append_left (by simp; omega), List.getElem?_map, show a + t - P.length = t by omega, hx]; rfl
  have hgY : ∀ (t : Nat) (y : α), Y[t]? = some y → (P ++ (X.map vals ++ (Y.map vals ++ S)))[m + t]? = some (vals y) := fun t y hy => by
    have hlt := (List.getElem?_eq_some_iff.1 hy).1
    rw [List.getElem?_append_right (by omega), List.getElem?_append_right (by simp; omega), List.getElem?_append_left (by simp; omega), List.getElem?_map, show m + t - P.length - (X.map vals).length = t by simp; omega, hy]; rfl
  generalize hL0 : P ++ (X.map vals ++ (Y.map vals ++ S)) = L0 at hgX hgY
  have hn0 : IntKind.i64.wrap ((mid : Int) + (m : Int)) = ((mid + m : Nat) : Int) := by rw [wrapE]; omega
  apply br <;> intro g1 <;> conv => whnf
  · have g1 : mid < m := by
      have : (m : Int) > (mid : Int) := by have := of_decide_eq_true g1; rw [← hmd]; exact this
      omega
    repeat' ((first | refine br_t rfl ?_ | refine br_f rfl ?_ | refine IdxN.lit rfl rfl ?_ | intro _); conv => whnf)
    obtain ⟨s0, hs0⟩ : ∃ s0, s0 = mid + m - b := ⟨_, rfl⟩
    obtain ⟨r0, hr0⟩ : ∃ r0, r0 = mid := ⟨_, rfl⟩
    have q1 : a ≤ s0 := by omega
    have q2 : s0 ≤ r0 := by omega
    have q3 : r0 ≤ m ∧ r0 ≤ mid ∧ mid + m ≤ s0 + b := by omega
    have q4 : s0 = a ∨ s0 + b = mid + m := by omega
    have q5 : r0 = m ∨ r0 = mid := by omega
    have hn1 : IntKind.i64.wrap ((IntKind.i64.wrap ((IntKind.u64.wrap (IntKind.i64.wrap ((a : Int) + (b : Int)))).fdiv 2)) + (m : Int)) = ((mid + m : Nat) : Int) := by rw [hmd]; exact hn0
    have hs1 : IntKind.i64.wrap (IntKind.i64.wrap (IntKind.i64.wrap ((IntKind.u64.wrap (IntKind.i64.wrap ((a : Int) + (b : Int)))).fdiv 2) + (m : Int)) - (b : Int)) = (s0 : Int) := by rw [hn1, wrapE]; omega
    have hp1 : IntKind.i64.wrap (IntKind.i64.wrap (IntKind.i64.wrap ((IntKind.u64.wrap (IntKind.i64.wrap ((a : Int) + (b : Int)))).fdiv 2) + (m : Int)) - 1) = ((mid + m - 1 : Nat) : Int) := by rw [hn1, wrapE]; omega
    have hr1 : IntKind.i64.wrap ((IntKind.u64.wrap (IntKind.i64.wrap ((a : Int) + (b : Int)))).fdiv 2) = (r0 : Int) := by rw [hr0]; exact hmd
    refine loopz (σ := Nat × Nat) (fun s => [(0, .v (.slice (some ⟨blk, 0, none⟩) len cap)), (1, .v (.int .i64 a)), (2, .v (.int .i64 m)), (3, .v (.int .i64 b)), (4, .v (.func (.func 63) #[] #[p1, p2])), (18, .v (.int .i64 mid)), (19, .v (.int .i64 (mid + m : Nat))), (20, .v (.int .i64 s.1)), (21, .v (.int .i64 s.2)), (22, .v (.int .i64 (mid + m - 1 : Nat)))]) (fun s => [(70, .box blk ty L0)])
      (fun k s V' => V.le V' ∧ s.2 - s.1 = k ∧ s0 ≤ s.1 ∧ s.1 ≤ s.2 ∧ s.2 ≤ r0 ∧ (∀ c x y, s0 ≤ c → c < s.1 → X[c - a]? = some x → Y[mid - 1 - c]? = some y → ltC cf y x = false) ∧ (∀ c x y, s.2 ≤ c → c < r0 → X[c - a]? = some x → Y[mid - 1 - c]? = some y → ltC cf y x = true)) (r0 - s0) (s0, r0) ?_ ?_ ?_ ?_
    · repeat' (first | exact sees_nil | refine sees_cons rfl rfl rfl ?_ | refine sees_cons rfl rfl (congrArg some (int_eq hmd.symm)) ?_ | refine sees_cons rfl rfl (congrArg some (int_eq hn1.symm)) ?_ | refine sees_cons rfl rfl (congrArg some (int_eq hs1.symm)) ?_ | refine sees_cons rfl rfl (congrArg some (int_eq hr1.symm)) ?_ | refine sees_cons rfl rfl (congrArg some (int_eq hp1.symm)) ?_)
    · exact keeps_cons rfl keeps_nil
    · exact ⟨le_auto, rfl, Nat.le_refl _, q2, Nat.le_refl _, fun c x y h1 h2 => absurd (show s0 ≤ c from h1) (by have h2 : c < s0 := h2; omega), fun c x y h1 h2 => absurd (show r0 ≤ c from h1) (by omega)⟩
    rintro k ⟨st, r⟩ V' ⟨hV, hk, hs, hsr, hr, hF1, hF2⟩
    replace hk : r - st = k := hk
    replace hs : s0 ≤ st := hs
    replace hsr : st ≤ r := hsr
    replace hr : r ≤ r0 := hr
    replace hF1 : ∀ c x y, s0 ≤ c → c < st → X[c - a]? = some x → Y[mid - 1 - c]? = some y → ltC cf y x = false := hF1
    replace hF2 : ∀ c x y, r ≤ c → c < r0 → X[c - a]? = some x → Y[mid - 1 - c]? = some y → ltC cf y x = true := hF2
    conv => whnf
    apply br <;> intro h1 <;> conv => whnf
    · have h1 : st < r := by have : (st : Int) < (r : Int) := of_decide_eq_true h1
                             omega
      have hmd2 := midI (i := st) (j := r) (by omega)
      generalize hh2 : (st + r) / 2 = h at hmd2
      obtain ⟨x, hx⟩ : ∃ x, X[h - a]? = some x := ⟨_, List.getElem?_eq_getElem (by omega)⟩
      obtain ⟨y, hy⟩ : ∃ y, Y[mid - 1 - h]? = some y := ⟨_, List.getElem?_eq_getElem (by omega)⟩
      have hxL := hgX _ x hx
      rw [show a + (h - a) = h by omega] at hxL
      have hyL := hgY _ y hy
      rw [show m + (mid - 1 - h) = mid + m - 1 - h by omega] at hyL
      refine IdxN.nat (mid + m - 1 - h) (by show IntKind.i64.wrap (((mid + m - 1 : Nat) : Int) - IntKind.i64.wrap ((IntKind.u64.wrap (IntKind.i64.wrap ((st : Int) + (r : Int)))).fdiv 2)) = _; rw [hmd2, wrapE]; omega) (by omega) ?_; conv => whnf
      refine IdxN.nat h hmd2 (by omega) ?_; conv => whnf
      refine LoadN.own 70 rfl (l := [vals y]) (leI hyL) (getI hyL) ?_; conv => whnf
      refine LoadN.own 70 rfl (l := [vals x]) (leI hxL) (getI hxL) ?_; conv => whnf
      refine CallN.pure (hcmp y x _ le_auto) fun v V2 _ hV2 hv => ?_
      subst hv; conv => whnf
      apply br <;> intro h2 <;> conv => whnf
      · repeat' ((first | refine br_t rfl ?_ | refine br_f rfl ?_ | refine IdxN.lit rfl rfl ?_ | intro _); conv => whnf)
        have hlt : ltC cf y x = false := by simpa using h2
        refine ⟨r - (h + 1), (h + 1, r), by omega, ?_, keeps_cons rfl keeps_nil, le_auto, rfl, by show s0 ≤ h + 1; omega, by show h + 1 ≤ r; omega, hr, fun c x' y' hc1 hc2 hx' hy' => ?_, hF2⟩
        · repeat' (first | exact sees_nil | refine sees_cons rfl rfl rfl ?_ | refine sees_cons rfl rfl (by show some (Value.int .i64 (h + 1 : Nat)) = some (Value.int .i64 (IntKind.i64.wrap (IntKind.i64.wrap ((IntKind.u64.wrap (IntKind.i64.wrap ((st : Int) + (r : Int)))).fdiv 2) + 1))); rw [hmd2, wrapE]; exact congrArg some (int_eq (by omega))) ?_)
        · have hc2 : c < h + 1 := hc2
          by_cases hkk : c = h
          · subst hkk; rw [hx] at hx'; rw [hy] at hy'; exact (Option.some.inj hx') ▸ (Option.some.inj hy') ▸ hlt
          · have e1 := srt_lt hX (c - a) (h - a) x' x (by omega) hx' hx
            have e2 := srt_lt hY (mid - 1 - h) (mid - 1 - c) y y' (by omega) hy hy'
            exact hw.ntrans _ _ _ (hw.ntrans _ _ _ e2 hlt) e1
      · repeat' ((first | refine br_t rfl ?_ | refine br_f rfl ?_ | refine IdxN.lit rfl rfl ?_ | intro _); conv => whnf)
        have hlt : ltC cf y x = true := by simpa using h2
        refine ⟨h - st, (st, h), by omega, ?_, keeps_cons rfl keeps_nil, le_auto, rfl, hs, by show st ≤ h; omega, by show h ≤ r0; omega, hF1, fun c x' y' hc1 hc2 hx' hy' => ?_⟩
        · repeat' (first | exact sees_nil | refine sees_cons rfl rfl rfl ?_ | refine sees_cons rfl rfl (by show some (Value.int .i64 (h : Nat)) = some (Value.int .i64 (IntKind.i64.wrap ((IntKind.u64.wrap (IntKind.i64.wrap ((st : Int) + (r : Int)))).fdiv 2))); rw [hmd2]) ?_)
        · have hc1 : h ≤ c := hc1
          by_cases hkk : c = h
          · subst hkk; rw [hx] at hx'; rw [hy] at hy'; exact (Option.some.inj hx') ▸ (Option.some.inj hy') ▸ hlt
          · have e1 := srt_lt hX (h - a) (c - a) x x' (by omega) hx hx'
            have e2 := srt_lt hY (mid - 1 - c) (mid - 1 - h) y' y (by omega) hy' hy
            cases hc : ltC cf y' x' with
            | true => rfl
            | false => have := hw.ntrans _ _ _ (hw.ntrans _ _ _ e2 hc) e1; rw [hlt] at this; cases this
    · have h1 : st = r := by have : ¬ (st : Int) < (r : Int) := of_decide_eq_false h1
                             omega
      subst h1
      have he : IntKind.i64.wrap (((mid + m : Nat) : Int) - (st : Int)) = ((mid + m - st : Nat) : Int) := by rw [wrapE]; omega
      have hc1 : ∀ (u v : Nat) (y x : α), u < mid - st → st - a ≤ v → Y[u]? = some y → X[v]? = some x → ltC cf y x = true := fun u v y x hu hv hy hx => by
        have u1 := (List.getElem?_eq_some_iff.1 hy).1
        have v1 := (List.getElem?_eq_some_iff.1 hx).1
        rcases Nat.lt_or_ge st r0 with h | h
        · obtain ⟨xf, hxf⟩ : ∃ x, X[st - a]? = some x := ⟨_, List.getElem?_eq_getElem (by omega)⟩
          obtain ⟨yl, hyl⟩ : ∃ y, Y[mid - 1 - st]? = some y := ⟨_, List.getElem?_eq_getElem (by omega)⟩
          have e0 := hF2 st xf yl (Nat.le_refl _) h hxf hyl
          have e1 := srt_le hw hX (st - a) v xf x hv hxf hx
          have e2 := srt_le hw hY u (mid - 1 - st) y yl (by omega) hy hyl
          cases hc : ltC cf y x with
          | true => rfl
          | false => have := hw.ntrans _ _ _ (hw.ntrans _ _ _ e2 hc) e1; rw [e0] at this; cases this
        · omega
      have hc2 : ∀ (u v : Nat) (x y : α), u < st - a → mid - st ≤ v → X[u]? = some x → Y[v]? = some y → ltC cf y x = false := fun u v x y hu hv hx hy => by
        have u1 := (List.getElem?_eq_some_iff.1 hx).1
        have v1 := (List.getElem?_eq_some_iff.1 hy).1
        rcases Nat.lt_or_ge s0 st with h | h
        · obtain ⟨xl, hxl⟩ : ∃ x, X[st - 1 - a]? = some x := ⟨_, List.getElem?_eq_getElem (by omega)⟩
          obtain ⟨yf, hyf⟩ : ∃ y, Y[mid - 1 - (st - 1)]? = some y := ⟨_, List.getElem?_eq_getElem (by omega)⟩
          have e0 := hF1 (st - 1) xl yf (by omega) (by omega) hxl hyf
          have e1 := srt_le hw hX u (st - 1 - a) x xl (by omega) hx hxl
          have e2 := srt_le hw hY (mid - 1 - (st - 1)) v yf y (by omega) hyf hy
          exact hw.ntrans _ _ _ (hw.ntrans _ _ _ e2 e0) e1
        · omega
      have hst : a ≤ st ∧ st ≤ m ∧ st ≤ mid ∧ mid + m ≤ st + b := by omega
      obtain ⟨X1, X2, eX, lX1⟩ : ∃ X1 X2, X = X1 ++ X2 ∧ X1.length = st - a := ⟨X.take (st - a), X.drop (st - a), (List.take_append_drop _ _).symm, by rw [List.length_take]; omega⟩
      obtain ⟨Y1, Y2, eY, lY1⟩ : ∃ Y1 Y2, Y = Y1 ++ Y2 ∧ Y1.length = mid - st := ⟨Y.take (mid - st), Y.drop (mid - st), (List.take_append_drop _ _).symm, by rw [List.length_take]; omega⟩
      have lX2 : X2.length = m - st := by have := congrArg List.length eX; rw [List.length_append] at this; omega
      have lY2 : Y2.length = b - (mid + m - st) := by have := congrArg List.length eY; rw [List.length_append] at this; omega
      obtain ⟨sX1, sX2, _⟩ := srt_app (eX ▸ hX)
      obtain ⟨sY1, sY2, _⟩ := srt_app (eY ▸ hY)
      have hsp : mrg (ltC cf) X Y = mrg (ltC cf) X1 Y1 ++ mrg (ltC cf) X2 Y2 := by
        rw [eX, eY]
        refine mrg_split X1 Y1 X2 Y2 (fun y hy x hx => ?_) (fun x hx y hy => ?_)
        · obtain ⟨u, hu⟩ := List.mem_iff_getElem?.1 hy
          obtain ⟨v, hv⟩ := List.mem_iff_getElem?.1 hx
          have := (List.getElem?_eq_some_iff.1 hu).1
          exact hc1 u (st - a + v) y x (by omega) (by omega) (by rw [eY, List.getElem?_append_left (by omega)]; exact hu) (by rw [eX, List.getElem?_append_right (by omega), show st - a + v - X1.length = v by omega]; exact hv)
        · obtain ⟨u, hu⟩ := List.mem_iff_getElem?.1 hx
          obtain ⟨v, hv⟩ := List.mem_iff_getElem?.1 hy
          have := (List.getElem?_eq_some_iff.1 hu).1
          exact hc2 u (mid - st + v) x y (by omega) (by omega) (by rw [eX, List.getElem?_append_left (by omega)]; exact hu) (by rw [eY, List.getElem?_append_right (by omega), show mid - st + v - Y1.length = v by omega]; exact hv)
      have hfin : P ++ ((mrg (ltC cf) X Y).map vals ++ S) = P ++ ((mrg (ltC cf) X1 Y1).map vals ++ ((mrg (ltC cf) X2 Y2).map vals ++ S)) := by rw [hsp, List.map_append, List.append_assoc]
      have hLs : L0 = P ++ (X1.map vals ++ (X2.map vals ++ (Y1.map vals ++ (Y2.map vals ++ S)))) := by rw [← hL0, eX, eY, List.map_append, List.map_append, List.append_assoc, List.append_assoc]
      rw [hfin]
      generalize hM1 : mrg (ltC cf) X1 Y1 = M1 at *
      have lM1 : M1.length = X1.length + Y1.length := by rw [← hM1, mrg_len]
      generalize hM2 : mrg (ltC cf) X2 Y2 = M2 at *
      have hd : ∀ (l : List α), ∀ v ∈ l.map vals, Hd v := fun l v hv => by obtain ⟨i, _, rfl⟩ := List.mem_map.1 hv; exact hh i
      repeat' ((first | refine br_t rfl ?_ | refine br_f rfl ?_ | refine IdxN.lit rfl rfl ?_ | intro _); conv => whnf)
      apply br <;> intro c1 <;> conv => whnf
      · have c1 : st < m := by have : (st : Int) < (m : Int) := of_decide_eq_true c1
                               omega
        apply br <;> intro c2 <;> conv => whnf
        · have c2 : st < mid := by have : (m : Int) < IntKind.i64.wrap (((mid + m : Nat) : Int) - (st : Int)) := of_decide_eq_true c2
                                   rw [he] at this; omega
          have key := rotate_spec blk len cap ty (.func (.func 63) #[] #[p1, p2]) (P ++ X1.map vals) (X2.map vals) (Y1.map vals) (Y2.map vals ++ S) V' (hd _) (hd _) (by rw [List.length_map]; omega) (by rw [List.length_map]; omega) (by simp only [List.length_append, List.length_map]; omega) hl
          simp only [List.append_assoc] at key
          rw [← hLs] at key
          refine CallN.eq (args5 (b' := .int .i64 (P ++ X1.map vals).length) (c' := .int .i64 ((P ++ X1.map vals).length + (X2.map vals).length : Nat)) (d' := .int .i64 ((P ++ X1.map vals).length + (X2.map vals).length + (Y1.map vals).length : Nat)) (int_eq (by show ((st : Nat) : Int) = _; simp only [List.length_append, List.length_map]; omega)) (int_eq (by show ((m : Nat) : Int) = _; simp only [List.length_append, List.length_map]; omega)) (int_eq (by show IntKind.i64.wrap (((mid + m : Nat) : Int) - (st : Int)) = _; rw [he]; simp only [List.length_append, List.length_map]; omega))) ?_
          refine CallN.box 70 rfl key fun v V5 bs hV5 ⟨hv, hb2⟩ => ⟨ty, _, hb2, ?_⟩
          subst hv
          generalize hLA : P ++ (X1.map vals ++ (Y1.map vals ++ (X2.map vals ++ (Y2.map vals ++ S)))) = LA
          conv => whnf
          repeat' ((first | refine br_t rfl ?_ | refine br_f rfl ?_ | refine IdxN.lit rfl rfl ?_ | intro _); conv => whnf)
          apply br <;> intro d1 <;> conv => whnf
          · have d1 : a < st := by have : (a : Int) < (st : Int) := of_decide_eq_true d1
                                   omega
            apply br <;> intro d2 <;> conv => whnf
            · have d2 : st < mid := by have : (st : Int) < (mid : Int) := of_decide_eq_true d2
                                       omega
              have key := ih X1 Y1 P (X2.map vals ++ (Y2.map vals ++ S)) V5 le_auto (by rw [eX, eY, List.length_append, List.length_append]; omega) (by omega) (by omega) sX1 sY1 (by omega)
              unfold SymAt at key
              rw [hM1, hLA] at key
              refine CallN.eq (args5 (b' := .int .i64 P.length) (c' := .int .i64 (P.length + X1.length : Nat)) (d' := .int .i64 (P.length + X1.length + Y1.length : Nat)) (int_eq (by show ((a : Nat) : Int) = _; omega)) (int_eq (by show ((st : Nat) : Int) = _; omega)) (int_eq (by show ((mid : Nat) : Int) = _; omega))) ?_
              refine CallN.box 70 rfl key fun v V6 bs hV6 ⟨hv, hb3⟩ => ⟨ty, _, hb3, ?_⟩
              subst hv
              generalize hLB : P ++ (M1.map vals ++ (X2.map vals ++ (Y2.map vals ++ S))) = LB
              conv => whnf
              repeat' ((first | refine br_t rfl ?_ | refine br_f rfl ?_ | refine IdxN.lit rfl rfl ?_ | intro _); conv => whnf)
              apply br <;> intro e1 <;> conv => whnf
              · have e1 : st < m := by have : (mid : Int) < IntKind.i64.wrap (((mid + m : Nat) : Int) - (st : Int)) := of_decide_eq_true e1
                                       rw [he] at this; omega
                apply br <;> intro e2 <;> conv => whnf
                · have e2 : mid + m - st < b := by have : IntKind.i64.wrap (((mid + m : Nat) : Int) - (st : Int)) < (b : Int) := of_decide_eq_true e2
                                                   rw [he] at this; omega
                  have key := ih X2 Y2 (P ++ M1.map vals) S V6 le_auto (by rw [eX, eY, List.length_append, List.length_append]; omega) (by omega) (by omega) sX2 sY2 (by rw [List.length_append, List.length_map]; omega)
                  unfold SymAt at key
                  simp only [List.append_assoc] at key
                  rw [hM2, hLB] at key
                  refine CallN.eq (args5 (b' := .int .i64 (P ++ M1.map vals).length) (c' := .int .i64 ((P ++ M1.map vals).length + X2.length : Nat)) (d' := .int .i64 ((P ++ M1.map vals).length + X2.length + Y2.length : Nat)) (int_eq (by show ((mid : Nat) : Int) = _; rw [List.length_append, List.length_map]; omega)) (int_eq (by show IntKind.i64.wrap (((mid + m : Nat) : Int) - (st : Int)) = _; rw [he, List.length_append, List.length_map]; omega)) (int_eq (by show ((b : Nat) : Int) = _; rw [List.length_append, List.length_map]; omega))) ?_
                  refine CallN.box 70 rfl key fun v V7 bs hV7 ⟨hv, hb3⟩ => ⟨ty, _, hb3, ?_⟩
                  subst hv; conv => whnf
                  repeat' ((first | refine br_t rfl ?_ | refine br_f rfl ?_ | refine IdxN.lit rfl rfl ?_ | intro _); conv => whnf)
                  exact ⟨[70], by simp, [_], rfl, rfl, rfl⟩
                · have e2 : Y2 = [] := List.eq_nil_of_length_eq_zero (by have : ¬ IntKind.i64.wrap (((mid + m : Nat) : Int) - (st : Int)) < (b : Int) := of_decide_eq_false e2
                                                                         rw [he] at this; omega)
                  have eM : M2 = X2 ++ Y2 := by rw [← hM2, e2, mrg_nil, List.append_nil]
                  repeat' ((first | refine br_t rfl ?_ | refine br_f rfl ?_ | refine IdxN.lit rfl rfl ?_ | intro _); conv => whnf)
                  refine ⟨[70], by simp, [_], rfl, rfl, ?_⟩
                  rw [← hLB, eM, List.map_append, List.append_assoc]
              · have e1 : X2 = [] := List.eq_nil_of_length_eq_zero (by have : ¬ (mid : Int) < IntKind.i64.wrap (((mid + m : Nat) : Int) - (st : Int)) := of_decide_eq_false e1
                                                                       rw [he] at this; omega)
                have eM : M2 = X2 ++ Y2 := by rw [← hM2, e1, mrg, List.nil_append]
                repeat' ((first | refine br_t rfl ?_ | refine br_f rfl ?_ | refine IdxN.lit rfl rfl ?_ | intro _); conv => whnf)
                refine ⟨[70], by simp, [_], rfl, rfl, ?_⟩
                rw [← hLB, eM, List.map_append, List.append_assoc]
            · have d2 : Y1 = [] := List.eq_nil_of_length_eq_zero (by have : ¬ (st : Int) < (mid : Int) := of_decide_eq_false d2
                                                                     omega)
              have eM : M1 = X1 ++ Y1 := by rw [← hM1, d2, mrg_nil, List.append_nil]
              have hLB : P ++ (M1.map vals ++ (X2.map vals ++ (Y2.map vals ++ S))) = LA := by rw [← hLA, eM, List.map_append, List.append_assoc]
              repeat' ((first | refine br_t rfl ?_ | refine br_f rfl ?_ | refine IdxN.lit rfl rfl ?_ | intro _); conv => whnf)
              apply br <;> intro e1 <;> conv => whnf
              · have e1 : st < m := by have : (mid : Int) < IntKind.i64.wrap (((mid + m : Nat) : Int) - (st : Int)) := of_decide_eq_true e1
                                       rw [he] at this; omega
                apply br <;> intro e2 <;> conv => whnf
                · have e2 : mid + m - st < b := by have : IntKind.i64.wrap (((mid + m : Nat) : Int) - (st : Int)) < (b : Int) := of_decide_eq_true e2
                                                   rw [he] at this; omega
                  have key := ih X2 Y2 (P ++ M1.map vals) S V5 le_auto (by rw [eX, eY, List.length_append, List.length_append]; omega) (by omega) (by omega) sX2 sY2 (by rw [List.length_append, List.length_map]; omega)
                  unfold SymAt at key
                  simp only [List.append_assoc] at key
                  rw [hM2, hLB] at key
                  refine CallN.eq (args5 (b' := .int .i64 (P ++ M1.map vals).length) (c' := .int .i64 ((P ++ M1.map vals).length + X2.length : Nat)) (d' := .int .i64 ((P ++ M1.map vals).length + X2.length + Y2.length : Nat)) (int_eq (by show ((mid : Nat) : Int) = _; rw [List.length_append, List.length_map]; omega)) (int_eq (by show IntKind.i64.wrap (((mid + m : Nat) : Int) - (st : Int)) = _; rw [he, List.length_append, List.length_map]; omega)) (int_eq (by show ((b : Nat) : Int) = _; rw [List.length_append, List.length_map]; omega))) ?_
                  refine CallN.box 70 rfl key fun v V7 bs hV7 ⟨hv, hb3⟩ => ⟨ty, _, hb3, ?_⟩
                  subst hv; conv => whnf
                  repeat' ((first | refine br_t rfl ?_ | refine br_f rfl ?_ | refine IdxN.lit rfl rfl ?_ | intro _); conv => whnf)
                  exact ⟨[70], by simp, [_], rfl, rfl, rfl⟩
                · have e2 : Y2 = [] := List.eq_nil_of_length_eq_zero (by have : ¬ IntKind.i64.wrap (((mid + m : Nat) : Int) - (st : Int)) < (b : Int) := of_decide_eq_false e2
                                                                         rw [he] at this; omega)
                  have eM : M2 = X2 ++ Y2 := by rw [← hM2, e2, mrg_nil, List.append_nil]
                  repeat' ((first | refine br_t rfl ?_ | refine br_f rfl ?_ | refine IdxN.lit rfl rfl ?_ | intro _); conv => whnf)
                  refine ⟨[70], by simp, [_], rfl, rfl, ?_⟩
                  rw [← hLB, eM, List.map_append, List.append_assoc]
              · have e1 : X2 = [] := List.eq_nil_of_length_eq_zero (by have : ¬ (mid : Int) < IntKind.i64.wrap (((mid + m : Nat) : Int) - (st : Int)) := of_decide_eq_false e1
                                                                       rw [he] at this; omega)
                have eM : M2 = X2 ++ Y2 := by rw [← hM2, e1, mrg, List.nil_append]
                repeat' ((first | refine br_t rfl ?_ | refine br_f rfl ?_ | refine IdxN.lit rfl rfl ?_ | intro _); conv => whnf)
                refine ⟨[70], by simp, [_], rfl, rfl, ?_⟩
                rw [← hLB, eM, List.map_append, List.append_assoc]
          · have d1 : X1 = [] := List.eq_nil_of_length_eq_zero (by have : ¬ (a : Int) < (st : Int) := of_decide_eq_false d1
                                                                   omega)
            have eM : M1 = X1 ++ Y1 := by rw [← hM1, d1, mrg, List.nil_append]
            have hLB : P ++ (M1.map vals ++ (X2.map vals ++ (Y2.map vals ++ S))) = LA := by rw [← hLA, eM, List.map_append, List.append_assoc]
            repeat' ((first | refine br_t rfl ?_ | refine br_f rfl ?_ | refine IdxN.lit rfl rfl ?_ | intro _); conv => whnf)
            apply br <;> intro e1 <;> conv => whnf
            · have e1 : st < m := by have : (mid : Int) < IntKind.i64.wrap (((mid + m : Nat) : Int) - (st : Int)) := of_decide_eq_true e1
                                     rw [he] at this; omega
              apply br <;> intro e2 <;> conv => whnf
              · have e2 : mid + m - st < b := by have : IntKind.i64.wrap (((mid + m : Nat) : Int) - (st : Int)) < (b : Int) := of_decide_eq_true e2
                                                 rw [he] at this; omega
                have key := ih X2 Y2 (P ++ M1.map vals) S V5 le_auto (by rw [eX, eY, List.length_append, List.length_append]; omega) (by omega) (by omega) sX2 sY2 (by rw [List.length_append, List.length_map]; omega)
                unfold SymAt at key
                simp only [List.append_assoc] at key
                rw [hM2, hLB] at key
                refine CallN.eq (args5 (b' := .int .i64 (P ++ M1.map vals).length) (c' := .int .i64 ((P ++ M1.map vals).length + X2.length : Nat)) (d' := .int .i64 ((P ++ M1.map vals).length + X2.length + Y2.length : Nat)) (int_eq (by show ((mid : Nat) : Int) = _; rw [List.length_append, List.length_map]; omega)) (int_eq (by show IntKind.i64.wrap (((mid + m : Nat) : Int) - (st : Int)) = _; rw [he, List.length_append, List.length_map]; omega)) (int_eq (by show ((b : Nat) : Int) = _; rw [List.length_append, List.length_map]; omega))) ?_
                refine CallN.box 70 rfl key fun v V7 bs hV7 ⟨hv, hb3⟩ => ⟨ty, _, hb3, ?_⟩
                subst hv; conv => whnf
                repeat' ((first | refine br_t rfl ?_ | refine br_f rfl ?_ | refine IdxN.lit rfl rfl ?_ | intro _); conv => whnf)
                exact ⟨[70], by simp, [_], rfl, rfl, rfl⟩
              · have e2 : Y2 = [] := List.eq_nil_of_length_eq_zero (by have : ¬ IntKind.i64.wrap (((mid + m : Nat) : Int) - (st : Int)) < (b : Int) := of_decide_eq_false e2
                                                                       rw [he] at this; omega)
                have eM : M2 = X2 ++ Y2 := by rw [← hM2, e2, mrg_nil, List.append_nil]
                repeat' ((first | refine br_t rfl ?_ | refine br_f rfl ?_ | refine IdxN.lit rfl rfl ?_ | intro _); conv => whnf)
                refine ⟨[70], by simp, [_], rfl, rfl, ?_⟩
                rw [← hLB, eM, List.map_append, List.append_assoc]
            · have e1 : X2 = [] := List.eq_nil_of_length_eq_zero (by have : ¬ (mid : Int) < IntKind.i64.wrap (((mid + m : Nat) : Int) - (st : Int)) := of_decide_eq_false e1
                                                                     rw [he] at this; omega)
              have eM : M2 = X2 ++ Y2 := by rw [← hM2, e1, mrg, List.nil_append]
              repeat' ((first | refine br_t rfl ?_ | refine br_f rfl ?_ | refine IdxN.lit rfl rfl ?_ | intro _); conv => whnf)
              refine ⟨[70], by simp, [_], rfl, rfl, ?_⟩
              rw [← hLB, eM, List.map_append, List.append_assoc]
        · have c2 : Y1 = [] := List.eq_nil_of_length_eq_zero (by have : ¬ (m : Int) < IntKind.i64.wrap (((mid + m : Nat) : Int) - (st : Int)) := of_decide_eq_false c2
                                                                 rw [he] at this; omega)
          have hLA : P ++ (X1.map vals ++ (Y1.map vals ++ (X2.map vals ++ (Y2.map vals ++ S)))) = L0 := by rw [hLs, c2]; rfl
          repeat' ((first | refine br_t rfl ?_ | refine br_f rfl ?_ | refine IdxN.lit rfl rfl ?_ | intro _); conv => whnf)
          apply br <;> intro d1 <;> conv => whnf
          · have d1 : a < st := by have : (a : Int) < (st : Int) := of_decide_eq_true d1
                                   omega
            apply br <;> intro d2 <;> conv => whnf
            · have d2 : st < mid := by have : (st : Int) < (mid : Int) := of_decide_eq_true d2
                                       omega
              have key := ih X1 Y1 P (X2.map vals ++ (Y2.map vals ++ S)) V' le_auto (by rw [eX, eY, List.length_append, List.length_append]; omega) (by omega) (by omega) sX1 sY1 (by omega)
              unfold SymAt at key
              rw [hM1, hLA] at key
              refine CallN.eq (args5 (b' := .int .i64 P.length) (c' := .int .i64 (P.length + X1.length : Nat)) (d' := .int .i64 (P.length + X1.length + Y1.length : Nat)) (int_eq (by show ((a : Nat) : Int) = _; omega)) (int_eq (by show ((st : Nat) : Int) = _; omega)) (int_eq (by show ((mid : Nat) : Int) = _; omega))) ?_
              refine CallN.box 70 rfl key fun v V6 bs hV6 ⟨hv, hb3⟩ => ⟨ty, _, hb3, ?_⟩
              subst hv
              generalize hLB : P ++ (M1.map vals ++ (X2.map vals ++ (Y2.map vals ++ S))) = LB
              conv => whnf
              repeat' ((first | refine br_t rfl ?_ | refine br_f rfl ?_ | refine IdxN.lit rfl rfl ?_ | intro _); conv => whnf)
              apply br <;> intro e1 <;> conv => whnf
              · have e1 : st < m := by have : (mid : Int) < IntKind.i64.wrap (((mid + m : Nat) : Int) - (st : Int)) := of_decide_eq_true e1
                                       rw [he] at this; omega
                apply br <;> intro e2 <;> conv => whnf
                · have e2 : mid + m - st < b := by have : IntKind.i64.wrap (((mid + m : Nat) : Int) - (st : Int)) < (b : Int) := of_decide_eq_true e2
                                                   rw [he] at this; omega
                  have key := ih X2 Y2 (P ++ M1.map vals) S V6 le_auto (by rw [eX, eY, List.length_append, List.length_append]; omega) (by omega) (by omega) sX2 sY2 (by rw [List.length_append, List.length_map]; omega)
                  unfold SymAt at key
                  simp only [List.append_assoc] at key
                  rw [hM2, hLB] at key
                  refine CallN.eq (args5 (b' := .int .i64 (P ++ M1.map vals).length) (c' := .int .i64 ((P ++ M1.map vals).length + X2.length : Nat)) (d' := .int .i64 ((P ++ M1.map vals).length + X2.length + Y2.length : Nat)) (int_eq (by show ((mid : Nat) : Int) = _; rw [List.length_append, List.length_map]; omega)) (int_eq (by show IntKind.i64.wrap (((mid + m : Nat) : Int) - (st : Int)) = _; rw [he, List.length_append, List.length_map]; omega)) (int_eq (by show ((b : Nat) : Int) = _; rw [List.length_append, List.length_map]; omega))) ?_
                  refine CallN.box 70 rfl key fun v V7 bs hV7 ⟨hv, hb3⟩ => ⟨ty, _, hb3, ?_⟩
                  subst hv; conv => whnf
                  repeat' ((first | refine br_t rfl ?_ | refine br_f rfl ?_ | refine IdxN.lit rfl rfl ?_ | intro _); conv => whnf)
                  exact ⟨[70], by simp, [_], rfl, rfl, rfl⟩
                · have e2 : Y2 = [] := List.eq_nil_of_length_eq_zero (by have : ¬ IntKind.i64.wrap (((mid + m : Nat) : Int) - (st : Int)) < (b : Int) := of_decide_eq_false e2
                                                                         rw [he] at this; omega)
                  have eM : M2 = X2 ++ Y2 := by rw [← hM2, e2, mrg_nil, List.append_nil]
                  repeat' ((first | refine br_t rfl ?_ | refine br_f rfl ?_ | refine IdxN.lit rfl rfl ?_ | intro _); conv => whnf)
                  refine ⟨[70], by simp, [_], rfl, rfl, ?_⟩
                  rw [← hLB, eM, List.map_append, List.append_assoc]
              · have e1 : X2 = [] := List.eq_nil_of_length_eq_zero (by have : ¬ (mid : Int) < IntKind.i64.wrap (((mid + m : Nat) : Int) - (st : Int)) := of_decide_eq_false e1
                                                                       rw [he] at this; omega)
                have eM : M2 = X2 ++ Y2 := by rw [← hM2, e1, mrg, List.nil_append]
                repeat' ((first | refine br_t rfl ?_ | refine br_f rfl ?_ | refine IdxN.lit rfl rfl ?_ | intro _); conv => whnf)
                refine ⟨[70], by simp, [_], rfl, rfl, ?_⟩
                rw [← hLB, eM, List.map_append, List.append_assoc]
            · have d2 : Y1 = [] := List.eq_nil_of_length_eq_zero (by have : ¬ (st : Int) < (mid : Int) := of_decide_eq_false d2
                                                                     omega)
              have eM : M1 = X1 ++ Y1 := by rw [← hM1, d2, mrg_nil, List.append_nil]
              have hLB : P ++ (M1.map vals ++ (X2.map vals ++ (Y2.map vals ++ S))) = L0 := by rw [← hLA, eM, List.map_append, List.append_assoc]
              repeat' ((first | refine br_t rfl ?_ | refine br_f rfl ?_ | refine IdxN.lit rfl rfl ?_ | intro _); conv => whnf)
              apply br <;> intro e1 <;> conv => whnf
              · have e1 : st < m := by have : (mid : Int) < IntKind.i64.wrap (((mid + m : Nat) : Int) - (st : Int)) := of_decide_eq_true e1
                                       rw [he] at this; omega
                apply br <;> intro e2 <;> conv => whnf
                · have e2 : mid + m - st < b := by have : IntKind.i64.wrap (((mid + m : Nat) : Int) - (st : Int)) < (b : Int) := of_decide_eq_true e2
                                                   rw [he] at this; omega
                  have key := ih X2 Y2 (P ++ M1.map vals) S V' le_auto (by rw [eX, eY, List.length_append, List.length_append]; omega) (by omega) (by omega) sX2 sY2 (by rw [List.length_append, List.length_map]; omega)
                  unfold SymAt at key
                  simp only [List.append_assoc] at key
                  rw [hM2, hLB] at key
                  refine CallN.eq (args5 (b' := .int .i64 (P ++ M1.map vals).length) (c' := .int .i64 ((P ++ M1.map vals).length + X2.length : Nat)) (d' := .int .i64 ((P ++ M1.map vals).length + X2.length + Y2.length : Nat)) (int_eq (by show ((mid : Nat) : Int) = _; rw [List.length_append, List.length_map]; omega)) (int_eq (by show IntKind.i64.wrap (((mid + m : Nat) : Int) - (st : Int)) = _; rw [he, List.length_append, List.length_map]; omega)) (int_eq (by show ((b : Nat) : Int) = _; rw [List.length_append, List.length_map]; omega))) ?_
                  refine CallN.box 70 rfl key fun v V7 bs hV7 ⟨hv, hb3⟩ => ⟨ty, _, hb3, ?_⟩
                  subst hv; conv => whnf
                  repeat' ((first | refine br_t rfl ?_ | refine br_f rfl ?_ | refine IdxN.lit rfl rfl ?_ | intro _); conv => whnf)
                  exact ⟨[70], by simp, [_], rfl, rfl, rfl⟩
                · have e2 : Y2 = [] := List.eq_nil_of_length_eq_zero (by have : ¬ IntKind.i64.wrap (((mid + m : Nat) : Int) - (st : Int)) < (b : Int) := of_decide_eq_false e2
                                                                         rw [he] at this; omega)
                  have eM : M2 = X2 ++ Y2 := by rw [← hM2, e2, mrg_nil, List.append_nil]
                  repeat' ((first | refine br_t rfl ?_ | refine br_f rfl ?_ | refine IdxN.lit rfl rfl ?_ | intro _); conv => whnf)
                  refine ⟨[70], by simp, [_], rfl, rfl, ?_⟩
                  rw [← hLB, eM, List.map_append, List.append_assoc]
              · have e1 : X2 = [] := List.eq_nil_of_length_eq_zero (by have : ¬ (mid : Int) < IntKind.i64.wrap (((mid + m : Nat) : Int) - (st : Int)) := of_decide_eq_false e1
                                                                       rw [he] at this; omega)
                have eM : M2 = X2 ++ Y2 := by rw [← hM2, e1, mrg, List.nil_append]
                repeat' ((first | refine br_t rfl ?_ | refine br_f rfl ?_ | refine IdxN.lit rfl rfl ?_ | intro _); conv => whnf)
                refine ⟨[70], by simp, [_], rfl, rfl, ?_⟩
                rw [← hLB, eM, List.map_append, List.append_assoc]
          · have d1 : X1 = [] := List.eq_nil_of_length_eq_zero (by have : ¬ (a : Int) < (st : Int) := of_decide_eq_false d1
                                                                   omega)
            have eM : M1 = X1 ++ Y1 := by rw [← hM1, d1, mrg, List.nil_append]
            have hLB : P ++ (M1.map vals ++ (X2.map vals ++ (Y2.map vals ++ S))) = L0 := by rw [← hLA, eM, List.map_append, List.append_assoc]
            repeat' ((first | refine br_t rfl ?_ | refine br_f rfl ?_ | refine IdxN.lit rfl rfl ?_ | intro _); conv => whnf)
            apply br <;> intro e1 <;> conv => whnf
            · have e1 : st < m := by have : (mid : Int) < IntKind.i64.wrap (((mid + m : Nat) : Int) - (st : Int)) := of_decide_eq_true e1
                                     rw [he] at this; omega
              apply br <;> intro e2 <;> conv => whnf
              · have e2 : mid + m - st < b := by have : IntKind.i64.wrap (((mid + m : Nat) : Int) - (st : Int)) < (b : Int) := of_decide_eq_true e2
                                                 rw [he] at this; omega
                have key := ih X2 Y2 (P ++ M1.map vals) S V' le_auto (by rw [eX, eY, List.length_append, List.length_append]; omega) (by omega) (by omega) sX2 sY2 (by rw [List.length_append, List.length_map]; omega)
                unfold SymAt at key
                simp only [List.append_assoc] at key
                rw [hM2, hLB] at key
                refine CallN.eq (args5 (b' := .int .i64 (P ++ M1.map vals).length) (c' := .int .i64 ((P ++ M1.map vals).length + X2.length : Nat)) (d' := .int .i64 ((P ++ M1.map vals).length + X2.length + Y2.length : Nat)) (int_eq (by show ((mid : Nat) : Int) = _; rw [List.length_append, List.length_map]; omega)) (int_eq (by show IntKind.i64.wrap (((mid + m : Nat) : Int) - (st : Int)) = _; rw [he, List.length_append, List.length_map]; omega)) (int_eq (by show ((b : Nat) : Int) = _; rw [List.length_append, List.length_map]; omega))) ?_
                refine CallN.box 70 rfl key fun v V7 bs hV7 ⟨hv, hb3⟩ => ⟨ty, _, hb3, ?_⟩
                subst hv; conv => whnf
                repeat' ((first | refine br_t rfl ?_ | refine br_f rfl ?_ | refine IdxN.lit rfl rfl ?_ | intro _); conv => whnf)
                exact ⟨[70], by simp, [_], rfl, rfl, rfl⟩
              · have e2 : Y2 = [] := List.eq_nil_of_length_eq_zero (by have : ¬ IntKind.i64.wrap (((mid + m : Nat) : Int) - (st : Int)) < (b : Int) := of_decide_eq_false e2
                                                                       rw [he] at this; omega)
                have eM : M2 = X2 ++ Y2 := by rw [← hM2, e2, mrg_nil, List.append_nil]
                repeat' ((first | refine br_t rfl ?_ | refine br_f rfl ?_ | refine IdxN.lit rfl rfl ?_ | intro _); conv => whnf)
                refine ⟨[70], by simp, [_], rfl, rfl, ?_⟩
                rw [← hLB, eM, List.map_append, List.append_assoc]
            · have e1 : X2 = [] := List.eq_nil_of_length_eq_zero (by have : ¬ (mid : Int) < IntKind.i64.wrap (((mid + m : Nat) : Int) - (st : Int)) := of_decide_eq_false e1
                                                                     rw [he] at this; omega)
              have eM : M2 = X2 ++ Y2 := by rw [← hM2, e1, mrg, List.nil_append]
              repeat' ((first | refine br_t rfl ?_ | refine br_f rfl ?_ | refine IdxN.lit rfl rfl ?_ | intro _); conv => whnf)
              refine ⟨[70], by simp, [_], rfl, rfl, ?_⟩
              rw [← hLB, eM, List.map_append, List.append_assoc]
      · have c1 : X2 = [] := List.eq_nil_of_length_eq_zero (by have : ¬ (st : Int) < (m : Int) := of_decide_eq_false c1
                                                               omega)
        have hLA : P ++ (X1.map vals ++ (Y1.map vals ++ (X2.map vals ++ (Y2.map vals ++ S)))) = L0 := by rw [hLs, c1]; rfl
        repeat' ((first | refine br_t rfl ?_ | refine br_f rfl ?_ | refine IdxN.lit rfl rfl ?_ | intro _); conv => whnf)
        apply br <;> intro d1 <;> conv => whnf
        · have d1 : a < st := by have : (a : Int) < (st : Int) := of_decide_eq_true d1
                                 omega
          apply br <;> intro d2 <;> conv => whnf
          · have d2 : st < mid := by have : (st : Int) < (mid : Int) := of_decide_eq_true d2
                                     omega
            have key := ih X1 Y1 P (X2.map vals ++ (Y2.map vals ++ S)) V' le_auto (by rw [eX, eY, List.length_append, List.length_append]; omega) (by omega) (by omega) sX1 sY1 (by omega)
            unfold SymAt at key
            rw [hM1, hLA] at key
            refine CallN.eq (args5 (b' := .int .i64 P.length) (c' := .int .i64 (P.length + X1.length : Nat)) (d' := .int .i64 (P.length + X1.length + Y1.length : Nat)) (int_eq (by show ((a : Nat) : Int) = _; omega)) (int_eq (by show ((st : Nat) : Int) = _; omega)) (int_eq (by show ((mid : Nat) : Int) = _; omega))) ?_
            refine CallN.box 70 rfl key fun v V6 bs hV6 ⟨hv, hb3⟩ => ⟨ty, _, hb3, ?_⟩
            subst hv
            generalize hLB : P ++ (M1.map vals ++ (X2.map vals ++ (Y2.map vals ++ S))) = LB
            conv => whnf
            repeat' ((first | refine br_t rfl ?_ | refine br_f rfl ?_ | refine IdxN.lit rfl rfl ?_ | intro _); conv => whnf)
            apply br <;> intro e1 <;> conv => whnf
            · have e1 : st < m := by have : (mid : Int) < IntKind.i64.wrap (((mid + m : Nat) : Int) - (st : Int)) := of_decide_eq_true e1
                                     rw [he] at this; omega
              apply br <;> intro e2 <;> conv => whnf
              · have e2 : mid + m - st < b := by have : IntKind.i64.wrap (((mid + m : Nat) : Int) - (st : Int)) < (b : Int) := of_decide_eq_true e2
                                                 rw [he] at this; omega
                have key := ih X2 Y2 (P ++ M1.map vals) S V6 le_auto (by rw [eX, eY, List.length_append, List.length_append]; omega) (by omega) (by omega) sX2 sY2 (by rw [List.length_append, List.length_map]; omega)
                unfold SymAt at key
                simp only [List.append_assoc] at key
                rw [hM2, hLB] at key
                refine CallN.eq (args5 (b' := .int .i64 (P ++ M1.map vals).length) (c' := .int .i64 ((P ++ M1.map vals).length + X2.length : Nat)) (d' := .int .i64 ((P ++ M1.map vals).length + X2.length + Y2.length : Nat)) (int_eq (by show ((mid : Nat) : Int) = _; rw [List.length_append, List.length_map]; omega)) (int_eq (by show IntKind.i64.wrap (((mid + m : Nat) : Int) - (st : Int)) = _; rw [he, List.length_append, List.length_map]; omega)) (int_eq (by show ((b : Nat) : Int) = _; rw [List.length_append, List.length_map]; omega))) ?_
                refine CallN.box 70 rfl key fun v V7 bs hV7 ⟨hv, hb3⟩ => ⟨ty, _, hb3, ?_⟩
                subst hv; conv => whnf
                repeat' ((first | refine br_t rfl ?_ | refine br_f rfl ?_ | refine IdxN.lit rfl rfl ?_ | intro _); conv => whnf)
                exact ⟨[70], by simp, [_], rfl, rfl, rfl⟩
              · have e2 : Y2 = [] := List.eq_nil_of_length_eq_zero (by have : ¬ IntKind.i64.wrap (((mid + m : Nat) : Int) - (st : Int)) < (b : Int) := of_decide_eq_false e2
                                                                       rw [he] at this; omega)
                have eM : M2 = X2 ++ Y2 := by rw [← hM2, e2, mrg_nil, List.append_nil]
                repeat' ((first | refine br_t rfl ?_ | refine br_f rfl ?_ | refine IdxN.lit rfl rfl ?_ | intro _); conv => whnf)
                refine ⟨[70], by simp, [_], rfl, rfl, ?_⟩
                rw [← hLB, eM, List.map_append, List.append_assoc]
            · have e1 : X2 = [] := List.eq_nil_of_length_eq_zero (by have : ¬ (mid : Int) < IntKind.i64.wrap (((mid + m : Nat) : Int) - (st : Int)) := of_decide_eq_false e1
                                                                     rw [he] at this; omega)
              have eM : M2 = X2 ++ Y2 := by rw [← hM2, e1, mrg, List.nil_append]
              repeat' ((first | refine br_t rfl ?_ | refine br_f rfl ?_ | refine IdxN.lit rfl rfl ?_ | intro _); conv => whnf)
              refine ⟨[70], by simp, [_], rfl, rfl, ?_⟩
              rw [← hLB, eM, List.map_append, List.append_assoc]
          · have d2 : Y1 = [] := List.eq_nil_of_length_eq_zero (by have : ¬ (st : Int) < (mid : Int) := of_decide_eq_false d2
                                                                   omega)
            have eM : M1 = X1 ++ Y1 := by rw [← hM1, d2, mrg_nil, List.append_nil]
            have hLB : P ++ (M1.map vals ++ (X2.map vals ++ (Y2.map vals ++ S))) = L0 := by rw [← hLA, eM, List.map_append, List.append_assoc]
            repeat' ((first | refine br_t rfl ?_ | refine br_f rfl ?_ | refine IdxN.lit rfl rfl ?_ | intro _); conv => whnf)
            apply br <;> intro e1 <;> conv => whnf
            · have e1 : st < m := by have : (mid : Int) < IntKind.i64.wrap (((mid + m : Nat) : Int) - (st : Int)) := of_decide_eq_true e1
                                     rw [he] at this; omega
              apply br <;> intro e2 <;> conv => whnf
              · have e2 : mid + m - st < b := by have : IntKind.i64.wrap (((mid + m : Nat) : Int) - (st : Int)) < (b : Int) := of_decide_eq_true e2
                                                 rw [he] at this; omega
                have key := ih X2 Y2 (P ++ M1.map vals) S V' le_auto (by rw [eX, eY, List.length_append, List.length_append]; omega) (by omega) (by omega) sX2 sY2 (by rw [List.length_append, List.length_map]; omega)
                unfold SymAt at key
                simp only [List.append_assoc] at key
                rw [hM2, hLB] at key
                refine CallN.eq (args5 (b' := .int .i64 (P ++ M1.map vals).length) (c' := .int .i64 ((P ++ M1.map vals).length + X2.length : Nat)) (d' := .int .i64 ((P ++ M1.map vals).length + X2.length + Y2.length : Nat)) (int_eq (by show ((mid : Nat) : Int) = _; rw [List.length_append, List.length_map]; omega)) (int_eq (by show IntKind.i64.wrap (((mid + m : Nat) : Int) - (st : Int)) = _; rw [he, List.length_append, List.length_map]; omega)) (int_eq (by show ((b : Nat) : Int) = _; rw [List.length_append, List.length_map]; omega))) ?_
                refine CallN.box 70 rfl key fun v V7 bs hV7 ⟨hv, hb3⟩ => ⟨ty, _, hb3, ?_⟩
                subst hv; conv => whnf
                repeat' ((first | refine br_t rfl ?_ | refine br_f rfl ?_ | refine IdxN.lit rfl rfl ?_ | intro _); conv => whnf)
                exact ⟨[70], by simp, [_], rfl, rfl, rfl⟩
              · have e2 : Y2 = [] := List.eq_nil_of_length_eq_zero (by have : ¬ IntKind.i64.wrap (((mid + m : Nat) : Int) - (st : Int)) < (b : Int) := of_decide_eq_false e2
                                                                       rw [he] at this; omega)
                have eM : M2 = X2 ++ Y2 := by rw [← hM2, e2, mrg_nil, List.append_nil]
                repeat' ((first | refine br_t rfl ?_ | refine br_f rfl ?_ | refine IdxN.lit rfl rfl ?_ | intro _); conv => whnf)
                refine ⟨[70], by simp, [_], rfl, rfl, ?_⟩
                rw [← hLB, eM, List.map_append, List.append_assoc]
            · have e1 : X2 = [] := List.eq_nil_of_length_eq_zero (by have : ¬ (mid : Int) < IntKind.i64.wrap (((mid + m : Nat) : Int) - (st : Int)) := of_decide_eq_false e1
                                                                     rw [he] at this; omega)
              have eM : M2 = X2 ++ Y2 := by rw [← hM2, e1, mrg, List.nil_append]
              repeat' ((first | refine br_t rfl ?_ | refine br_f rfl ?_ | refine IdxN.lit rfl rfl ?_ | intro _); conv => whnf)
              refine ⟨[70], by simp, [_], rfl, rfl, ?_⟩
              rw [← hLB, eM, List.map_append, List.append_assoc]
        · have d1 : X1 = [] := List.eq_nil_of_length_eq_zero (by have : ¬ (a : Int) < (st : Int) := of_decide_eq_false d1
                                                                 omega)
          have eM : M1 = X1 ++ Y1 := by rw [← hM1, d1, mrg, List.nil_append]
          have hLB : P ++ (M1.map vals ++ (X2.map vals ++ (Y2.map vals ++ S))) = L0 := by rw [← hLA, eM, List.map_append, List.append_assoc]
          repeat' ((first | refine br_t rfl ?_ | refine br_f rfl ?_ | refine IdxN.lit rfl rfl ?_ | intro _); conv => whnf)
          apply br <;> intro e1 <;> conv => whnf
          · have e1 : st < m := by have : (mid : Int) < IntKind.i64.wrap (((mid + m : Nat) : Int) - (st : Int)) := of_decide_eq_true e1
                                   rw [he] at this; omega
            apply br <;> intro e2 <;> conv => whnf
            · have e2 : mid + m - st < b := by have : IntKind.i64.wrap (((mid + m : Nat) : Int) - (st : Int)) < (b : Int) := of_decide_eq_true e2
                                               rw [he] at this; omega
              have key := ih X2 Y2 (P ++ M1.map vals) S V' le_auto (by rw [eX, eY, List.length_append, List.length_append]; omega) (by omega) (by omega) sX2 sY2 (by rw [List.length_append, List.length_map]; omega)
              unfold SymAt at key
              simp only [List.append_assoc] at key
              rw [hM2, hLB] at key
              refine CallN.eq (args5 (b' := .int .i64 (P ++ M1.map vals).length) (c' := .int .i64 ((P ++ M1.map vals).length + X2.length : Nat)) (d' := .int .i64 ((P ++ M1.map vals).length + X2.length + Y2.length : Nat)) (int_eq (by show ((mid : Nat) : Int) = _; rw [List.length_append, List.length_map]; omega)) (int_eq (by show IntKind.i64.wrap (((mid + m : Nat) : Int) - (st : Int)) = _; rw [he, List.length_append, List.length_map]; omega)) (int_eq (by show ((b : Nat) : Int) = _; rw [List.length_append, List.length_map]; omega))) ?_
              refine CallN.box 70 rfl key fun v V7 bs hV7 ⟨hv, hb3⟩ => ⟨ty, _, hb3, ?_⟩
              subst hv; conv => whnf
              repeat' ((first | refine br_t rfl ?_ | refine br_f rfl ?_ | refine IdxN.lit rfl rfl ?_ | intro _); conv => whnf)
              exact ⟨[70], by simp, [_], rfl, rfl, rfl⟩
            · have e2 : Y2 = [] := List.eq_nil_of_length_eq_zero (by have : ¬ IntKind.i64.wrap (((mid + m : Nat) : Int) - (st : Int)) < (b : Int) := of_decide_eq_false e2
                                                                     rw [he] at this; omega)
              have eM : M2 = X2 ++ Y2 := by rw [← hM2, e2, mrg_nil, List.append_nil]
              repeat' ((first | refine br_t rfl ?_ | refine br_f rfl ?_ | refine IdxN.lit rfl rfl ?_ | intro _); conv => whnf)
              refine ⟨[70], by simp, [_], rfl, rfl, ?_⟩
              rw [← hLB, eM, List.map_append, List.append_assoc]
          · have e1 : X2 = [] := List.eq_nil_of_length_eq_zero (by have : ¬ (mid : Int) < IntKind.i64.wrap (((mid + m : Nat) : Int) - (st : Int)) := of_decide_eq_false e1
                                                                   rw [he] at this; omega)
            have eM : M2 = X2 ++ Y2 := by rw [← hM2, e1, mrg, List.nil_append]
            repeat' ((first | refine br_t rfl ?_ | refine br_f rfl ?_ | refine IdxN.lit rfl rfl ?_ | intro _); conv => whnf)
            refine ⟨[70], by simp, [_], rfl, rfl, ?_⟩
            rw [← hLB, eM, List.map_append, List.append_assoc]
  · have g1 : m ≤ mid := by
      have : ¬ (m : Int) > (mid : Int) := by have := of_decide_eq_false g1; rw [← hmd]; exact this
      omega
    repeat' ((first | refine br_t rfl ?_ | refine br_f rfl ?_ | refine IdxN.lit rfl rfl ?_ | intro _); conv => whnf)
    obtain ⟨s0, hs0⟩ : ∃ s0, s0 = a := ⟨_, rfl⟩
    obtain ⟨r0, hr0⟩ : ∃ r0, r0 = m := ⟨_, rfl⟩
    have q1 : a ≤ s0 := by omega
    have q2 : s0 ≤ r0 := by omega
    have q3 : r0 ≤ m ∧ r0 ≤ mid ∧ mid + m ≤ s0 + b := by omega
    have q4 : s0 = a ∨ s0 + b = mid + m := by omega
    have q5 : r0 = m ∨ r0 = mid := by omega
    have hn1 : IntKind.i64.wrap ((IntKind.i64.wrap ((IntKind.u64.wrap (IntKind.i64.wrap ((a : Int) + (b : Int)))).fdiv 2)) + (m : Int)) = ((mid + m : Nat) : Int) := by rw [hmd]; exact hn0
    have hp1 : IntKind.i64.wrap (IntKind.i64.wrap (IntKind.i64.wrap ((IntKind.u64.wrap (IntKind.i64.wrap ((a : Int) + (b : Int)))).fdiv 2) + (m : Int)) - 1) = ((mid + m - 1 : Nat) : Int) := by rw [hn1, wrapE]; omega
    have hs1 : ((s0 : Nat) : Int) = (a : Int) := by rw [hs0]
    have hr1 : ((r0 : Nat) : Int) = (m : Int) := by rw [hr0]
    refine loopz (σ := Nat × Nat) (fun s => [(0, .v (.slice (some ⟨blk, 0, none⟩) len cap)), (1, .v (.int .i64 a)), (2, .v (.int .i64 m)), (3, .v (.int .i64 b)), (4, .v (.func (.func 63) #[] #[p1, p2])), (18, .v (.int .i64 mid)), (19, .v (.int .i64 (mid + m : Nat))), (20, .v (.int .i64 s.1)), (21, .v (.int .i64 s.2)), (22, .v (.int .i64 (mid + m - 1 : Nat)))]) (fun s => [(70, .box blk ty L0)])
      (fun k s V' => V.le V' ∧ s.2 - s.1 = k ∧ s0 ≤ s.1 ∧ s.1 ≤ s.2 ∧ s.2 ≤ r0 ∧ (∀ c x y, s0 ≤ c → c < s.1 → X[c - a]? = some x → Y[mid - 1 - c]? = some y → ltC cf y x = false) ∧ (∀ c x y, s.2 ≤ c → c < r0 → X[c - a]? = some x → Y[mid - 1 - c]? = some y → ltC cf y x = true)) (r0 - s0) (s0, r0) ?_ ?_ ?_ ?_
    · repeat' (first | exact sees_nil | refine sees_cons rfl rfl rfl ?_ | refine sees_cons rfl rfl (congrArg some (int_eq hmd.symm)) ?_ | refine sees_cons rfl rfl (congrArg some (int_eq hn1.symm)) ?_ | refine sees_cons rfl rfl (congrArg some (int_eq hs1)) ?_ | refine sees_cons rfl rfl (congrArg some (int_eq hr1)) ?_ | refine sees_cons rfl rfl (congrArg some (int_eq hp1.symm)) ?_)
    · exact keeps_cons rfl keeps_nil
    · exact ⟨le_auto, rfl, Nat.le_refl _, q2, Nat.le_refl _, fun c x y h1 h2 => absurd (show s0 ≤ c from h1) (by have h2 : c < s0 := h2; omega), fun c x y h1 h2 => absurd (show r0 ≤ c from h1) (by omega)⟩
    rintro k ⟨st, r⟩ V' ⟨hV, hk, hs, hsr, hr, hF1, hF2⟩
    replace hk : r - st = k := hk
    replace hs : s0 ≤ st := hs
    replace hsr : st ≤ r := hsr
    replace hr : r ≤ r0 := hr
    replace hF1 : ∀ c x y, s0 ≤ c → c < st → X[c - a]? = some x → Y[mid - 1 - c]? = some y → ltC cf y x = false := hF1
    replace hF2 : ∀ c x y, r ≤ c → c < r0 → X[c - a]? = some x → Y[mid - 1 - c]? = some y → ltC cf y x = true := hF2
    conv => whnf
    apply br <;> intro h1 <;> conv => whnf
    · have h1 : st < r := by have : (st : Int) < (r : Int) := of_decide_eq_true h1
                             omega
      have hmd2 := midI (i := st) (j := r) (by omega)
      generalize hh2 : (st + r) / 2 = h at hmd2
      obtain ⟨x, hx⟩ : ∃ x, X[h - a]? = some x := ⟨_, List.getElem?_eq_getElem (by omega)⟩
      obtain ⟨y, hy⟩ : ∃ y, Y[mid - 1 - h]? = some y := ⟨_, List.getElem?_eq_getElem (by omega)⟩
      have hxL := hgX _ x hx
      rw [show a + (h - a) = h by omega] at hxL
      have hyL := hgY _ y hy
      rw [show m + (mid - 1 - h) = mid + m - 1 - h by omega] at hyL
      refine IdxN.nat (mid + m - 1 - h) (by show IntKind.i64.wrap (((mid + m - 1 : Nat) : Int) - IntKind.i64.wrap ((IntKind.u64.wrap (IntKind.i64.wrap ((st : Int) + (r : Int)))).fdiv 2)) = _; rw [hmd2, wrapE]; omega) (by omega) ?_; conv => whnf
      refine IdxN.nat h hmd2 (by omega) ?_; conv => whnf
      refine LoadN.own 70 rfl (l := [vals y]) (leI hyL) (getI hyL) ?_; conv => whnf
      refine LoadN.own 70 rfl (l := [vals x]) (leI hxL) (getI hxL) ?_; conv => whnf
      refine CallN.pure (hcmp y x _ le_auto) fun v V2 _ hV2 hv => ?_
      subst hv; conv => whnf
      apply br <;> intro h2 <;> conv => whnf
      · repeat' ((first | refine br_t rfl ?_ | refine br_f rfl ?_ | refine IdxN.lit rfl rfl ?_ | intro _); conv => whnf)
        have hlt : ltC cf y x = false := by simpa using h2
        refine ⟨r - (h + 1), (h + 1, r), by omega, ?_, keeps_cons rfl keeps_nil, le_auto, rfl, by show s0 ≤ h + 1; omega, by show h + 1 ≤ r; omega, hr, fun c x' y' hc1 hc2 hx' hy' => ?_, hF2⟩
        · repeat' (first | exact sees_nil | refine sees_cons rfl rfl rfl ?_ | refine sees_cons rfl rfl (by show some (Value.int .i64 (h + 1 : Nat)) = some (Value.int .i64 (IntKind.i64.wrap (IntKind.i64.wrap ((IntKind.u64.wrap (IntKind.i64.wrap ((st : Int) + (r : Int)))).fdiv 2) + 1))); rw [hmd2, wrapE]; exact congrArg some (int_eq (by omega))) ?_)
        · have hc2 : c < h + 1 := hc2
          by_cases hkk : c = h
          · subst hkk; rw [hx] at hx'; rw [hy] at hy'; exact (Option.some.inj hx') ▸ (Option.some.inj hy') ▸ hlt
          · have e1 := srt_lt hX (c - a) (h - a) x' x (by omega) hx' hx
            have e2 := srt_lt hY (mid - 1 - h) (mid - 1 - c) y y' (by omega) hy hy'
            exact hw.ntrans _ _ _ (hw.ntrans _ _ _ e2 hlt) e1
      · repeat' ((first | refine br_t rfl ?_ | refine br_f rfl ?_ | refine IdxN.lit rfl rfl ?_ | intro _); conv => whnf)
        have hlt : ltC cf y x = true := by simpa using h2
        refine ⟨h - st, (st, h), by omega, ?_, keeps_cons rfl keeps_nil, le_auto, rfl, hs, by show st ≤ h; omega, by show h ≤ r0; omega, hF1, fun c x' y' hc1 hc2 hx' hy' => ?_⟩
        · repeat' (first | exact sees_nil | refine sees_cons rfl rfl rfl ?_ | refine sees_cons rfl rfl (by show some (Value.int .i64 (h : Nat)) = some (Value.int .i64 (IntKind.i64.wrap ((IntKind.u64.wrap (IntKind.i64.wrap ((st : Int) + (r : Int)))).fdiv 2))); rw [hmd2]) ?_)
        · have hc1 : h ≤ c := hc1
          by_cases hkk : c = h
          · subst hkk; rw [hx] at hx'; rw [hy] at hy'; exact (Option.some.inj hx') ▸ (Option.some.inj hy') ▸ hlt
          · have e1 := srt_lt hX (h - a) (c - a) x x' (by omega) hx hx'
            have e2 := srt_lt hY (mid - 1 - c) (mid - 1 - h) y' y (by omega) hy' hy
            cases hc : ltC cf y' x' with
            | true => rfl
            | false => have := hw.ntrans _ _ _ (hw.ntrans _ _ _ e2 hc) e1; rw [hlt] at this; cases this
    · have h1 : st = r := by have : ¬ (st : Int) < (r : Int) := of_decide_eq_false h1
                             omega
      subst h1
      have he : IntKind.i64.wrap (((mid + m : Nat) : Int) - (st : Int)) = ((mid + m - st : Nat) : Int) := by rw [wrapE]; omega
      have hc1 : ∀ (u v : Nat) (y x : α), u < mid - st → st - a ≤ v → Y[u]? = some y → X[v]? = some x → ltC cf y x = true := fun u v y x hu hv hy hx => by
        have u1 := (List.getElem?_eq_some_iff.1 hy).1
        have v1 := (List.getElem?_eq_some_iff.1 hx).1
        rcases Nat.lt_or_ge st r0 with h | h
        · obtain ⟨xf, hxf⟩ : ∃ x, X[st - a]? = some x := ⟨_, List.getElem?_eq_getElem (by omega)⟩
          obtain ⟨yl, hyl⟩ : ∃ y, Y[mid - 1 - st]? = some y := ⟨_, List.getElem?_eq_getElem (by omega)⟩
          have e0 := hF2 st xf yl (Nat.le_refl _) h hxf hyl
          have e1 := srt_le hw hX (st - a) v xf x hv hxf hx
          have e2 := srt_le hw hY u (mid - 1 - st) y yl (by omega) hy hyl
          cases hc : ltC cf y x with
          | true => rfl
          | false => have := hw.ntrans _ _ _ (hw.ntrans _ _ _ e2 hc) e1; rw [e0] at this; cases this
        · omega
      have hc2 : ∀ (u v : Nat) (x y : α), u < st - a → mid - st ≤ v → X[u]? = some x → Y[v]? = some y → ltC cf y x = false := fun u v x y hu hv hx hy => by
        have u1 := (List.getElem?_eq_some_iff.1 hx).1
        have v1 := (List.getElem?_eq_some_iff.1 hy).1
        rcases Nat.lt_or_ge s0 st with h | h
        · obtain ⟨xl, hxl⟩ : ∃ x, X[st - 1 - a]? = some x := ⟨_, List.getElem?_eq_getElem (by omega)⟩
          obtain ⟨yf, hyf⟩ : ∃ y, Y[mid - 1 - (st - 1)]? = some y := ⟨_, List.getElem?_eq_getElem (by omega)⟩
          have e0 := hF1 (st - 1) xl yf (by omega) (by omega) hxl hyf
          have e1 := srt_le hw hX u (st - 1 - a) x xl (by omega) hx hxl
          have e2 := srt_le hw hY (mid - 1 - (st - 1)) v yf y (by omega) hyf hy
          exact hw.ntrans _ _ _ (hw.ntrans _ _ _ e2 e0) e1
        · omega
      have hst : a ≤ st ∧ st ≤ m ∧ st ≤ mid ∧ mid + m ≤ st + b := by omega
      obtain ⟨X1, X2, eX, lX1⟩ : ∃ X1 X2, X = X1 ++ X2 ∧ X1.length = st - a := ⟨X.take (st - a), X.drop (st - a), (List.take_append_drop _ _).symm, by rw [List.length_take]; omega⟩
      obtain ⟨Y1, Y2, eY, lY1⟩ : ∃ Y1 Y2, Y = Y1 ++ Y2 ∧ Y1.length = mid - st := ⟨Y.take (mid - st), Y.drop (mid - st), (List.take_append_drop _ _).symm, by rw [List.length_take]; omega⟩
      have lX2 : X2.length = m - st := by have := congrArg List.length eX; rw [List.length_append] at this; omega
      have lY2 : Y2.length = b - (mid + m - st) := by have := congrArg List.length eY; rw [List.length_append] at this; omega
      obtain ⟨sX1, sX2, _⟩ := srt_app (eX ▸ hX)
      obtain ⟨sY1, sY2, _⟩ := srt_app (eY ▸ hY)
      have hsp : mrg (ltC cf) X Y = mrg (ltC cf) X1 Y1 ++ mrg (ltC cf) X2 Y2 := by
        rw [eX, eY]
        refine mrg_split X1 Y1 X2 Y2 (fun y hy x hx => ?_) (fun x hx y hy => ?_)
        · obtain ⟨u, hu⟩ := List.mem_iff_getElem?.1 hy
          obtain ⟨v, hv⟩ := List.mem_iff_getElem?.1 hx
          have := (List.getElem?_eq_some_iff.1 hu).1
          exact hc1 u (st - a + v) y x (by omega) (by omega) (by rw [eY, List.getElem?_append_left (by omega)]; exact hu) (by rw [eX, List.getElem?_append_right (by omega), show st - a + v - X1.length = v by omega]; exact hv)
        · obtain ⟨u, hu⟩ := List.mem_iff_getElem?.1 hx
          obtain ⟨v, hv⟩ := List.mem_iff_getElem?.1 hy
          have := (List.getElem?_eq_some_iff.1 hu).1
          exact hc2 u (mid - st + v) x y (by omega) (by omega) (by rw [eX, List.getElem?_append_left (by omega)]; exact hu) (by rw [eY, List.getElem?_append_right (by omega), show mid - st + v - Y1.length = v by omega]; exact hv)
      have hfin : P ++ ((mrg (ltC cf) X Y).map vals ++ S) = P ++ ((mrg (ltC cf) X1 Y1).map vals ++ ((mrg (ltC cf) X2 Y2).map vals ++ S)) := by rw [hsp, List.map_append, List.append_assoc]
      have hLs : L0 = P ++ (X1.map vals ++ (X2.map vals ++ (Y1.map vals ++ (Y2.map vals ++ S)))) := by rw [← hL0, eX, eY, List.map_append, List.map_append, List.append_assoc, List.append_assoc]
      rw [hfin]
      generalize hM1 : mrg (ltC cf) X1 Y1 = M1 at *
      have lM1 : M1.length = X1.length + Y1.length := by rw [← hM1, mrg_len]
      generalize hM2 : mrg (ltC cf) X2 Y2 = M2 at *
      have hd : ∀ (l : List α), ∀ v ∈ l.map vals, Hd v := fun l v hv => by obtain ⟨i, _, rfl⟩ := List.mem_map.1 hv; exact hh i
      repeat' ((first | refine br_t rfl ?_ | refine br_f rfl ?_ | refine IdxN.lit rfl rfl ?_ | intro _); conv => whnf)
      apply br <;> intro c1 <;> conv => whnf
      · have c1 : st < m := by have : (st : Int) < (m : Int) := of_decide_eq_true c1
                               omega
        apply br <;> intro c2 <;> conv => whnf
        · have c2 : st < mid := by have : (m : Int) < IntKind.i64.wrap (((mid + m : Nat) : Int) - (st : Int)) := of_decide_eq_true c2
                                   rw [he] at this; omega
          have key := rotate_spec blk len cap ty (.func (.func 63) #[] #[p1, p2]) (P ++ X1.map vals) (X2.map vals) (Y1.map vals) (Y2.map vals ++ S) V' (hd _) (hd _) (by rw [List.length_map]; omega) (by rw [List.length_map]; omega) (by simp only [List.length_append, List.length_map]; omega) hl
          simp only [List.append_assoc] at key
          rw [← hLs] at key
          refine CallN.eq (args5 (b' := .int .i64 (P ++ X1.map vals).length) (c' := .int .i64 ((P ++ X1.map vals).length + (X2.map vals).length : Nat)) (d' := .int .i64 ((P ++ X1.map vals).length + (X2.map vals).length + (Y1.map vals).length : Nat)) (int_eq (by show ((st : Nat) : Int) = _; simp only [List.length_append, List.length_map]; omega)) (int_eq (by show ((m : Nat) : Int) = _; simp only [List.length_append, List.length_map]; omega)) (int_eq (by show IntKind.i64.wrap (((mid + m : Nat) : Int) - (st : Int)) = _; rw [he]; simp only [List.length_append, List.length_map]; omega))) ?_
          refine CallN.box 70 rfl key fun v V5 bs hV5 ⟨hv, hb2⟩ => ⟨ty, _, hb2, ?_⟩
          subst hv
          generalize hLA : P ++ (X1.map vals ++ (Y1.map vals ++ (X2.map vals ++ (Y2.map vals ++ S)))) = LA
          conv => whnf
          repeat' ((first | refine br_t rfl ?_ | refine br_f rfl ?_ | refine IdxN.lit rfl rfl ?_ | intro _); conv => whnf)
          apply br <;> intro d1 <;> conv => whnf
          · have d1 : a < st := by have : (a : Int) < (st : Int) := of_decide_eq_true d1
                                   omega
            apply br <;> intro d2 <;> conv => whnf
            · have d2 : st < mid := by have : (st : Int) < (mid : Int) := of_decide_eq_true d2
                                       omega
              have key := ih X1 Y1 P (X2.map vals ++ (Y2.map vals ++ S)) V5 le_auto (by rw [eX, eY, List.length_append, List.length_append]; omega) (by omega) (by omega) sX1 sY1 (by omega)
              unfold SymAt at key
              rw [hM1, hLA] at key
              refine CallN.eq (args5 (b' := .int .i64 P.length) (c' := .int .i64 (P.length + X1.length : Nat)) (d' := .int .i64 (P.length + X1.length + Y1.length : Nat)) (int_eq (by show ((a : Nat) : Int) = _; omega)) (int_eq (by show ((st : Nat) : Int) = _; omega)) (int_eq (by show ((mid : Nat) : Int) = _; omega))) ?_
              refine CallN.box 70 rfl key fun v V6 bs hV6 ⟨hv, hb3⟩ => ⟨ty, _, hb3, ?_⟩
              subst hv
              generalize hLB : P ++ (M1.map vals ++ (X2.map vals ++ (Y2.map vals ++ S))) = LB
              conv => whnf
              repeat' ((first | refine br_t rfl ?_ | refine br_f rfl ?_ | refine IdxN.lit rfl rfl ?_ | intro _); conv => whnf)
              apply br <;> intro e1 <;> conv => whnf
              · have e1 : st < m := by have : (mid : Int) < IntKind.i64.wrap (((mid + m : Nat) : Int) - (st : Int)) := of_decide_eq_true e1
                                       rw [he] at this; omega
                apply br <;> intro e2 <;> conv => whnf
                · have e2 : mid + m - st < b := by have : IntKind.i64.wrap (((mid + m : Nat) : Int) - (st : Int)) < (b : Int) := of_decide_eq_true e2
                                                   rw [he] at this; omega
                  have key := ih X2 Y2 (P ++ M1.map vals) S V6 le_auto (by rw [eX, eY, List.length_append, List.length_append]; omega) (by omega) (by omega) sX2 sY2 (by rw [List.length_append, List.length_map]; omega)
                  unfold SymAt at key
                  simp only [List.append_assoc] at key
                  rw [hM2, hLB] at key
                  refine CallN.eq (args5 (b' := .int .i64 (P ++ M1.map vals).length) (c' := .int .i64 ((P ++ M1.map vals).length + X2.length : Nat)) (d' := .int .i64 ((P ++ M1.map vals).length + X2.length + Y2.length : Nat)) (int_eq (by show ((mid : Nat) : Int) = _; rw [List.length_append, List.length_map]; omega)) (int_eq (by show IntKind.i64.wrap (((mid + m : Nat) : Int) - (st : Int)) = _; rw [he, List.length_append, List.length_map]; omega)) (int_eq (by show ((b : Nat) : Int) = _; rw [List.length_append, List.length_map]; omega))) ?_
                  refine CallN.box 70 rfl key fun v V7 bs hV7 ⟨hv, hb3⟩ => ⟨ty, _, hb3, ?_⟩
                  subst hv; conv => whnf
                  repeat' ((first | refine br_t rfl ?_ | refine br_f rfl ?_ | refine IdxN.lit rfl rfl ?_ | intro _); conv => whnf)
                  exact ⟨[70], by simp, [_], rfl, rfl, rfl⟩
                · have e2 : Y2 = [] := List.eq_nil_of_length_eq_zero (by have : ¬ IntKind.i64.wrap (((mid + m : Nat) : Int) - (st : Int)) < (b : Int) := of_decide_eq_false e2
                                                                         rw [he] at this; omega)
                  have eM : M2 = X2 ++ Y2 := by rw [← hM2, e2, mrg_nil, List.append_nil]
                  repeat' ((first | refine br_t rfl ?_ | refine br_f rfl ?_ | refine IdxN.lit rfl rfl ?_ | intro _); conv => whnf)
                  refine ⟨[70], by simp, [_], rfl, rfl, ?_⟩
                  rw [← hLB, eM, List.map_append, List.append_assoc]
              · have e1 : X2 = [] := List.eq_nil_of_length_eq_zero (by have : ¬ (mid : Int) < IntKind.i64.wrap (((mid + m : Nat) : Int) - (st : Int)) := of_decide_eq_false e1
                                                                       rw [he] at this; omega)
                have eM : M2 = X2 ++ Y2 := by rw [← hM2, e1, mrg, List.nil_append]
                repeat' ((first | refine br_t rfl ?_ | refine br_f rfl ?_ | refine IdxN.lit rfl rfl ?_ | intro _); conv => whnf)
                refine ⟨[70], by simp, [_], rfl, rfl, ?_⟩
                rw [← hLB, eM, List.map_append, List.append_assoc]
            · have d2 : Y1 = [] := List.eq_nil_of_length_eq_zero (by have : ¬ (st : Int) < (mid : Int) := of_decide_eq_false d2
                                                                     omega)
              have eM : M1 = X1 ++ Y1 := by rw [← hM1, d2, mrg_nil, List.append_nil]
              have hLB : P ++ (M1.map vals ++ (X2.map vals ++ (Y2.map vals ++ S))) = LA := by rw [← hLA, eM, List.map_append, List.append_assoc]
              repeat' ((first | refine br_t rfl ?_ | refine br_f rfl ?_ | refine IdxN.lit rfl rfl ?_ | intro _); conv => whnf)
              apply br <;> intro e1 <;> conv => whnf
              · have e1 : st < m := by have : (mid : Int) < IntKind.i64.wrap (((mid + m : Nat) : Int) - (st : Int)) := of_decide_eq_true e1
                                       rw [he] at this; omega
                apply br <;> intro e2 <;> conv => whnf
                · have e2 : mid + m - st < b := by have : IntKind.i64.wrap (((mid + m : Nat) : Int) - (st : Int)) < (b : Int) := of_decide_eq_true e2
                                                   rw [he] at this; omega
                  have key := ih X2 Y2 (P ++ M1.map vals) S V5 le_auto (by rw [eX, eY, List.length_append, List.length_append]; omega) (by omega) (by omega) sX2 sY2 (by rw [List.length_append, List.length_map]; omega)
                  unfold SymAt at key
                  simp only [List.append_assoc] at key
                  rw [hM2, hLB] at key
                  refine CallN.eq (args5 (b' := .int .i64 (P ++ M1.map vals).length) (c' := .int .i64 ((P ++ M1.map vals).length + X2.length : Nat)) (d' := .int .i64 ((P ++ M1.map vals).length + X2.length + Y2.length : Nat)) (int_eq (by show ((mid : Nat) : Int) = _; rw [List.length_append, List.length_map]; omega)) (int_eq (by show IntKind.i64.wrap (((mid + m : Nat) : Int) - (st : Int)) = _; rw [he, List.length_append, List.length_map]; omega)) (int_eq (by show ((b : Nat) : Int) = _; rw [List.length_append, List.length_map]; omega))) ?_
                  refine CallN.box 70 rfl key fun v V7 bs hV7 ⟨hv, hb3⟩ => ⟨ty, _, hb3, ?_⟩
                  subst hv; conv => whnf
                  repeat' ((first | refine br_t rfl ?_ | refine br_f rfl ?_ | refine IdxN.lit rfl rfl ?_ | intro _); conv => whnf)
                  exact ⟨[70], by simp, [_], rfl, rfl, rfl⟩
                · have e2 : Y2 = [] := List.eq_nil_of_length_eq_zero (by have : ¬ IntKind.i64.wrap (((mid + m : Nat) : Int) - (st : Int)) < (b : Int) := of_decide_eq_false e2
                                                                         rw [he] at this; omega)
                  have eM : M2 = X2 ++ Y2 := by rw [← hM2, e2, mrg_nil, List.append_nil]
                  repeat' ((first | refine br_t rfl ?_ | refine br_f rfl ?_ | refine IdxN.lit rfl rfl ?_ | intro _); conv => whnf)
                  refine ⟨[70], by simp, [_], rfl, rfl, ?_⟩
                  rw [← hLB, eM, List.map_append, List.append_assoc]
              · have e1 : X2 = [] := List.eq_nil_of_length_eq_zero (by have : ¬ (mid : Int) < IntKind.i64.wrap (((mid + m : Nat) : Int) - (st : Int)) := of_decide_eq_false e1
                                                                       rw [he] at this; omega)
                have eM : M2 = X2 ++ Y2 := by rw [← hM2, e1, mrg, List.nil_append]
                repeat' ((first | refine br_t rfl ?_ | refine br_f rfl ?_ | refine IdxN.lit rfl rfl ?_ | intro _); conv => whnf)
                refine ⟨[70], by simp, [_], rfl, rfl, ?_⟩
                rw [← hLB, eM, List.map_append, List.append_assoc]
          · have d1 : X1 = [] := List.eq_nil_of_length_eq_zero (by have : ¬ (a : Int) < (st : Int) := of_decide_eq_false d1
                                                                   omega)
            have eM : M1 = X1 ++ Y1 := by rw [← hM1, d1, mrg, List.nil_append]
            have hLB : P ++ (M1.map vals ++ (X2.map vals ++ (Y2.map vals ++ S))) = LA := by rw [← hLA, eM, List.map_append, List.append_assoc]
            repeat' ((first | refine br_t rfl ?_ | refine br_f rfl ?_ | refine IdxN.lit rfl rfl ?_ | intro _); conv => whnf)
            apply br <;> intro e1 <;> conv => whnf
            · have e1 : st < m := by have : (mid : Int) < IntKind.i64.wrap (((mid + m : Nat) : Int) - (st : Int)) := of_decide_eq_true e1
                                     rw [he] at this; omega
              apply br <;> intro e2 <;> conv => whnf
              · have e2 : mid + m - st < b := by have : IntKind.i64.wrap (((mid + m : Nat) : Int) - (st : Int)) < (b : Int) := of_decide_eq_true e2
                                                 rw [he] at this; omega
                have key := ih X2 Y2 (P ++ M1.map vals) S V5 le_auto (by rw [eX, eY, List.length_append, List.length_append]; omega) (by omega) (by omega) sX2 sY2 (by rw [List.length_append, List.length_map]; omega)
                unfold SymAt at key
                simp only [List.append_assoc] at key
                rw [hM2, hLB] at key
                refine CallN.eq (args5 (b' := .int .i64 (P ++ M1.map vals).length) (c' := .int .i64 ((P ++ M1.map vals).length + X2.length : Nat)) (d' := .int .i64 ((P ++ M1.map vals).length + X2.length + Y2.length : Nat)) (int_eq (by show ((mid : Nat) : Int) = _; rw [List.length_append, List.length_map]; omega)) (int_eq (by show IntKind.i64.wrap (((mid + m : Nat) : Int) - (st : Int)) = _; rw [he, List.length_append, List.length_map]; omega)) (int_eq (by show ((b : Nat) : Int) = _; rw [List.length_append, List.length_map]; omega))) ?_
                refine CallN.box 70 rfl key fun v V7 bs hV7 ⟨hv, hb3⟩ => ⟨ty, _, hb3, ?_⟩
                subst hv; conv => whnf
                repeat' ((first | refine br_t rfl ?_ | refine br_f rfl ?_ | refine IdxN.lit rfl rfl ?_ | intro _); conv => whnf)
                exact ⟨[70], by simp, [_], rfl, rfl, rfl⟩
              · have e2 : Y2 = [] := List.eq_nil_of_length_eq_zero (by have : ¬ IntKind.i64.wrap (((mid + m : Nat) : Int) - (st : Int)) < (b : Int) := of_decide_eq_false e2
                                                                       rw [he] at this; omega)
                have eM : M2 = X2 ++ Y2 := by rw [← hM2, e2, mrg_nil, List.append_nil]
                repeat' ((first | refine br_t rfl ?_ | refine br_f rfl ?_ | refine IdxN.lit rfl rfl ?_ | intro _); conv => whnf)
                refine ⟨[70], by simp, [_], rfl, rfl, ?_⟩
                rw [← hLB, eM, List.map_append, List.append_assoc]
            · have e1 : X2 = [] := List.eq_nil_of_length_eq_zero (by have : ¬ (mid : Int) < IntKind.i64.wrap (((mid + m : Nat) : Int) - (st : Int)) := of_decide_eq_false e1
                                                                     rw [he] at this; omega)
              have eM : M2 = X2 ++ Y2 := by rw [← hM2, e1, mrg, List.nil_append]
              repeat' ((first | refine br_t rfl ?_ | refine br_f rfl ?_ | refine IdxN.lit rfl rfl ?_ | intro _); conv => whnf)
              refine ⟨[70], by simp, [_], rfl, rfl, ?_⟩
              rw [← hLB, eM, List.map_append, List.append_assoc]
        · have c2 : Y1 = [] := List.eq_nil_of_length_eq_zero (by have : ¬ (m : Int) < IntKind.i64.wrap (((mid + m : Nat) : Int) - (st : Int)) := of_decide_eq_false c2
                                                                 rw [he] at this; omega)
          have hLA : P ++ (X1.map vals ++ (Y1.map vals ++ (X2.map vals ++ (Y2.map vals ++ S)))) = L0 := by rw [hLs, c2]; rfl
          repeat' ((first | refine br_t rfl ?_ | refine br_f rfl ?_ | refine IdxN.lit rfl rfl ?_ | intro _); conv => whnf)
          apply br <;> intro d1 <;> conv => whnf
          · have d1 : a < st := by have : (a : Int) < (st : Int) := of_decide_eq_true d1
                                   omega
            apply br <;> intro d2 <;> conv => whnf
            · have d2 : st < mid := by have : (st : Int) < (mid : Int) := of_decide_eq_true d2
                                       omega
              have key := ih X1 Y1 P (X2.map vals ++ (Y2.map vals ++ S)) V' le_auto (by rw [eX, eY, List.length_append, List.length_append]; omega) (by omega) (by omega) sX1 sY1 (by omega)
              unfold SymAt at key
              rw [hM1, hLA] at key
              refine CallN.eq (args5 (b' := .int .i64 P.length) (c' := .int .i64 (P.length + X1.length : Nat)) (d' := .int .i64 (P.length + X1.length + Y1.length : Nat)) (int_eq (by show ((a : Nat) : Int) = _; omega)) (int_eq (by show ((st : Nat) : Int) = _; omega)) (int_eq (by show ((mid : Nat) : Int) = _; omega))) ?_
              refine CallN.box 70 rfl key fun v V6 bs hV6 ⟨hv, hb3⟩ => ⟨ty, _, hb3, ?_⟩
              subst hv
              generalize hLB : P ++ (M1.map vals ++ (X2.map vals ++ (Y2.map vals ++ S))) = LB
              conv => whnf
              repeat' ((first | refine br_t rfl ?_ | refine br_f rfl ?_ | refine IdxN.lit rfl rfl ?_ | intro _); conv => whnf)
              apply br <;> intro e1 <;> conv => whnf
              · have e1 : st < m := by have : (mid : Int) < IntKind.i64.wrap (((mid + m : Nat) : Int) - (st : Int)) := of_decide_eq_true e1
                                       rw [he] at this; omega
                apply br <;> intro e2 <;> conv => whnf
                · have e2 : mid + m - st < b := by have : IntKind.i64.wrap (((mid + m : Nat) : Int) - (st : Int)) < (b : Int) := of_decide_eq_true e2
                                                   rw [he] at this; omega
                  have key := ih X2 Y2 (P ++ M1.map vals) S V6 le_auto (by rw [eX, eY, List.length_append, List.length_append]; omega) (by omega) (by omega) sX2 sY2 (by rw [List.length_append, List.length_map]; omega)
                  unfold SymAt at key
                  simp only [List.append_assoc] at key
                  rw [hM2, hLB] at key
                  refine CallN.eq (args5 (b' := .int .i64 (P ++ M1.map vals).length) (c' := .int .i64 ((P ++ M1.map vals).length + X2.length : Nat)) (d' := .int .i64 ((P ++ M1.map vals).length + X2.length + Y2.length : Nat)) (int_eq (by show ((mid : Nat) : Int) = _; rw [List.length_append, List.length_map]; omega)) (int_eq (by show IntKind.i64.wrap (((mid + m : Nat) : Int) - (st : Int)) = _; rw [he, List.length_append, List.length_map]; omega)) (int_eq (by show ((b : Nat) : Int) = _; rw [List.length_append, List.length_map]; omega))) ?_
                  refine CallN.box 70 rfl key fun v V7 bs hV7 ⟨hv, hb3⟩ => ⟨ty, _, hb3, ?_⟩
                  subst hv; conv => whnf
                  repeat' ((first | refine br_t rfl ?_ | refine br_f rfl ?_ | refine IdxN.lit rfl rfl ?_ | intro _); conv => whnf)
                  exact ⟨[70], by simp, [_], rfl, rfl, rfl⟩
                · have e2 : Y2 = [] := List.eq_nil_of_length_eq_zero (by have : ¬ IntKind.i64.wrap (((mid + m : Nat) : Int) - (st : Int)) < (b : Int) := of_decide_eq_false e2
                                                                         rw [he] at this; omega)
                  have eM : M2 = X2 ++ Y2 := by rw [← hM2, e2, mrg_nil, List.append_nil]
                  repeat' ((first | refine br_t rfl ?_ | refine br_f rfl ?_ | refine IdxN.lit rfl rfl ?_ | intro _); conv => whnf)
                  refine ⟨[70], by simp, [_], rfl, rfl, ?_⟩
                  rw [← hLB, eM, List.map_append, List.append_assoc]
              · have e1 : X2 = [] := List.eq_nil_of_length_eq_zero (by have : ¬ (mid : Int) < IntKind.i64.wrap (((mid + m : Nat) : Int) - (st : Int)) := of_decide_eq_false e1
                                                                       rw [he] at this; omega)
                have eM : M2 = X2 ++ Y2 := by rw [← hM2, e1, mrg, List.nil_append]
                repeat' ((first | refine br_t rfl ?_ | refine br_f rfl ?_ | refine IdxN.lit rfl rfl ?_ | intro _); conv => whnf)
                refine ⟨[70], by simp, [_], rfl, rfl, ?_⟩
                rw [← hLB, eM, List.map_append, List.append_assoc]
            · have d2 : Y1 = [] := List.eq_nil_of_length_eq_zero (by have : ¬ (st : Int) < (mid : Int) := of_decide_eq_false d2
                                                                     omega)
              have eM : M1 = X1 ++ Y1 := by rw [← hM1, d2, mrg_nil, List.append_nil]
              have hLB : P ++ (M1.map vals ++ (X2.map vals ++ (Y2.map vals ++ S))) = L0 := by rw [← hLA, eM, List.map_append, List.append_assoc]
              repeat' ((first | refine br_t rfl ?_ | refine br_f rfl ?_ | refine IdxN.lit rfl rfl ?_ | intro _); conv => whnf)
              apply br <;> intro e1 <;> conv => whnf
              · have e1 : st < m := by have : (mid : Int) < IntKind.i64.wrap (((mid + m : Nat) : Int) - (st : Int)) := of_decide_eq_true e1
                                       rw [he] at this; omega
                apply br <;> intro e2 <;> conv => whnf
                · have e2 : mid + m - st < b := by have : IntKind.i64.wrap (((mid + m : Nat) : Int) - (st : Int)) < (b : Int) := of_decide_eq_true e2
                                                   rw [he] at this; omega
                  have key := ih X2 Y2 (P ++ M1.map vals) S V' le_auto (by rw [eX, eY, List.length_append, List.length_append]; omega) (by omega) (by omega) sX2 sY2 (by rw [List.length_append, List.length_map]; omega)
                  unfold SymAt at key
                  simp only [List.append_assoc] at key
                  rw [hM2, hLB] at key
                  refine CallN.eq (args5 (b' := .int .i64 (P ++ M1.map vals).length) (c' := .int .i64 ((P ++ M1.map vals).length + X2.length : Nat)) (d' := .int .i64 ((P ++ M1.map vals).length + X2.length + Y2.length : Nat)) (int_eq (by show ((mid : Nat) : Int) = _; rw [List.length_append, List.length_map]; omega)) (int_eq (by show IntKind.i64.wrap (((mid + m : Nat) : Int) - (st : Int)) = _; rw [he, List.length_append, List.length_map]; omega)) (int_eq (by show ((b : Nat) : Int) = _; rw [List.length_append, List.length_map]; omega))) ?_
                  refine CallN.box 70 rfl key fun v V7 bs hV7 ⟨hv, hb3⟩ => ⟨ty, _, hb3, ?_⟩
                  subst hv; conv => whnf
                  repeat' ((first | refine br_t rfl ?_ | refine br_f rfl ?_ | refine IdxN.lit rfl rfl ?_ | intro _); conv => whnf)
                  exact ⟨[70], by simp, [_], rfl, rfl, rfl⟩
                · have e2 : Y2 = [] := List.eq_nil_of_length_eq_zero (by have : ¬ IntKind.i64.wrap (((mid + m : Nat) : Int) - (st : Int)) < (b : Int) := of_decide_eq_false e2
                                                                         rw [he] at this; omega)
                  have eM : M2 = X2 ++ Y2 := by rw [← hM2, e2, mrg_nil, List.append_nil]
                  repeat' ((first | refine br_t rfl ?_ | refine br_f rfl ?_ | refine IdxN.lit rfl rfl ?_ | intro _); conv => whnf)
                  refine ⟨[70], by simp, [_], rfl, rfl, ?_⟩
                  rw [← hLB, eM, List.map_append, List.append_assoc]
              · have e1 : X2 = [] := List.eq_nil_of_length_eq_zero (by have : ¬ (mid : Int) < IntKind.i64.wrap (((mid + m : Nat) : Int) - (st : Int)) := of_decide_eq_false e1
                                                                       rw [he] at this; omega)
                have eM : M2 = X2 ++ Y2 := by rw [← hM2, e1, mrg, List.nil_append]
                repeat' ((first | refine br_t rfl ?_ | refine br_f rfl ?_ | refine IdxN.lit rfl rfl ?_ | intro _); conv => whnf)
                refine ⟨[70], by simp, [_], rfl, rfl, ?_⟩
                rw [← hLB, eM, List.map_append, List.append_assoc]
          · have d1 : X1 = [] := List.eq_nil_of_length_eq_zero (by have : ¬ (a : Int) < (st : Int) := of_decide_eq_false d1
                                                                   omega)
            have eM : M1 = X1 ++ Y1 := by rw [← hM1, d1, mrg, List.nil_append]
            have hLB : P ++ (M1.map vals ++ (X2.map vals ++ (Y2.map vals ++ S))) = L0 := by rw [← hLA, eM, List.map_append, List.append_assoc]
            repeat' ((first | refine br_t rfl ?_ | refine br_f rfl ?_ | refine IdxN.lit rfl rfl ?_ | intro _); conv => whnf)
            apply br <;> intro e1 <;> conv => whnf
            · have e1 : st < m := by have : (mid : Int) < IntKind.i64.wrap (((mid + m : Nat) : Int) - (st : Int)) := of_decide_eq_true e1
                                     rw [he] at this; omega
              apply br <;> intro e2 <;> conv => whnf
              · have e2 : mid + m - st < b := by have : IntKind.i64.wrap (((mid + m : Nat) : Int) - (st : Int)) < (b : Int) := of_decide_eq_true e2
                                                 rw [he] at this; omega
                have key := ih X2 Y2 (P ++ M1.map vals) S V' le_auto (by rw [eX, eY, List.length_append, List.length_append]; omega) (by omega) (by omega) sX2 sY2 (by rw [List.length_append, List.length_map]; omega)
                unfold SymAt at key
                simp only [List.append_assoc] at key
                rw [hM2, hLB] at key
                refine CallN.eq (args5 (b' := .int .i64 (P ++ M1.map vals).length) (c' := .int .i64 ((P ++ M1.map vals).length + X2.length : Nat)) (d' := .int .i64 ((P ++ M1.map vals).length + X2.length + Y2.length : Nat)) (int_eq (by show ((mid : Nat) : Int) = _; rw [List.length_append, List.length_map]; omega)) (int_eq (by show IntKind.i64.wrap (((mid + m : Nat) : Int) - (st : Int)) = _; rw [he, List.length_append, List.length_map]; omega)) (int_eq (by show ((b : Nat) : Int) = _; rw [List.length_append, List.length_map]; omega))) ?_
                refine CallN.box 70 rfl key fun v V7 bs hV7 ⟨hv, hb3⟩ => ⟨ty, _, hb3, ?_⟩
                subst hv; conv => whnf
                repeat' ((first | refine br_t rfl ?_ | refine br_f rfl ?_ | refine IdxN.lit rfl rfl ?_ | intro _); conv => whnf)
                exact ⟨[70], by simp, [_], rfl, rfl, rfl⟩
              · have e2 : Y2 = [] := List.eq_nil_of_length_eq_zero (by have : ¬ IntKind.i64.wrap (((mid + m : Nat) : Int) - (st : Int)) < (b : Int) := of_decide_eq_false e2
                                                                       rw [he] at this; omega)
                have eM : M2 = X2 ++ Y2 := by rw [← hM2, e2, mrg_nil, List.append_nil]
                repeat' ((first | refine br_t rfl ?_ | refine br_f rfl ?_ | refine IdxN.lit rfl rfl ?_ | intro _); conv => whnf)
                refine ⟨[70], by simp, [_], rfl, rfl, ?_⟩
                rw [← hLB, eM, List.map_append, List.append_assoc]
            · have e1 : X2 = [] := List.eq_nil_of_length_eq_zero (by have : ¬ (mid : Int) < IntKind.i64.wrap (((mid + m : Nat) : Int) - (st : Int)) := of_decide_eq_false e1
                                                                     rw [he] at this; omega)
              have eM : M2 = X2 ++ Y2 := by rw [← hM2, e1, mrg, List.nil_append]
              repeat' ((first | refine br_t rfl ?_ | refine br_f rfl ?_ | refine IdxN.lit rfl rfl ?_ | intro _); conv => whnf)
              refine ⟨[70], by simp, [_], rfl, rfl, ?_⟩
              rw [← hLB, eM, List.map_append, List.append_assoc]
      · have c1 : X2 = [] := List.eq_nil_of_length_eq_zero (by have : ¬ (st : Int) < (m : Int) := of_decide_eq_false c1
                                                               omega)
        have hLA : P ++ (X1.map vals ++ (Y1.map vals ++ (X2.map vals ++ (Y2.map vals ++ S)))) = L0 := by rw [hLs, c1]; rfl
        repeat' ((first | refine br_t rfl ?_ | refine br_f rfl ?_ | refine IdxN.lit rfl rfl ?_ | intro _); conv => whnf)
        apply br <;> intro d1 <;> conv => whnf
        · have d1 : a < st := by have : (a : Int) < (st : Int) := of_decide_eq_true d1
                                 omega
          apply br <;> intro d2 <;> conv => whnf
          · have d2 : st < mid := by have : (st : Int) < (mid : Int) := of_decide_eq_true d2
                                     omega
            have key := ih X1 Y1 P (X2.map vals ++ (Y2.map vals ++ S)) V' le_auto (by rw [eX, eY, List.length_append, List.length_append]; omega) (by omega) (by omega) sX1 sY1 (by omega)
            unfold SymAt at key
            rw [hM1, hLA] at key
            refine CallN.eq (args5 (b' := .int .i64 P.length) (c' := .int .i64 (P.length + X1.length : Nat)) (d' := .int .i64 (P.length + X1.length + Y1.length : Nat)) (int_eq (by show ((a : Nat) : Int) = _; omega)) (int_eq (by show ((st : Nat) : Int) = _; omega)) (int_eq (by show ((mid : Nat) : Int) = _; omega))) ?_
            refine CallN.box 70 rfl key fun v V6 bs hV6 ⟨hv, hb3⟩ => ⟨ty, _, hb3, ?_⟩
            subst hv
            generalize hLB : P ++ (M1.map vals ++ (X2.map vals ++ (Y2.map vals ++ S))) = LB
            conv => whnf
            repeat' ((first | refine br_t rfl ?_ | refine br_f rfl ?_ | refine IdxN.lit rfl rfl ?_ | intro _); conv => whnf)
            apply br <;> intro e1 <;> conv => whnf
            · have e1 : st < m := by have : (mid : Int) < IntKind.i64.wrap (((mid + m : Nat) : Int) - (st : Int)) := of_decide_eq_true e1
                                     rw [he] at this; omega
              apply br <;> intro e2 <;> conv => whnf
              · have e2 : mid + m - st < b := by have : IntKind.i64.wrap (((mid + m : Nat) : Int) - (st : Int)) < (b : Int) := of_decide_eq_true e2
                                                 rw [he] at this; omega
                have key := ih X2 Y2 (P ++ M1.map vals) S V6 le_auto (by rw [eX, eY, List.length_append, List.length_append]; omega) (by omega) (by omega) sX2 sY2 (by rw [List.length_append, List.length_map]; omega)
                unfold SymAt at key
                simp only [List.append_assoc] at key
                rw [hM2, hLB] at key
                refine CallN.eq (args5 (b' := .int .i64 (P ++ M1.map vals).length) (c' := .int .i64 ((P ++ M1.map vals).length + X2.length : Nat)) (d' := .int .i64 ((P ++ M1.map vals).length + X2.length + Y2.length : Nat)) (int_eq (by show ((mid : Nat) : Int) = _; rw [List.length_append, List.length_map]; omega)) (int_eq (by show IntKind.i64.wrap (((mid + m : Nat) : Int) - (st : Int)) = _; rw [he, List.length_append, List.length_map]; omega)) (int_eq (by show ((b : Nat) : Int) = _; rw [List.length_append, List.length_map]; omega))) ?_
                refine CallN.box 70 rfl key fun v V7 bs hV7 ⟨hv, hb3⟩ => ⟨ty, _, hb3, ?_⟩
                subst hv; conv => whnf
                repeat' ((first | refine br_t rfl ?_ | refine br_f rfl ?_ | refine IdxN.lit rfl rfl ?_ | intro _); conv => whnf)
                exact ⟨[70], by simp, [_], rfl, rfl, rfl⟩
              · have e2 : Y2 = [] := List.eq_nil_of_length_eq_zero (by have : ¬ IntKind.i64.wrap (((mid + m : Nat) : Int) - (st : Int)) < (b : Int) := of_decide_eq_false e2
                                                                       rw [he] at this; omega)
                have eM : M2 = X2 ++ Y2 := by rw [← hM2, e2, mrg_nil, List.append_nil]
                repeat' ((first | refine br_t rfl ?_ | refine br_f rfl ?_ | refine IdxN.lit rfl rfl ?_ | intro _); conv => whnf)
                refine ⟨[70], by simp, [_], rfl, rfl, ?_⟩
                rw [← hLB, eM, List.map_append, List.append_assoc]
            · have e1 : X2 = [] := List.eq_nil_of_length_eq_zero (by have : ¬ (mid : Int) < IntKind.i64.wrap (((mid + m : Nat) : Int) - (st : Int)) := of_decide_eq_false e1
                                                                     rw [he] at this; omega)
              have eM : M2 = X2 ++ Y2 := by rw [← hM2, e1, mrg, List.nil_append]
              repeat' ((first | refine br_t rfl ?_ | refine br_f rfl ?_ | refine IdxN.lit rfl rfl ?_ | intro _); conv => whnf)
              refine ⟨[70], by simp, [_], rfl, rfl, ?_⟩
              rw [← hLB, eM, List.map_append, List.append_assoc]
          · have d2 : Y1 = [] := List.eq_nil_of_length_eq_zero (by have : ¬ (st : Int) < (mid : Int) := of_decide_eq_false d2
                                                                   omega)
            have eM : M1 = X1 ++ Y1 := by rw [← hM1, d2, mrg_nil, List.append_nil]
            have hLB : P ++ (M1.map vals ++ (X2.map vals ++ (Y2.map vals ++ S))) = L0 := by rw [← hLA, eM, List.map_append, List.append_assoc]
            repeat' ((first | refine br_t rfl ?_ | refine br_f rfl ?_ | refine IdxN.lit rfl rfl ?_ | intro _); conv => whnf)
            apply br <;> intro e1 <;> conv => whnf
            · have e1 : st < m := by have : (mid : Int) < IntKind.i64.wrap (((mid + m : Nat) : Int) - (st : Int)) := of_decide_eq_true e1
                                     rw [he] at this; omega
              apply br <;> intro e2 <;> conv => whnf
              · have e2 : mid + m - st < b := by have : IntKind.i64.wrap (((mid + m : Nat) : Int) - (st : Int)) < (b : Int) := of_decide_eq_true e2
                                                 rw [he] at this; omega
                have key := ih X2 Y2 (P ++ M1.map vals) S V' le_auto (by rw [eX, eY, List.length_append, List.length_append]; omega) (by omega) (by omega) sX2 sY2 (by rw [List.length_append, List.length_map]; omega)
                unfold SymAt at key
                simp only [List.append_assoc] at key
                rw [hM2, hLB] at key
                refine CallN.eq (args5 (b' := .int .i64 (P ++ M1.map vals).length) (c' := .int .i64 ((P ++ M1.map vals).length + X2.length : Nat)) (d' := .int .i64 ((P ++ M1.map vals).length + X2.length + Y2.length : Nat)) (int_eq (by show ((mid : Nat) : Int) = _; rw [List.length_append, List.length_map]; omega)) (int_eq (by show IntKind.i64.wrap (((mid + m : Nat) : Int) - (st : Int)) = _; rw [he, List.length_append, List.length_map]; omega)) (int_eq (by show ((b : Nat) : Int) = _; rw [List.length_append, List.length_map]; omega))) ?_
                refine CallN.box 70 rfl key fun v V7 bs hV7 ⟨hv, hb3⟩ => ⟨ty, _, hb3, ?_⟩
                subst hv; conv => whnf
                repeat' ((first | refine br_t rfl ?_ | refine br_f rfl ?_ | refine IdxN.lit rfl rfl ?_ | intro _); conv => whnf)
                exact ⟨[70], by simp, [_], rfl, rfl, rfl⟩
              · have e2 : Y2 = [] := List.eq_nil_of_length_eq_zero (by have : ¬ IntKind.i64.wrap (((mid + m : Nat) : Int) - (st : Int)) < (b : Int) := of_decide_eq_false e2
                                                                       rw [he] at this; omega)
                have eM : M2 = X2 ++ Y2 := by rw [← hM2, e2, mrg_nil, List.append_nil]
                repeat' ((first | refine br_t rfl ?_ | refine br_f rfl ?_ | refine IdxN.lit rfl rfl ?_ | intro _); conv => whnf)
                refine ⟨[70], by simp, [_], rfl, rfl, ?_⟩
                rw [← hLB, eM, List.map_append, List.append_assoc]
            · have e1 : X2 = [] := List.eq_nil_of_length_eq_zero (by have : ¬ (mid : Int) < IntKind.i64.wrap (((mid + m : Nat) : Int) - (st : Int)) := of_decide_eq_false e1
                                                                     rw [he] at this; omega)
              have eM : M2 = X2 ++ Y2 := by rw [← hM2, e1, mrg, List.nil_append]
              repeat' ((first | refine br_t rfl ?_ | refine br_f rfl ?_ | refine IdxN.lit rfl rfl ?_ | intro _); conv => whnf)
              refine ⟨[70], by simp, [_], rfl, rfl, ?_⟩
              rw [← hLB, eM, List.map_append, List.append_assoc]
        · have d1 : X1 = [] := List.eq_nil_of_length_eq_zero (by have : ¬ (a : Int) < (st : Int) := of_decide_eq_false d1
                                                                 omega)
          have eM : M1 = X1 ++ Y1 := by rw [← hM1, d1, mrg, List.nil_append]
          have hLB : P ++ (M1.map vals ++ (X2.map vals ++ (Y2.map vals ++ S))) = L0 := by rw [← hLA, eM, List.map_append, List.append_assoc]
          repeat' ((first | refine br_t rfl ?_ | refine br_f rfl ?_ | refine IdxN.lit rfl rfl ?_ | intro _); conv => whnf)
          apply br <;> intro e1 <;> conv => whnf
          · have e1 : st < m := by have : (mid : Int) < IntKind.i64.wrap (((mid + m : Nat) : Int) - (st : Int)) := of_decide_eq_true e1
                                   rw [he] at this; omega
            apply br <;> intro e2 <;> conv => whnf
            · have e2 : mid + m - st < b := by have : IntKind.i64.wrap (((mid + m : Nat) : Int) - (st : Int)) < (b : Int) := of_decide_eq_true e2
                                               rw [he] at this; omega
              have key := ih X2 Y2 (P ++ M1.map vals) S V' le_auto (by rw [eX, eY, List.length_append, List.length_append]; omega) (by omega) (by omega) sX2 sY2 (by rw [List.length_append, List.length_map]; omega)
              unfold SymAt at key
              simp only [List.append_assoc] at key
              rw [hM2, hLB] at key
              refine CallN.eq (args5 (b' := .int .i64 (P ++ M1.map vals).length) (c' := .int .i64 ((P ++ M1.map vals).length + X2.length : Nat)) (d' := .int .i64 ((P ++ M1.map vals).length + X2.length + Y2.length : Nat)) (int_eq (by show ((mid : Nat) : Int) = _; rw [List.length_append, List.length_map]; omega)) (int_eq (by show IntKind.i64.wrap (((mid + m : Nat) : Int) - (st : Int)) = _; rw [he, List.length_append, List.length_map]; omega)) (int_eq (by show ((b : Nat) : Int) = _; rw [List.length_append, List.length_map]; omega))) ?_
              refine CallN.box 70 rfl key fun v V7 bs hV7 ⟨hv, hb3⟩ => ⟨ty, _, hb3, ?_⟩
              subst hv; conv => whnf
              repeat' ((first | refine br_t rfl ?_ | refine br_f rfl ?_ | refine IdxN.lit rfl rfl ?_ | intro _); conv => whnf)
              exact ⟨[70], by simp, [_], rfl, rfl, rfl⟩
            · have e2 : Y2 = [] := List.eq_nil_of_length_eq_zero (by have : ¬ IntKind.i64.wrap (((mid + m : Nat) : Int) - (st : Int)) < (b : Int) := of_decide_eq_false e2
                                                                     rw [he] at this; omega)
              have eM : M2 = X2 ++ Y2 := by rw [← hM2, e2, mrg_nil, List.append_nil]
              repeat' ((first | refine br_t rfl ?_ | refine br_f rfl ?_ | refine IdxN.lit rfl rfl ?_ | intro _); conv => whnf)
              refine ⟨[70], by simp, [_], rfl, rfl, ?_⟩
              rw [← hLB, eM, List.map_append, List.append_assoc]
          · have e1 : X2 = [] := List.eq_nil_of_length_eq_zero (by have : ¬ (mid : Int) < IntKind.i64.wrap (((mid + m : Nat) : Int) - (st : Int)) := of_decide_eq_false e1
                                                                   rw [he] at this; omega)
            have eM : M2 = X2 ++ Y2 := by rw [← hM2, e1, mrg, List.nil_append]
            repeat' ((first | refine br_t rfl ?_ | refine br_f rfl ?_ | refine IdxN.lit rfl rfl ?_ | intro _); conv => whnf)
            refine ⟨[70], by simp, [_], rfl, rfl, ?_⟩
            rw [← hLB, eM, List.map_append, List.append_assoc]
include hh in
theorem symMerge_spec (hw : Weak2 (ltC cf)) (p1 p2 : Value) (blk len cap : Nat) (ty : TypeId) (hl : len ≤ 100000) : ∀ (k : Nat) (X Y : List α) (P S : List Value) (V : View),
  (∀ i j V', V.le V' → PSpec 63 [vals i, vals j, p1, p2] V' (fun v _ => v = .int .i64 (cf i j))) →
  X.length + Y.length ≤ k → 0 < X.length → 0 < Y.length → Srt (ltC cf) X → Srt (ltC cf) Y → P.length + X.length + Y.length ≤ len → SymAt vals cf p1 p2 blk len cap ty X Y P S V
 | 0, X, Y, P, S, V, _, hk, hX0, _, _, _, _ => by omega
 | k + 1, X, Y, P, S, V, hcmp, hk, hX0, hY0, hX, hY, hlen => by
  match X, Y, hX0, hY0 with
  | [x], Y, _, hY0 =>
   have := sym1_spec vals hh cf hw p1 p2 blk len cap ty P S x Y V hcmp hY hY0 hlen hl
   simp only [List.append_assoc] at this
   exact this
  | x1 :: x2 :: X, [y], _, _ =>
   have := sym2_spec vals hh cf hw p1 p2 blk len cap ty P S (x1 :: x2 :: X) y V hcmp hX (by simp) hlen hl
   simp only [List.append_assoc] at this
   exact this
  | x1 :: x2 :: X, y1 :: y2 :: Y, _, _ =>
   refine sym3_spec vals hh cf hw p1 p2 blk len cap ty P S (x1 :: x2 :: X) (y1 :: y2 :: Y) V hcmp (fun X' Y' P' S' V' hV hlt h1 h2 h3 h4 h5 => ?_) hX hY (by simp) (by simp) hlen hl
   exact symMerge_spec hw p1 p2 blk len cap ty hl k X' Y' P' S' V' (fun i j V'' h => hcmp i j V'' (View.le_trans hV h)) (by omega) h1 h2 h3 h4 h5
end
end Go.Proofs.YtenpginanhnkbaaGreat
end
