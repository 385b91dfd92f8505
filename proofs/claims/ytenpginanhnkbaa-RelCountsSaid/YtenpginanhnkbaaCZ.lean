/- One part of a proof: an evaluator of the model, shown right, and contracts that it yields. No condition beyond those that each theorem names. -/
import Derived.Test.YtenpginanhnkbaaCY
section
set_option linter.unusedSimpArgs false
set_option linter.unusedVariables false
namespace Go.Proofs.Ytenpginanhnkbaa
open Go.X
set_option maxRecDepth 100000

theorem repCol {V : View} (tb nm : ByteArray) : RepX V (.col tb nm) (colN tb nm) := ⟨⟨rfl, rfl, rfl⟩, rfl⟩
theorem Parts.colsL {V : View} {its : List Item} {kinds : List Int} {s : StV} (h : Parts V its kinds s) : ColsL V s.order := by
  rcases h.order with h | ⟨g, tb, nm, h1, h2⟩
  · exact .inl h
  · exact .inr (.inl ⟨g, tb, nm, h1, h2⟩)
theorem OnAt.colsL {V : View} {its : List Item} {kinds : List Int} {on : Option Addr × Nat × Nat} (h : OnAt V its kinds on) : ColsL V on := by
  obtain ⟨g, kd, x1, x2, tb1, tb2, h1, h2, _⟩ := h
  exact .inr (.inr ⟨g, tb1, x1.nm, tb2, x2.nm, h1, h2⟩)
theorem SelAt.lists {V : View} {t o : TabV} {s : StV} (h : SelAt V t o s) : ColsL V s.on ∧ ColsL V s.order := by
  rcases h with ⟨_, _, ⟨_, ho, hp⟩ | ⟨_, ho, hp⟩⟩
  · exact ⟨.inl ho, hp.colsL⟩
  · exact ⟨ho.colsL, hp.colsL⟩
theorem Parts.mono {V V' : View} {its : List Item} {kinds : List Int} {s : StV} (h : Parts V its kinds s) (hV : V.le V') : Parts V' its kinds s := by
  obtain ⟨h1, ⟨l, h2, h3, h4⟩, h5⟩ := h
  refine ⟨h1.mono hV, ⟨l, h2, h3, h4.mono hV⟩, ?_⟩
  rcases h5 with h5 | ⟨g, tb, nm, h5, h6⟩
  · exact .inl h5
  · exact .inr ⟨g, tb, nm, h5, h6.mono hV⟩
theorem SelAt.mono {V V' : View} {t o : TabV} {s : StV} (h : SelAt V t o s) (hV : V.le V') : SelAt V' t o s := by
  obtain ⟨h1, h2, ⟨h3, h4, h5⟩ | ⟨h3, h4, h5⟩⟩ := h
  · exact ⟨h1, h2, .inl ⟨h3, h4, h5.mono hV⟩⟩
  · exact ⟨h1, h2, .inr ⟨h3, h4.mono hV, h5.mono hV⟩⟩
set_option maxHeartbeats 8000000 in
theorem rselT_spec (s : StV) (r p q p2 : Nat) (V : View) (hr : V.has r 0 (tvcells (tT p q) ++ tvcells (tU p2))) (ht : TabOk V (tT p q)) (ho : TabOk V (tU p2)) (hsel : SelAt V (tT p q) (tU p2) s) :
    PSpec 85 [tv3 r, stv s, tabv (tT p q)] V (fun v _ => ∃ e, v = .int .i64 e) := by
  obtain ⟨skind, stb, snm, s3, s4, s5, ⟨ib, il, ic⟩, sjoin, son, swh, sord, sdesc, sinn⟩ := s
  obtain ⟨h1, h2, h3⟩ := hsel
  have h1 : skind = 6 := h1
  have h2 : stb = (tT p q).nm := h2
  subst h1
  refine does_of_zfun [(18, [(0, []), (1, []), (2, []), (3, []), (4, []), (5, []), (6, [])])] mixed (args := [.v _, .v _, .v _]) (ms := []) Try.func85 (by kernel_rfl) rfl ?_
  conv => whnf
  repeat' first
    | (refine br_t rfl ?_; conv => whnf)
    | (refine br_f rfl ?_; conv => whnf)
    | (refine IdxN.lit rfl rfl ?_; conv => whnf)
    | (intro _; conv => whnf)
  rename_i b3 b4 b5
  refine CallN.news (colsR_spec (tT p q) _ (ht.mono (by repeat (first | exact View.le_refl _ | assumption | exact View.addU_le _ _ _ | refine View.le_trans ?_ (by assumption) | refine View.le_trans ?_ (View.addU_le _ _ _))))) fun v Vc bs hVc ⟨a, ac, c, cc, hv, hA, hC, hb⟩ => ⟨[(300, .row (.slice a 3 ac) 61 3 3), (301, .row (.slice c 3 cc) 3 1 3)], by rw [hb]; rfl, by simp, fun x hx => by (simp only [List.mem_cons, List.not_mem_nil, or_false] at hx; rcases hx with rfl | rfl <;> rfl), ?_⟩
  subst hv
  conv => whnf
  repeat' first
    | (refine br_t rfl ?_; conv => whnf)
    | (refine br_f rfl ?_; conv => whnf)
    | (refine IdxN.lit rfl rfl ?_; conv => whnf)
    | (intro _; conv => whnf)
  rcases h3 with ⟨hj, hon, hp⟩ | ⟨hj, hon, hp⟩
  · have hj : sjoin = noText := hj
    subst hj
    refine br_f (by simp [noText, ByteArray.toList_eq]) ?_
    conv => whnf
    repeat' first
      | (refine br_t rfl ?_; conv => whnf)
      | (refine br_f rfl ?_; conv => whnf)
      | (refine IdxN.lit rfl rfl ?_; conv => whnf)
      | (intro _; conv => whnf)
    obtain ⟨p5, o5, hb5, hh5⟩ := cells_some hA (by intro h; cases h)
    obtain ⟨q5, u5, hd5, hj5⟩ := cells_some hC (by intro h; cases h)
    subst hb5; subst hd5
    have hat : ColsAt Vc (itemsOf (tT p q)) (kindsOf (tT p q)) p5 o5 q5 u5 := ⟨hh5, hj5, rfl, by show 3 ≤ 20; decide⟩
    obtain ⟨l, hil, hl4, hic⟩ := hp.items
    have hil : il = l.length := hil
    subst hil
    have hic : V.cells (.slice ib l.length ic) (l.flatMap icells) := hic
    have hor := hp.order
    have hwh := hp.wh
    refine loopz (σ := Nat × Int × Int)
      (fun x => [(4, .own 4 0), (7, .v (.slice (some ⟨p5, o5, none⟩) 3 ac)), (8, .v (.slice (some ⟨q5, u5, none⟩) 3 cc)), (17, .v (.int .i64 x.2.1)), (18, .v (.int .i64 x.2.2)), (19, .v (.int .i64 x.1))])
      (fun _ => [(4, .box b4 70 [.int .i64 6, .string (stb), .string snm, .slice s3.1 s3.2.1 s3.2.2, .slice s4.1 s4.2.1 s4.2.2, .slice s5.1 s5.2.1 s5.2.2, .slice ib l.length ic, .string (noText), .slice (son : Option Addr × Nat × Nat).1 (son : Option Addr × Nat × Nat).2.1 (son : Option Addr × Nat × Nat).2.2, .slice swh.1 swh.2.1 swh.2.2, .slice sord.1 sord.2.1 sord.2.2, .bool sdesc, .slice sinn.1 sinn.2.1 sinn.2.2])])
      (fun j x V' => V.le V' ∧ ColsAt V' (itemsOf (tT p q)) (kindsOf (tT p q)) p5 o5 q5 u5 ∧ x.1 ≤ l.length ∧ l.length - x.1 = j) l.length (0, 0, 0) ?_ ?_ ?_ ?_
    · repeat' (first | exact sees_nil | refine sees_cons rfl rfl rfl ?_)
    · repeat' (first | exact keeps_nil | refine keeps_cons rfl ?_ | refine keeps_free ?_)
    · exact ⟨(by repeat (first | exact View.le_refl _ | assumption | exact View.addU_le _ _ _ | refine View.le_trans ?_ (by assumption) | refine View.le_trans ?_ (View.addU_le _ _ _))), (hat).mono (by repeat (first | exact View.le_refl _ | assumption | exact View.addU_le _ _ _ | refine View.le_trans ?_ (by assumption) | refine View.le_trans ?_ (View.addU_le _ _ _))), Nat.zero_le _, rfl⟩
    rintro j ⟨i, na, np⟩ V' ⟨hV, hat', hi, hj⟩
    simp only at hi hj
    conv => whnf
    apply br <;> intro g1 <;> conv => whnf
    · have hi1 : i < l.length := by have := of_decide_eq_true g1; omega
      obtain ⟨x, hx⟩ : ∃ x, l[i]? = some x := ⟨_, List.getElem?_eq_getElem hi1⟩
      obtain ⟨pi, oi, hbi, hhi⟩ := cells_some hic (by
        obtain ⟨y, l', rfl⟩ := List.exists_cons_of_ne_nil (fun e : l = [] => by rw [e] at hi1; cases hi1)
        intro h; cases h)
      subst hbi
      have hxc := has_flat (n := 3) (fun _ => rfl) l oi hhi i x hx
      obtain ⟨xa, xt, xn⟩ := x
      repeat (first | (intro _; conv => whnf) | (refine br_t rfl ?_; conv => whnf) | (refine br_f rfl ?_; conv => whnf) | (refine IdxN.lit rfl rfl ?_; conv => whnf) | (refine br_t g2 ?_; conv => whnf) | (refine br_f g2 ?_; conv => whnf) | (refine br_t g3 ?_; conv => whnf) | (refine br_f g3 ?_; conv => whnf) | (refine br_t g4 ?_; conv => whnf) | (refine br_f g4 ?_; conv => whnf) | (refine br_t g5 ?_; conv => whnf) | (refine br_f g5 ?_; conv => whnf) | (refine br_t g6 ?_; conv => whnf) | (refine br_f g6 ?_; conv => whnf) | (refine br_t g7 ?_; conv => whnf) | (refine br_f g7 ?_; conv => whnf) | (refine br_t g8 ?_; conv => whnf) | (refine br_f g8 ?_; conv => whnf))
      refine IdxN.of (by omega) (by omega) ?_
      conv => whnf
      refine LoadN.of (hxc.mono (by repeat (first | exact View.le_refl _ | assumption | exact View.addU_le _ _ _ | refine View.le_trans ?_ (by assumption) | refine View.le_trans ?_ (View.addU_le _ _ _)))) 0 rfl rfl ?_
      conv => whnf
      repeat (first | (intro _; conv => whnf) | (refine br_t rfl ?_; conv => whnf) | (refine br_f rfl ?_; conv => whnf) | (refine IdxN.lit rfl rfl ?_; conv => whnf) | (refine br_t g2 ?_; conv => whnf) | (refine br_f g2 ?_; conv => whnf) | (refine br_t g3 ?_; conv => whnf) | (refine br_f g3 ?_; conv => whnf) | (refine br_t g4 ?_; conv => whnf) | (refine br_f g4 ?_; conv => whnf) | (refine br_t g5 ?_; conv => whnf) | (refine br_f g5 ?_; conv => whnf) | (refine br_t g6 ?_; conv => whnf) | (refine br_f g6 ?_; conv => whnf) | (refine br_t g7 ?_; conv => whnf) | (refine br_f g7 ?_; conv => whnf) | (refine br_t g8 ?_; conv => whnf) | (refine br_f g8 ?_; conv => whnf))
      apply br <;> intro g2 <;> conv => whnf
      · repeat (first | (intro _; conv => whnf) | (refine br_t rfl ?_; conv => whnf) | (refine br_f rfl ?_; conv => whnf) | (refine IdxN.lit rfl rfl ?_; conv => whnf) | (refine br_t g2 ?_; conv => whnf) | (refine br_f g2 ?_; conv => whnf) | (refine br_t g3 ?_; conv => whnf) | (refine br_f g3 ?_; conv => whnf) | (refine br_t g4 ?_; conv => whnf) | (refine br_f g4 ?_; conv => whnf) | (refine br_t g5 ?_; conv => whnf) | (refine br_f g5 ?_; conv => whnf) | (refine br_t g6 ?_; conv => whnf) | (refine br_f g6 ?_; conv => whnf) | (refine br_t g7 ?_; conv => whnf) | (refine br_f g7 ?_; conv => whnf) | (refine br_t g8 ?_; conv => whnf) | (refine br_f g8 ?_; conv => whnf))
        exact ret_pure ⟨_, rfl⟩
      · repeat (first | (intro _; conv => whnf) | (refine br_t rfl ?_; conv => whnf) | (refine br_f rfl ?_; conv => whnf) | (refine IdxN.lit rfl rfl ?_; conv => whnf) | (refine br_t g2 ?_; conv => whnf) | (refine br_f g2 ?_; conv => whnf) | (refine br_t g3 ?_; conv => whnf) | (refine br_f g3 ?_; conv => whnf) | (refine br_t g4 ?_; conv => whnf) | (refine br_f g4 ?_; conv => whnf) | (refine br_t g5 ?_; conv => whnf) | (refine br_f g5 ?_; conv => whnf) | (refine br_t g6 ?_; conv => whnf) | (refine br_f g6 ?_; conv => whnf) | (refine br_t g7 ?_; conv => whnf) | (refine br_f g7 ?_; conv => whnf) | (refine br_t g8 ?_; conv => whnf) | (refine br_f g8 ?_; conv => whnf))
        apply br <;> intro g3 <;> conv => whnf
        · repeat (first | (intro _; conv => whnf) | (refine br_t rfl ?_; conv => whnf) | (refine br_f rfl ?_; conv => whnf) | (refine IdxN.lit rfl rfl ?_; conv => whnf) | (refine br_t g2 ?_; conv => whnf) | (refine br_f g2 ?_; conv => whnf) | (refine br_t g3 ?_; conv => whnf) | (refine br_f g3 ?_; conv => whnf) | (refine br_t g4 ?_; conv => whnf) | (refine br_f g4 ?_; conv => whnf) | (refine br_t g5 ?_; conv => whnf) | (refine br_f g5 ?_; conv => whnf) | (refine br_t g6 ?_; conv => whnf) | (refine br_f g6 ?_; conv => whnf) | (refine br_t g7 ?_; conv => whnf) | (refine br_f g7 ?_; conv => whnf) | (refine br_t g8 ?_; conv => whnf) | (refine br_f g8 ?_; conv => whnf))
          exact ret_pure ⟨_, rfl⟩
        · repeat (first | (intro _; conv => whnf) | (refine br_t rfl ?_; conv => whnf) | (refine br_f rfl ?_; conv => whnf) | (refine IdxN.lit rfl rfl ?_; conv => whnf) | (refine br_t g2 ?_; conv => whnf) | (refine br_f g2 ?_; conv => whnf) | (refine br_t g3 ?_; conv => whnf) | (refine br_f g3 ?_; conv => whnf) | (refine br_t g4 ?_; conv => whnf) | (refine br_f g4 ?_; conv => whnf) | (refine br_t g5 ?_; conv => whnf) | (refine br_f g5 ?_; conv => whnf) | (refine br_t g6 ?_; conv => whnf) | (refine br_f g6 ?_; conv => whnf) | (refine br_t g7 ?_; conv => whnf) | (refine br_f g7 ?_; conv => whnf) | (refine br_t g8 ?_; conv => whnf) | (refine br_f g8 ?_; conv => whnf))
          apply br <;> intro g4 <;> conv => whnf
          · repeat (first | (intro _; conv => whnf) | (refine br_t rfl ?_; conv => whnf) | (refine br_f rfl ?_; conv => whnf) | (refine IdxN.lit rfl rfl ?_; conv => whnf) | (refine br_t g2 ?_; conv => whnf) | (refine br_f g2 ?_; conv => whnf) | (refine br_t g3 ?_; conv => whnf) | (refine br_f g3 ?_; conv => whnf) | (refine br_t g4 ?_; conv => whnf) | (refine br_f g4 ?_; conv => whnf) | (refine br_t g5 ?_; conv => whnf) | (refine br_f g5 ?_; conv => whnf) | (refine br_t g6 ?_; conv => whnf) | (refine br_f g6 ?_; conv => whnf) | (refine br_t g7 ?_; conv => whnf) | (refine br_f g7 ?_; conv => whnf) | (refine br_t g8 ?_; conv => whnf) | (refine br_f g8 ?_; conv => whnf))
            apply br <;> intro g5 <;> conv => whnf
            · repeat (first | (intro _; conv => whnf) | (refine br_t rfl ?_; conv => whnf) | (refine br_f rfl ?_; conv => whnf) | (refine IdxN.lit rfl rfl ?_; conv => whnf) | (refine br_t g2 ?_; conv => whnf) | (refine br_f g2 ?_; conv => whnf) | (refine br_t g3 ?_; conv => whnf) | (refine br_f g3 ?_; conv => whnf) | (refine br_t g4 ?_; conv => whnf) | (refine br_f g4 ?_; conv => whnf) | (refine br_t g5 ?_; conv => whnf) | (refine br_f g5 ?_; conv => whnf) | (refine br_t g6 ?_; conv => whnf) | (refine br_f g6 ?_; conv => whnf) | (refine br_t g7 ?_; conv => whnf) | (refine br_f g7 ?_; conv => whnf) | (refine br_t g8 ?_; conv => whnf) | (refine br_f g8 ?_; conv => whnf))
              exact ret_pure ⟨_, rfl⟩
            · repeat (first | (intro _; conv => whnf) | (refine br_t rfl ?_; conv => whnf) | (refine br_f rfl ?_; conv => whnf) | (refine IdxN.lit rfl rfl ?_; conv => whnf) | (refine br_t g2 ?_; conv => whnf) | (refine br_f g2 ?_; conv => whnf) | (refine br_t g3 ?_; conv => whnf) | (refine br_f g3 ?_; conv => whnf) | (refine br_t g4 ?_; conv => whnf) | (refine br_f g4 ?_; conv => whnf) | (refine br_t g5 ?_; conv => whnf) | (refine br_f g5 ?_; conv => whnf) | (refine br_t g6 ?_; conv => whnf) | (refine br_f g6 ?_; conv => whnf) | (refine br_t g7 ?_; conv => whnf) | (refine br_f g7 ?_; conv => whnf) | (refine br_t g8 ?_; conv => whnf) | (refine br_f g8 ?_; conv => whnf))
              apply br <;> intro g6 <;> conv => whnf
              · repeat (first | (intro _; conv => whnf) | (refine br_t rfl ?_; conv => whnf) | (refine br_f rfl ?_; conv => whnf) | (refine IdxN.lit rfl rfl ?_; conv => whnf) | (refine br_t g2 ?_; conv => whnf) | (refine br_f g2 ?_; conv => whnf) | (refine br_t g3 ?_; conv => whnf) | (refine br_f g3 ?_; conv => whnf) | (refine br_t g4 ?_; conv => whnf) | (refine br_f g4 ?_; conv => whnf) | (refine br_t g5 ?_; conv => whnf) | (refine br_f g5 ?_; conv => whnf) | (refine br_t g6 ?_; conv => whnf) | (refine br_f g6 ?_; conv => whnf) | (refine br_t g7 ?_; conv => whnf) | (refine br_f g7 ?_; conv => whnf) | (refine br_t g8 ?_; conv => whnf) | (refine br_f g8 ?_; conv => whnf))
                have hwi := wrap_nat (i := i) (by omega)
                refine ⟨j - 1, (i + 1, na, (IntKind.i64.wrap (np + 1))), by omega, ?_, ?_, View.le_trans hV (by repeat (first | exact View.le_refl _ | assumption | exact View.addU_le _ _ _ | refine View.le_trans ?_ (by assumption) | refine View.le_trans ?_ (View.addU_le _ _ _))), hat'.mono (by repeat (first | exact View.le_refl _ | assumption | exact View.addU_le _ _ _ | refine View.le_trans ?_ (by assumption) | refine View.le_trans ?_ (View.addU_le _ _ _))), hi1, by show _ - (i + 1) = _; omega⟩
                · repeat' (first | exact sees_nil | refine sees_cons rfl rfl rfl ?_ | refine sees_cons rfl rfl (by rw [← hwi]; rfl) ?_)
                · repeat' (first | exact keeps_nil | refine keeps_cons rfl ?_ | refine keeps_free ?_)
              · repeat (first | (intro _; conv => whnf) | (refine br_t rfl ?_; conv => whnf) | (refine br_f rfl ?_; conv => whnf) | (refine IdxN.lit rfl rfl ?_; conv => whnf) | (refine br_t g2 ?_; conv => whnf) | (refine br_f g2 ?_; conv => whnf) | (refine br_t g3 ?_; conv => whnf) | (refine br_f g3 ?_; conv => whnf) | (refine br_t g4 ?_; conv => whnf) | (refine br_f g4 ?_; conv => whnf) | (refine br_t g5 ?_; conv => whnf) | (refine br_f g5 ?_; conv => whnf) | (refine br_t g6 ?_; conv => whnf) | (refine br_f g6 ?_; conv => whnf) | (refine br_t g7 ?_; conv => whnf) | (refine br_f g7 ?_; conv => whnf) | (refine br_t g8 ?_; conv => whnf) | (refine br_f g8 ?_; conv => whnf))
                have hwi := wrap_nat (i := i) (by omega)
                refine ⟨j - 1, (i + 1, (IntKind.i64.wrap (na + 1)), np), by omega, ?_, ?_, View.le_trans hV (by repeat (first | exact View.le_refl _ | assumption | exact View.addU_le _ _ _ | refine View.le_trans ?_ (by assumption) | refine View.le_trans ?_ (View.addU_le _ _ _))), hat'.mono (by repeat (first | exact View.le_refl _ | assumption | exact View.addU_le _ _ _ | refine View.le_trans ?_ (by assumption) | refine View.le_trans ?_ (View.addU_le _ _ _))), hi1, by show _ - (i + 1) = _; omega⟩
                · repeat' (first | exact sees_nil | refine sees_cons rfl rfl rfl ?_ | refine sees_cons rfl rfl (by rw [← hwi]; rfl) ?_)
                · repeat' (first | exact keeps_nil | refine keeps_cons rfl ?_ | refine keeps_free ?_)
          · repeat (first | (intro _; conv => whnf) | (refine br_t rfl ?_; conv => whnf) | (refine br_f rfl ?_; conv => whnf) | (refine IdxN.lit rfl rfl ?_; conv => whnf) | (refine br_t g2 ?_; conv => whnf) | (refine br_f g2 ?_; conv => whnf) | (refine br_t g3 ?_; conv => whnf) | (refine br_f g3 ?_; conv => whnf) | (refine br_t g4 ?_; conv => whnf) | (refine br_f g4 ?_; conv => whnf) | (refine br_t g5 ?_; conv => whnf) | (refine br_f g5 ?_; conv => whnf) | (refine br_t g6 ?_; conv => whnf) | (refine br_f g6 ?_; conv => whnf) | (refine br_t g7 ?_; conv => whnf) | (refine br_f g7 ?_; conv => whnf) | (refine br_t g8 ?_; conv => whnf) | (refine br_f g8 ?_; conv => whnf))
            apply br <;> intro g6 <;> conv => whnf
            · repeat (first | (intro _; conv => whnf) | (refine br_t rfl ?_; conv => whnf) | (refine br_f rfl ?_; conv => whnf) | (refine IdxN.lit rfl rfl ?_; conv => whnf) | (refine br_t g2 ?_; conv => whnf) | (refine br_f g2 ?_; conv => whnf) | (refine br_t g3 ?_; conv => whnf) | (refine br_f g3 ?_; conv => whnf) | (refine br_t g4 ?_; conv => whnf) | (refine br_f g4 ?_; conv => whnf) | (refine br_t g5 ?_; conv => whnf) | (refine br_f g5 ?_; conv => whnf) | (refine br_t g6 ?_; conv => whnf) | (refine br_f g6 ?_; conv => whnf) | (refine br_t g7 ?_; conv => whnf) | (refine br_f g7 ?_; conv => whnf) | (refine br_t g8 ?_; conv => whnf) | (refine br_f g8 ?_; conv => whnf))
              refine CallN.pure (at_spec (itemsOf (tT p q)) 3 p5 ac o5 ⟨0, v0, xt, xn, none, 0, 0⟩ _ (hat'.hasI.mono (by repeat (first | exact View.le_refl _ | assumption | exact View.addU_le _ _ _ | refine View.le_trans ?_ (by assumption) | refine View.le_trans ?_ (View.addU_le _ _ _)))) (by show 3 ≤ 1000000; decide) (by decide)) fun v V7 _ hV7 hv => ?_
              subst hv
              conv => whnf
              apply br <;> intro g7 <;> conv => whnf
              · repeat (first | (intro _; conv => whnf) | (refine br_t rfl ?_; conv => whnf) | (refine br_f rfl ?_; conv => whnf) | (refine IdxN.lit rfl rfl ?_; conv => whnf) | (refine br_t g2 ?_; conv => whnf) | (refine br_f g2 ?_; conv => whnf) | (refine br_t g3 ?_; conv => whnf) | (refine br_f g3 ?_; conv => whnf) | (refine br_t g4 ?_; conv => whnf) | (refine br_f g4 ?_; conv => whnf) | (refine br_t g5 ?_; conv => whnf) | (refine br_f g5 ?_; conv => whnf) | (refine br_t g6 ?_; conv => whnf) | (refine br_f g6 ?_; conv => whnf) | (refine br_t g7 ?_; conv => whnf) | (refine br_f g7 ?_; conv => whnf) | (refine br_t g8 ?_; conv => whnf) | (refine br_f g8 ?_; conv => whnf))
                exact ret_pure ⟨_, rfl⟩
              · have g7' : (atA xt xn ((itemsOf (tT p q)).take 3)).2 = 0 := by simpa using g7
                obtain ⟨h0, h1⟩ := atA_range g7'
                obtain ⟨kk, hkk⟩ := Int.eq_ofNat_of_zero_le h0
                have h1 : (atA xt xn ((itemsOf (tT p q)).take 3)).1 < ((3 : Nat) : Int) := h1
                obtain ⟨kv, hkv⟩ : ∃ y, (kindsOf (tT p q))[kk]? = some y := ⟨_, List.getElem?_eq_getElem (by show kk < 3; omega)⟩
                have hone := has_one hat'.hasK (i := kk) (c := .int .i64 kv) (by rw [List.getElem?_map, hkv]; rfl)
                repeat (first | (intro _; conv => whnf) | (refine br_t rfl ?_; conv => whnf) | (refine br_f rfl ?_; conv => whnf) | (refine IdxN.lit rfl rfl ?_; conv => whnf) | (refine br_t g2 ?_; conv => whnf) | (refine br_f g2 ?_; conv => whnf) | (refine br_t g3 ?_; conv => whnf) | (refine br_f g3 ?_; conv => whnf) | (refine br_t g4 ?_; conv => whnf) | (refine br_f g4 ?_; conv => whnf) | (refine br_t g5 ?_; conv => whnf) | (refine br_f g5 ?_; conv => whnf) | (refine br_t g6 ?_; conv => whnf) | (refine br_f g6 ?_; conv => whnf) | (refine br_t g7 ?_; conv => whnf) | (refine br_f g7 ?_; conv => whnf) | (refine br_t g8 ?_; conv => whnf) | (refine br_f g8 ?_; conv => whnf))
                apply br <;> intro g8 <;> conv => whnf
                · repeat (first | (intro _; conv => whnf) | (refine br_t rfl ?_; conv => whnf) | (refine br_f rfl ?_; conv => whnf) | (refine IdxN.lit rfl rfl ?_; conv => whnf) | (refine br_t g2 ?_; conv => whnf) | (refine br_f g2 ?_; conv => whnf) | (refine br_t g3 ?_; conv => whnf) | (refine br_f g3 ?_; conv => whnf) | (refine br_t g4 ?_; conv => whnf) | (refine br_f g4 ?_; conv => whnf) | (refine br_t g5 ?_; conv => whnf) | (refine br_f g5 ?_; conv => whnf) | (refine br_t g6 ?_; conv => whnf) | (refine br_f g6 ?_; conv => whnf) | (refine br_t g7 ?_; conv => whnf) | (refine br_f g7 ?_; conv => whnf) | (refine br_t g8 ?_; conv => whnf) | (refine br_f g8 ?_; conv => whnf))
                  refine IdxN.of (by show 0 ≤ (atA xt xn ((itemsOf (tT p q)).take 3)).1; omega) (by show (atA xt xn ((itemsOf (tT p q)).take 3)).1 < ((3 : Nat) : Int); omega) ?_
                  conv => whnf
                  repeat (first | (intro _; conv => whnf) | (refine br_t rfl ?_; conv => whnf) | (refine br_f rfl ?_; conv => whnf) | (refine IdxN.lit rfl rfl ?_; conv => whnf) | (refine br_t g2 ?_; conv => whnf) | (refine br_f g2 ?_; conv => whnf) | (refine br_t g3 ?_; conv => whnf) | (refine br_f g3 ?_; conv => whnf) | (refine br_t g4 ?_; conv => whnf) | (refine br_f g4 ?_; conv => whnf) | (refine br_t g5 ?_; conv => whnf) | (refine br_f g5 ?_; conv => whnf) | (refine br_t g6 ?_; conv => whnf) | (refine br_f g6 ?_; conv => whnf) | (refine br_t g7 ?_; conv => whnf) | (refine br_f g7 ?_; conv => whnf) | (refine br_t g8 ?_; conv => whnf) | (refine br_f g8 ?_; conv => whnf))
                  refine LoadN.of (hone.mono (by repeat (first | exact View.le_refl _ | assumption | exact View.addU_le _ _ _ | refine View.le_trans ?_ (by assumption) | refine View.le_trans ?_ (View.addU_le _ _ _)))) 0 (by show u5 + ((atA xt xn ((itemsOf (tT p q)).take 3)).1).toNat * 1 = u5 + kk + 0; rw [hkk]; omega) rfl ?_
                  conv => whnf
                  repeat (first | (intro _; conv => whnf) | (refine br_t rfl ?_; conv => whnf) | (refine br_f rfl ?_; conv => whnf) | (refine IdxN.lit rfl rfl ?_; conv => whnf) | (refine br_t g2 ?_; conv => whnf) | (refine br_f g2 ?_; conv => whnf) | (refine br_t g3 ?_; conv => whnf) | (refine br_f g3 ?_; conv => whnf) | (refine br_t g4 ?_; conv => whnf) | (refine br_f g4 ?_; conv => whnf) | (refine br_t g5 ?_; conv => whnf) | (refine br_f g5 ?_; conv => whnf) | (refine br_t g6 ?_; conv => whnf) | (refine br_f g6 ?_; conv => whnf) | (refine br_t g7 ?_; conv => whnf) | (refine br_f g7 ?_; conv => whnf) | (refine br_t g8 ?_; conv => whnf) | (refine br_f g8 ?_; conv => whnf))
                  apply br <;> intro g9 <;> conv => whnf
                  · repeat (first | (intro _; conv => whnf) | (refine br_t rfl ?_; conv => whnf) | (refine br_f rfl ?_; conv => whnf) | (refine IdxN.lit rfl rfl ?_; conv => whnf) | (refine br_t g2 ?_; conv => whnf) | (refine br_f g2 ?_; conv => whnf) | (refine br_t g3 ?_; conv => whnf) | (refine br_f g3 ?_; conv => whnf) | (refine br_t g4 ?_; conv => whnf) | (refine br_f g4 ?_; conv => whnf) | (refine br_t g5 ?_; conv => whnf) | (refine br_f g5 ?_; conv => whnf) | (refine br_t g6 ?_; conv => whnf) | (refine br_f g6 ?_; conv => whnf) | (refine br_t g7 ?_; conv => whnf) | (refine br_f g7 ?_; conv => whnf) | (refine br_t g8 ?_; conv => whnf) | (refine br_f g8 ?_; conv => whnf))
                    exact ret_pure ⟨_, rfl⟩
                  · repeat (first | (intro _; conv => whnf) | (refine br_t rfl ?_; conv => whnf) | (refine br_f rfl ?_; conv => whnf) | (refine IdxN.lit rfl rfl ?_; conv => whnf) | (refine br_t g2 ?_; conv => whnf) | (refine br_f g2 ?_; conv => whnf) | (refine br_t g3 ?_; conv => whnf) | (refine br_f g3 ?_; conv => whnf) | (refine br_t g4 ?_; conv => whnf) | (refine br_f g4 ?_; conv => whnf) | (refine br_t g5 ?_; conv => whnf) | (refine br_f g5 ?_; conv => whnf) | (refine br_t g6 ?_; conv => whnf) | (refine br_f g6 ?_; conv => whnf) | (refine br_t g7 ?_; conv => whnf) | (refine br_f g7 ?_; conv => whnf) | (refine br_t g8 ?_; conv => whnf) | (refine br_f g8 ?_; conv => whnf))
                    have hwi := wrap_nat (i := i) (by omega)
                    refine ⟨j - 1, (i + 1, na, (IntKind.i64.wrap (np + 1))), by omega, ?_, ?_, View.le_trans hV (by repeat (first | exact View.le_refl _ | assumption | exact View.addU_le _ _ _ | refine View.le_trans ?_ (by assumption) | refine View.le_trans ?_ (View.addU_le _ _ _))), hat'.mono (by repeat (first | exact View.le_refl _ | assumption | exact View.addU_le _ _ _ | refine View.le_trans ?_ (by assumption) | refine View.le_trans ?_ (View.addU_le _ _ _))), hi1, by show _ - (i + 1) = _; omega⟩
                    · repeat' (first | exact sees_nil | refine sees_cons rfl rfl rfl ?_ | refine sees_cons rfl rfl (by rw [← hwi]; rfl) ?_)
                    · repeat' (first | exact keeps_nil | refine keeps_cons rfl ?_ | refine keeps_free ?_)
                · repeat (first | (intro _; conv => whnf) | (refine br_t rfl ?_; conv => whnf) | (refine br_f rfl ?_; conv => whnf) | (refine IdxN.lit rfl rfl ?_; conv => whnf) | (refine br_t g2 ?_; conv => whnf) | (refine br_f g2 ?_; conv => whnf) | (refine br_t g3 ?_; conv => whnf) | (refine br_f g3 ?_; conv => whnf) | (refine br_t g4 ?_; conv => whnf) | (refine br_f g4 ?_; conv => whnf) | (refine br_t g5 ?_; conv => whnf) | (refine br_f g5 ?_; conv => whnf) | (refine br_t g6 ?_; conv => whnf) | (refine br_f g6 ?_; conv => whnf) | (refine br_t g7 ?_; conv => whnf) | (refine br_f g7 ?_; conv => whnf) | (refine br_t g8 ?_; conv => whnf) | (refine br_f g8 ?_; conv => whnf))
                  have hwi := wrap_nat (i := i) (by omega)
                  refine ⟨j - 1, (i + 1, na, (IntKind.i64.wrap (np + 1))), by omega, ?_, ?_, View.le_trans hV (by repeat (first | exact View.le_refl _ | assumption | exact View.addU_le _ _ _ | refine View.le_trans ?_ (by assumption) | refine View.le_trans ?_ (View.addU_le _ _ _))), hat'.mono (by repeat (first | exact View.le_refl _ | assumption | exact View.addU_le _ _ _ | refine View.le_trans ?_ (by assumption) | refine View.le_trans ?_ (View.addU_le _ _ _))), hi1, by show _ - (i + 1) = _; omega⟩
                  · repeat' (first | exact sees_nil | refine sees_cons rfl rfl rfl ?_ | refine sees_cons rfl rfl (by rw [← hwi]; rfl) ?_)
                  · repeat' (first | exact keeps_nil | refine keeps_cons rfl ?_ | refine keeps_free ?_)
            · repeat (first | (intro _; conv => whnf) | (refine br_t rfl ?_; conv => whnf) | (refine br_f rfl ?_; conv => whnf) | (refine IdxN.lit rfl rfl ?_; conv => whnf) | (refine br_t g2 ?_; conv => whnf) | (refine br_f g2 ?_; conv => whnf) | (refine br_t g3 ?_; conv => whnf) | (refine br_f g3 ?_; conv => whnf) | (refine br_t g4 ?_; conv => whnf) | (refine br_f g4 ?_; conv => whnf) | (refine br_t g5 ?_; conv => whnf) | (refine br_f g5 ?_; conv => whnf) | (refine br_t g6 ?_; conv => whnf) | (refine br_f g6 ?_; conv => whnf) | (refine br_t g7 ?_; conv => whnf) | (refine br_f g7 ?_; conv => whnf) | (refine br_t g8 ?_; conv => whnf) | (refine br_f g8 ?_; conv => whnf))
              refine CallN.pure (at_spec (itemsOf (tT p q)) 3 p5 ac o5 ⟨0, v0, xt, xn, none, 0, 0⟩ _ (hat'.hasI.mono (by repeat (first | exact View.le_refl _ | assumption | exact View.addU_le _ _ _ | refine View.le_trans ?_ (by assumption) | refine View.le_trans ?_ (View.addU_le _ _ _)))) (by show 3 ≤ 1000000; decide) (by decide)) fun v V7 _ hV7 hv => ?_
              subst hv
              conv => whnf
              apply br <;> intro g7 <;> conv => whnf
              · repeat (first | (intro _; conv => whnf) | (refine br_t rfl ?_; conv => whnf) | (refine br_f rfl ?_; conv => whnf) | (refine IdxN.lit rfl rfl ?_; conv => whnf) | (refine br_t g2 ?_; conv => whnf) | (refine br_f g2 ?_; conv => whnf) | (refine br_t g3 ?_; conv => whnf) | (refine br_f g3 ?_; conv => whnf) | (refine br_t g4 ?_; conv => whnf) | (refine br_f g4 ?_; conv => whnf) | (refine br_t g5 ?_; conv => whnf) | (refine br_f g5 ?_; conv => whnf) | (refine br_t g6 ?_; conv => whnf) | (refine br_f g6 ?_; conv => whnf) | (refine br_t g7 ?_; conv => whnf) | (refine br_f g7 ?_; conv => whnf) | (refine br_t g8 ?_; conv => whnf) | (refine br_f g8 ?_; conv => whnf))
                exact ret_pure ⟨_, rfl⟩
              · have g7' : (atA xt xn ((itemsOf (tT p q)).take 3)).2 = 0 := by simpa using g7
                obtain ⟨h0, h1⟩ := atA_range g7'
                obtain ⟨kk, hkk⟩ := Int.eq_ofNat_of_zero_le h0
                have h1 : (atA xt xn ((itemsOf (tT p q)).take 3)).1 < ((3 : Nat) : Int) := h1
                obtain ⟨kv, hkv⟩ : ∃ y, (kindsOf (tT p q))[kk]? = some y := ⟨_, List.getElem?_eq_getElem (by show kk < 3; omega)⟩
                have hone := has_one hat'.hasK (i := kk) (c := .int .i64 kv) (by rw [List.getElem?_map, hkv]; rfl)
                repeat (first | (intro _; conv => whnf) | (refine br_t rfl ?_; conv => whnf) | (refine br_f rfl ?_; conv => whnf) | (refine IdxN.lit rfl rfl ?_; conv => whnf) | (refine br_t g2 ?_; conv => whnf) | (refine br_f g2 ?_; conv => whnf) | (refine br_t g3 ?_; conv => whnf) | (refine br_f g3 ?_; conv => whnf) | (refine br_t g4 ?_; conv => whnf) | (refine br_f g4 ?_; conv => whnf) | (refine br_t g5 ?_; conv => whnf) | (refine br_f g5 ?_; conv => whnf) | (refine br_t g6 ?_; conv => whnf) | (refine br_f g6 ?_; conv => whnf) | (refine br_t g7 ?_; conv => whnf) | (refine br_f g7 ?_; conv => whnf) | (refine br_t g8 ?_; conv => whnf) | (refine br_f g8 ?_; conv => whnf))
                apply br <;> intro g8 <;> conv => whnf
                · repeat (first | (intro _; conv => whnf) | (refine br_t rfl ?_; conv => whnf) | (refine br_f rfl ?_; conv => whnf) | (refine IdxN.lit rfl rfl ?_; conv => whnf) | (refine br_t g2 ?_; conv => whnf) | (refine br_f g2 ?_; conv => whnf) | (refine br_t g3 ?_; conv => whnf) | (refine br_f g3 ?_; conv => whnf) | (refine br_t g4 ?_; conv => whnf) | (refine br_f g4 ?_; conv => whnf) | (refine br_t g5 ?_; conv => whnf) | (refine br_f g5 ?_; conv => whnf) | (refine br_t g6 ?_; conv => whnf) | (refine br_f g6 ?_; conv => whnf) | (refine br_t g7 ?_; conv => whnf) | (refine br_f g7 ?_; conv => whnf) | (refine br_t g8 ?_; conv => whnf) | (refine br_f g8 ?_; conv => whnf))
                  refine IdxN.of (by show 0 ≤ (atA xt xn ((itemsOf (tT p q)).take 3)).1; omega) (by show (atA xt xn ((itemsOf (tT p q)).take 3)).1 < ((3 : Nat) : Int); omega) ?_
                  conv => whnf
                  repeat (first | (intro _; conv => whnf) | (refine br_t rfl ?_; conv => whnf) | (refine br_f rfl ?_; conv => whnf) | (refine IdxN.lit rfl rfl ?_; conv => whnf) | (refine br_t g2 ?_; conv => whnf) | (refine br_f g2 ?_; conv => whnf) | (refine br_t g3 ?_; conv => whnf) | (refine br_f g3 ?_; conv => whnf) | (refine br_t g4 ?_; conv => whnf) | (refine br_f g4 ?_; conv => whnf) | (refine br_t g5 ?_; conv => whnf) | (refine br_f g5 ?_; conv => whnf) | (refine br_t g6 ?_; conv => whnf) | (refine br_f g6 ?_; conv => whnf) | (refine br_t g7 ?_; conv => whnf) | (refine br_f g7 ?_; conv => whnf) | (refine br_t g8 ?_; conv => whnf) | (refine br_f g8 ?_; conv => whnf))
                  refine LoadN.of (hone.mono (by repeat (first | exact View.le_refl _ | assumption | exact View.addU_le _ _ _ | refine View.le_trans ?_ (by assumption) | refine View.le_trans ?_ (View.addU_le _ _ _)))) 0 (by show u5 + ((atA xt xn ((itemsOf (tT p q)).take 3)).1).toNat * 1 = u5 + kk + 0; rw [hkk]; omega) rfl ?_
                  conv => whnf
                  repeat (first | (intro _; conv => whnf) | (refine br_t rfl ?_; conv => whnf) | (refine br_f rfl ?_; conv => whnf) | (refine IdxN.lit rfl rfl ?_; conv => whnf) | (refine br_t g2 ?_; conv => whnf) | (refine br_f g2 ?_; conv => whnf) | (refine br_t g3 ?_; conv => whnf) | (refine br_f g3 ?_; conv => whnf) | (refine br_t g4 ?_; conv => whnf) | (refine br_f g4 ?_; conv => whnf) | (refine br_t g5 ?_; conv => whnf) | (refine br_f g5 ?_; conv => whnf) | (refine br_t g6 ?_; conv => whnf) | (refine br_f g6 ?_; conv => whnf) | (refine br_t g7 ?_; conv => whnf) | (refine br_f g7 ?_; conv => whnf) | (refine br_t g8 ?_; conv => whnf) | (refine br_f g8 ?_; conv => whnf))
                  apply br <;> intro g9 <;> conv => whnf
                  · repeat (first | (intro _; conv => whnf) | (refine br_t rfl ?_; conv => whnf) | (refine br_f rfl ?_; conv => whnf) | (refine IdxN.lit rfl rfl ?_; conv => whnf) | (refine br_t g2 ?_; conv => whnf) | (refine br_f g2 ?_; conv => whnf) | (refine br_t g3 ?_; conv => whnf) | (refine br_f g3 ?_; conv => whnf) | (refine br_t g4 ?_; conv => whnf) | (refine br_f g4 ?_; conv => whnf) | (refine br_t g5 ?_; conv => whnf) | (refine br_f g5 ?_; conv => whnf) | (refine br_t g6 ?_; conv => whnf) | (refine br_f g6 ?_; conv => whnf) | (refine br_t g7 ?_; conv => whnf) | (refine br_f g7 ?_; conv => whnf) | (refine br_t g8 ?_; conv => whnf) | (refine br_f g8 ?_; conv => whnf))
                    exact ret_pure ⟨_, rfl⟩
                  · repeat (first | (intro _; conv => whnf) | (refine br_t rfl ?_; conv => whnf) | (refine br_f rfl ?_; conv => whnf) | (refine IdxN.lit rfl rfl ?_; conv => whnf) | (refine br_t g2 ?_; conv => whnf) | (refine br_f g2 ?_; conv => whnf) | (refine br_t g3 ?_; conv => whnf) | (refine br_f g3 ?_; conv => whnf) | (refine br_t g4 ?_; conv => whnf) | (refine br_f g4 ?_; conv => whnf) | (refine br_t g5 ?_; conv => whnf) | (refine br_f g5 ?_; conv => whnf) | (refine br_t g6 ?_; conv => whnf) | (refine br_f g6 ?_; conv => whnf) | (refine br_t g7 ?_; conv => whnf) | (refine br_f g7 ?_; conv => whnf) | (refine br_t g8 ?_; conv => whnf) | (refine br_f g8 ?_; conv => whnf))
                    have hwi := wrap_nat (i := i) (by omega)
                    refine ⟨j - 1, (i + 1, (IntKind.i64.wrap (na + 1)), np), by omega, ?_, ?_, View.le_trans hV (by repeat (first | exact View.le_refl _ | assumption | exact View.addU_le _ _ _ | refine View.le_trans ?_ (by assumption) | refine View.le_trans ?_ (View.addU_le _ _ _))), hat'.mono (by repeat (first | exact View.le_refl _ | assumption | exact View.addU_le _ _ _ | refine View.le_trans ?_ (by assumption) | refine View.le_trans ?_ (View.addU_le _ _ _))), hi1, by show _ - (i + 1) = _; omega⟩
                    · repeat' (first | exact sees_nil | refine sees_cons rfl rfl rfl ?_ | refine sees_cons rfl rfl (by rw [← hwi]; rfl) ?_)
                    · repeat' (first | exact keeps_nil | refine keeps_cons rfl ?_ | refine keeps_free ?_)
                · repeat (first | (intro _; conv => whnf) | (refine br_t rfl ?_; conv => whnf) | (refine br_f rfl ?_; conv => whnf) | (refine IdxN.lit rfl rfl ?_; conv => whnf) | (refine br_t g2 ?_; conv => whnf) | (refine br_f g2 ?_; conv => whnf) | (refine br_t g3 ?_; conv => whnf) | (refine br_f g3 ?_; conv => whnf) | (refine br_t g4 ?_; conv => whnf) | (refine br_f g4 ?_; conv => whnf) | (refine br_t g5 ?_; conv => whnf) | (refine br_f g5 ?_; conv => whnf) | (refine br_t g6 ?_; conv => whnf) | (refine br_f g6 ?_; conv => whnf) | (refine br_t g7 ?_; conv => whnf) | (refine br_f g7 ?_; conv => whnf) | (refine br_t g8 ?_; conv => whnf) | (refine br_f g8 ?_; conv => whnf))
                  have hwi := wrap_nat (i := i) (by omega)
                  refine ⟨j - 1, (i + 1, (IntKind.i64.wrap (na + 1)), np), by omega, ?_, ?_, View.le_trans hV (by repeat (first | exact View.le_refl _ | assumption | exact View.addU_le _ _ _ | refine View.le_trans ?_ (by assumption) | refine View.le_trans ?_ (View.addU_le _ _ _))), hat'.mono (by repeat (first | exact View.le_refl _ | assumption | exact View.addU_le _ _ _ | refine View.le_trans ?_ (by assumption) | refine View.le_trans ?_ (View.addU_le _ _ _))), hi1, by show _ - (i + 1) = _; omega⟩
                  · repeat' (first | exact sees_nil | refine sees_cons rfl rfl rfl ?_ | refine sees_cons rfl rfl (by rw [← hwi]; rfl) ?_)
                  · repeat' (first | exact keeps_nil | refine keeps_cons rfl ?_ | refine keeps_free ?_)
    · repeat (first | (intro _; conv => whnf) | (refine br_t rfl ?_; conv => whnf) | (refine br_f rfl ?_; conv => whnf) | (refine IdxN.lit rfl rfl ?_; conv => whnf) | (refine br_t g2 ?_; conv => whnf) | (refine br_f g2 ?_; conv => whnf) | (refine br_t g3 ?_; conv => whnf) | (refine br_f g3 ?_; conv => whnf) | (refine br_t g4 ?_; conv => whnf) | (refine br_f g4 ?_; conv => whnf) | (refine br_t g5 ?_; conv => whnf) | (refine br_f g5 ?_; conv => whnf) | (refine br_t g6 ?_; conv => whnf) | (refine br_f g6 ?_; conv => whnf) | (refine br_t g7 ?_; conv => whnf) | (refine br_f g7 ?_; conv => whnf) | (refine br_t g8 ?_; conv => whnf) | (refine br_f g8 ?_; conv => whnf))
      apply br <;> intro g2 <;> conv => whnf
      · repeat (first | (intro _; conv => whnf) | (refine br_t rfl ?_; conv => whnf) | (refine br_f rfl ?_; conv => whnf) | (refine IdxN.lit rfl rfl ?_; conv => whnf) | (refine br_t g2 ?_; conv => whnf) | (refine br_f g2 ?_; conv => whnf) | (refine br_t g3 ?_; conv => whnf) | (refine br_f g3 ?_; conv => whnf) | (refine br_t g4 ?_; conv => whnf) | (refine br_f g4 ?_; conv => whnf) | (refine br_t g5 ?_; conv => whnf) | (refine br_f g5 ?_; conv => whnf) | (refine br_t g6 ?_; conv => whnf) | (refine br_f g6 ?_; conv => whnf) | (refine br_t g7 ?_; conv => whnf) | (refine br_f g7 ?_; conv => whnf) | (refine br_t g8 ?_; conv => whnf) | (refine br_f g8 ?_; conv => whnf))
        apply br <;> intro g3 <;> conv => whnf
        · repeat (first | (intro _; conv => whnf) | (refine br_t rfl ?_; conv => whnf) | (refine br_f rfl ?_; conv => whnf) | (refine IdxN.lit rfl rfl ?_; conv => whnf) | (refine br_t g2 ?_; conv => whnf) | (refine br_f g2 ?_; conv => whnf) | (refine br_t g3 ?_; conv => whnf) | (refine br_f g3 ?_; conv => whnf) | (refine br_t g4 ?_; conv => whnf) | (refine br_f g4 ?_; conv => whnf) | (refine br_t g5 ?_; conv => whnf) | (refine br_f g5 ?_; conv => whnf) | (refine br_t g6 ?_; conv => whnf) | (refine br_f g6 ?_; conv => whnf) | (refine br_t g7 ?_; conv => whnf) | (refine br_f g7 ?_; conv => whnf) | (refine br_t g8 ?_; conv => whnf) | (refine br_f g8 ?_; conv => whnf))
          exact ret_pure ⟨_, rfl⟩
        · repeat (first | (intro _; conv => whnf) | (refine br_t rfl ?_; conv => whnf) | (refine br_f rfl ?_; conv => whnf) | (refine IdxN.lit rfl rfl ?_; conv => whnf) | (refine br_t g2 ?_; conv => whnf) | (refine br_f g2 ?_; conv => whnf) | (refine br_t g3 ?_; conv => whnf) | (refine br_f g3 ?_; conv => whnf) | (refine br_t g4 ?_; conv => whnf) | (refine br_f g4 ?_; conv => whnf) | (refine br_t g5 ?_; conv => whnf) | (refine br_f g5 ?_; conv => whnf) | (refine br_t g6 ?_; conv => whnf) | (refine br_f g6 ?_; conv => whnf) | (refine br_t g7 ?_; conv => whnf) | (refine br_f g7 ?_; conv => whnf) | (refine br_t g8 ?_; conv => whnf) | (refine br_f g8 ?_; conv => whnf))
          apply br <;> intro g4 <;> conv => whnf
          · repeat (first | (intro _; conv => whnf) | (refine br_t rfl ?_; conv => whnf) | (refine br_f rfl ?_; conv => whnf) | (refine IdxN.lit rfl rfl ?_; conv => whnf) | (refine br_t g2 ?_; conv => whnf) | (refine br_f g2 ?_; conv => whnf) | (refine br_t g3 ?_; conv => whnf) | (refine br_f g3 ?_; conv => whnf) | (refine br_t g4 ?_; conv => whnf) | (refine br_f g4 ?_; conv => whnf) | (refine br_t g5 ?_; conv => whnf) | (refine br_f g5 ?_; conv => whnf) | (refine br_t g6 ?_; conv => whnf) | (refine br_f g6 ?_; conv => whnf) | (refine br_t g7 ?_; conv => whnf) | (refine br_f g7 ?_; conv => whnf) | (refine br_t g8 ?_; conv => whnf) | (refine br_f g8 ?_; conv => whnf))
            exact ret_pure ⟨_, rfl⟩
          · repeat (first | (intro _; conv => whnf) | (refine br_t rfl ?_; conv => whnf) | (refine br_f rfl ?_; conv => whnf) | (refine IdxN.lit rfl rfl ?_; conv => whnf) | (refine br_t g2 ?_; conv => whnf) | (refine br_f g2 ?_; conv => whnf) | (refine br_t g3 ?_; conv => whnf) | (refine br_f g3 ?_; conv => whnf) | (refine br_t g4 ?_; conv => whnf) | (refine br_f g4 ?_; conv => whnf) | (refine br_t g5 ?_; conv => whnf) | (refine br_f g5 ?_; conv => whnf) | (refine br_t g6 ?_; conv => whnf) | (refine br_f g6 ?_; conv => whnf) | (refine br_t g7 ?_; conv => whnf) | (refine br_f g7 ?_; conv => whnf) | (refine br_t g8 ?_; conv => whnf) | (refine br_f g8 ?_; conv => whnf))
            refine CallN.pure (rwhere_spec (itemsOf (tT p q)) (kindsOf (tT p q)) p5 o5 ac q5 u5 cc 3 3 rfl rfl swh _ (hat'.mono (by repeat (first | exact View.le_refl _ | assumption | exact View.addU_le _ _ _ | refine View.le_trans ?_ (by assumption) | refine View.le_trans ?_ (View.addU_le _ _ _)))) (hwh.mono (by repeat (first | exact View.le_refl _ | assumption | exact View.addU_le _ _ _ | refine View.le_trans ?_ (by assumption) | refine View.le_trans ?_ (View.addU_le _ _ _))))) fun v V8 _ hV8 ⟨ew, hv⟩ => ?_
            subst hv
            conv => whnf
            apply br <;> intro g5 <;> conv => whnf
            · repeat (first | (intro _; conv => whnf) | (refine br_t rfl ?_; conv => whnf) | (refine br_f rfl ?_; conv => whnf) | (refine IdxN.lit rfl rfl ?_; conv => whnf) | (refine br_t g2 ?_; conv => whnf) | (refine br_f g2 ?_; conv => whnf) | (refine br_t g3 ?_; conv => whnf) | (refine br_f g3 ?_; conv => whnf) | (refine br_t g4 ?_; conv => whnf) | (refine br_f g4 ?_; conv => whnf) | (refine br_t g5 ?_; conv => whnf) | (refine br_f g5 ?_; conv => whnf) | (refine br_t g6 ?_; conv => whnf) | (refine br_f g6 ?_; conv => whnf) | (refine br_t g7 ?_; conv => whnf) | (refine br_f g7 ?_; conv => whnf) | (refine br_t g8 ?_; conv => whnf) | (refine br_f g8 ?_; conv => whnf))
              exact ret_pure ⟨_, rfl⟩
            · repeat (first | (intro _; conv => whnf) | (refine br_t rfl ?_; conv => whnf) | (refine br_f rfl ?_; conv => whnf) | (refine IdxN.lit rfl rfl ?_; conv => whnf) | (refine br_t g2 ?_; conv => whnf) | (refine br_f g2 ?_; conv => whnf) | (refine br_t g3 ?_; conv => whnf) | (refine br_f g3 ?_; conv => whnf) | (refine br_t g4 ?_; conv => whnf) | (refine br_f g4 ?_; conv => whnf) | (refine br_t g5 ?_; conv => whnf) | (refine br_f g5 ?_; conv => whnf) | (refine br_t g6 ?_; conv => whnf) | (refine br_f g6 ?_; conv => whnf) | (refine br_t g7 ?_; conv => whnf) | (refine br_f g7 ?_; conv => whnf) | (refine br_t g8 ?_; conv => whnf) | (refine br_f g8 ?_; conv => whnf))
              apply br <;> intro g6 <;> conv => whnf
              · repeat (first | (intro _; conv => whnf) | (refine br_t rfl ?_; conv => whnf) | (refine br_f rfl ?_; conv => whnf) | (refine IdxN.lit rfl rfl ?_; conv => whnf) | (refine br_t g2 ?_; conv => whnf) | (refine br_f g2 ?_; conv => whnf) | (refine br_t g3 ?_; conv => whnf) | (refine br_f g3 ?_; conv => whnf) | (refine br_t g4 ?_; conv => whnf) | (refine br_f g4 ?_; conv => whnf) | (refine br_t g5 ?_; conv => whnf) | (refine br_f g5 ?_; conv => whnf) | (refine br_t g6 ?_; conv => whnf) | (refine br_f g6 ?_; conv => whnf) | (refine br_t g7 ?_; conv => whnf) | (refine br_f g7 ?_; conv => whnf) | (refine br_t g8 ?_; conv => whnf) | (refine br_f g8 ?_; conv => whnf))
                exact ret_pure ⟨_, rfl⟩
              · rcases hor with hor | ⟨go1, gtb, gnm, hor, hgo⟩
                · have hor : sord = (none, 0, 0) := hor
                  rw [hor] at g6
                  exact absurd g6 (by decide)
                · have hor : sord = (some ⟨go1, 0, none⟩, 1, 1) := hor
                  subst hor
                  repeat (first | (intro _; conv => whnf) | (refine br_t rfl ?_; conv => whnf) | (refine br_f rfl ?_; conv => whnf) | (refine IdxN.lit rfl rfl ?_; conv => whnf) | (refine br_t g2 ?_; conv => whnf) | (refine br_f g2 ?_; conv => whnf) | (refine br_t g3 ?_; conv => whnf) | (refine br_f g3 ?_; conv => whnf) | (refine br_t g4 ?_; conv => whnf) | (refine br_f g4 ?_; conv => whnf) | (refine br_t g5 ?_; conv => whnf) | (refine br_f g5 ?_; conv => whnf) | (refine br_t g6 ?_; conv => whnf) | (refine br_f g6 ?_; conv => whnf) | (refine br_t g7 ?_; conv => whnf) | (refine br_f g7 ?_; conv => whnf) | (refine br_t g8 ?_; conv => whnf) | (refine br_f g8 ?_; conv => whnf))
                  refine LoadN.of (hgo.mono (by repeat (first | exact View.le_refl _ | assumption | exact View.addU_le _ _ _ | refine View.le_trans ?_ (by assumption) | refine View.le_trans ?_ (View.addU_le _ _ _)))) 0 rfl rfl ?_
                  conv => whnf
                  repeat (first | (intro _; conv => whnf) | (refine br_t rfl ?_; conv => whnf) | (refine br_f rfl ?_; conv => whnf) | (refine IdxN.lit rfl rfl ?_; conv => whnf) | (refine br_t g2 ?_; conv => whnf) | (refine br_f g2 ?_; conv => whnf) | (refine br_t g3 ?_; conv => whnf) | (refine br_f g3 ?_; conv => whnf) | (refine br_t g4 ?_; conv => whnf) | (refine br_f g4 ?_; conv => whnf) | (refine br_t g5 ?_; conv => whnf) | (refine br_f g5 ?_; conv => whnf) | (refine br_t g6 ?_; conv => whnf) | (refine br_f g6 ?_; conv => whnf) | (refine br_t g7 ?_; conv => whnf) | (refine br_f g7 ?_; conv => whnf) | (refine br_t g8 ?_; conv => whnf) | (refine br_f g8 ?_; conv => whnf))
                  refine CallN.pure (at_spec (itemsOf (tT p q)) 3 p5 ac o5 (colN gtb gnm) _ (hat'.hasI.mono (by repeat (first | exact View.le_refl _ | assumption | exact View.addU_le _ _ _ | refine View.le_trans ?_ (by assumption) | refine View.le_trans ?_ (View.addU_le _ _ _)))) (by show 3 ≤ 1000000; decide) (by decide)) fun v V9 _ hV9 hv => ?_
                  subst hv
                  conv => whnf
                  repeat (first | (intro _; conv => whnf) | (refine br_t rfl ?_; conv => whnf) | (refine br_f rfl ?_; conv => whnf) | (refine IdxN.lit rfl rfl ?_; conv => whnf) | (refine br_t g2 ?_; conv => whnf) | (refine br_f g2 ?_; conv => whnf) | (refine br_t g3 ?_; conv => whnf) | (refine br_f g3 ?_; conv => whnf) | (refine br_t g4 ?_; conv => whnf) | (refine br_f g4 ?_; conv => whnf) | (refine br_t g5 ?_; conv => whnf) | (refine br_f g5 ?_; conv => whnf) | (refine br_t g6 ?_; conv => whnf) | (refine br_f g6 ?_; conv => whnf) | (refine br_t g7 ?_; conv => whnf) | (refine br_f g7 ?_; conv => whnf) | (refine br_t g8 ?_; conv => whnf) | (refine br_f g8 ?_; conv => whnf))
                  exact ret_pure ⟨_, rfl⟩
      · repeat (first | (intro _; conv => whnf) | (refine br_t rfl ?_; conv => whnf) | (refine br_f rfl ?_; conv => whnf) | (refine IdxN.lit rfl rfl ?_; conv => whnf) | (refine br_t g2 ?_; conv => whnf) | (refine br_f g2 ?_; conv => whnf) | (refine br_t g3 ?_; conv => whnf) | (refine br_f g3 ?_; conv => whnf) | (refine br_t g4 ?_; conv => whnf) | (refine br_f g4 ?_; conv => whnf) | (refine br_t g5 ?_; conv => whnf) | (refine br_f g5 ?_; conv => whnf) | (refine br_t g6 ?_; conv => whnf) | (refine br_f g6 ?_; conv => whnf) | (refine br_t g7 ?_; conv => whnf) | (refine br_f g7 ?_; conv => whnf) | (refine br_t g8 ?_; conv => whnf) | (refine br_f g8 ?_; conv => whnf))
        refine CallN.pure (rwhere_spec (itemsOf (tT p q)) (kindsOf (tT p q)) p5 o5 ac q5 u5 cc 3 3 rfl rfl swh _ (hat'.mono (by repeat (first | exact View.le_refl _ | assumption | exact View.addU_le _ _ _ | refine View.le_trans ?_ (by assumption) | refine View.le_trans ?_ (View.addU_le _ _ _)))) (hwh.mono (by repeat (first | exact View.le_refl _ | assumption | exact View.addU_le _ _ _ | refine View.le_trans ?_ (by assumption) | refine View.le_trans ?_ (View.addU_le _ _ _))))) fun v V8 _ hV8 ⟨ew, hv⟩ => ?_
        subst hv
        conv => whnf
        apply br <;> intro g5 <;> conv => whnf
        · repeat (first | (intro _; conv => whnf) | (refine br_t rfl ?_; conv => whnf) | (refine br_f rfl ?_; conv => whnf) | (refine IdxN.lit rfl rfl ?_; conv => whnf) | (refine br_t g2 ?_; conv => whnf) | (refine br_f g2 ?_; conv => whnf) | (refine br_t g3 ?_; conv => whnf) | (refine br_f g3 ?_; conv => whnf) | (refine br_t g4 ?_; conv => whnf) | (refine br_f g4 ?_; conv => whnf) | (refine br_t g5 ?_; conv => whnf) | (refine br_f g5 ?_; conv => whnf) | (refine br_t g6 ?_; conv => whnf) | (refine br_f g6 ?_; conv => whnf) | (refine br_t g7 ?_; conv => whnf) | (refine br_f g7 ?_; conv => whnf) | (refine br_t g8 ?_; conv => whnf) | (refine br_f g8 ?_; conv => whnf))
          exact ret_pure ⟨_, rfl⟩
        · repeat (first | (intro _; conv => whnf) | (refine br_t rfl ?_; conv => whnf) | (refine br_f rfl ?_; conv => whnf) | (refine IdxN.lit rfl rfl ?_; conv => whnf) | (refine br_t g2 ?_; conv => whnf) | (refine br_f g2 ?_; conv => whnf) | (refine br_t g3 ?_; conv => whnf) | (refine br_f g3 ?_; conv => whnf) | (refine br_t g4 ?_; conv => whnf) | (refine br_f g4 ?_; conv => whnf) | (refine br_t g5 ?_; conv => whnf) | (refine br_f g5 ?_; conv => whnf) | (refine br_t g6 ?_; conv => whnf) | (refine br_f g6 ?_; conv => whnf) | (refine br_t g7 ?_; conv => whnf) | (refine br_f g7 ?_; conv => whnf) | (refine br_t g8 ?_; conv => whnf) | (refine br_f g8 ?_; conv => whnf))
          apply br <;> intro g6 <;> conv => whnf
          · repeat (first | (intro _; conv => whnf) | (refine br_t rfl ?_; conv => whnf) | (refine br_f rfl ?_; conv => whnf) | (refine IdxN.lit rfl rfl ?_; conv => whnf) | (refine br_t g2 ?_; conv => whnf) | (refine br_f g2 ?_; conv => whnf) | (refine br_t g3 ?_; conv => whnf) | (refine br_f g3 ?_; conv => whnf) | (refine br_t g4 ?_; conv => whnf) | (refine br_f g4 ?_; conv => whnf) | (refine br_t g5 ?_; conv => whnf) | (refine br_f g5 ?_; conv => whnf) | (refine br_t g6 ?_; conv => whnf) | (refine br_f g6 ?_; conv => whnf) | (refine br_t g7 ?_; conv => whnf) | (refine br_f g7 ?_; conv => whnf) | (refine br_t g8 ?_; conv => whnf) | (refine br_f g8 ?_; conv => whnf))
            exact ret_pure ⟨_, rfl⟩
          · rcases hor with hor | ⟨go1, gtb, gnm, hor, hgo⟩
            · have hor : sord = (none, 0, 0) := hor
              rw [hor] at g6
              exact absurd g6 (by decide)
            · have hor : sord = (some ⟨go1, 0, none⟩, 1, 1) := hor
              subst hor
              repeat (first | (intro _; conv => whnf) | (refine br_t rfl ?_; conv => whnf) | (refine br_f rfl ?_; conv => whnf) | (refine IdxN.lit rfl rfl ?_; conv => whnf) | (refine br_t g2 ?_; conv => whnf) | (refine br_f g2 ?_; conv => whnf) | (refine br_t g3 ?_; conv => whnf) | (refine br_f g3 ?_; conv => whnf) | (refine br_t g4 ?_; conv => whnf) | (refine br_f g4 ?_; conv => whnf) | (refine br_t g5 ?_; conv => whnf) | (refine br_f g5 ?_; conv => whnf) | (refine br_t g6 ?_; conv => whnf) | (refine br_f g6 ?_; conv => whnf) | (refine br_t g7 ?_; conv => whnf) | (refine br_f g7 ?_; conv => whnf) | (refine br_t g8 ?_; conv => whnf) | (refine br_f g8 ?_; conv => whnf))
              refine LoadN.of (hgo.mono (by repeat (first | exact View.le_refl _ | assumption | exact View.addU_le _ _ _ | refine View.le_trans ?_ (by assumption) | refine View.le_trans ?_ (View.addU_le _ _ _)))) 0 rfl rfl ?_
              conv => whnf
              repeat (first | (intro _; conv => whnf) | (refine br_t rfl ?_; conv => whnf) | (refine br_f rfl ?_; conv => whnf) | (refine IdxN.lit rfl rfl ?_; conv => whnf) | (refine br_t g2 ?_; conv => whnf) | (refine br_f g2 ?_; conv => whnf) | (refine br_t g3 ?_; conv => whnf) | (refine br_f g3 ?_; conv => whnf) | (refine br_t g4 ?_; conv => whnf) | (refine br_f g4 ?_; conv => whnf) | (refine br_t g5 ?_; conv => whnf) | (refine br_f g5 ?_; conv => whnf) | (refine br_t g6 ?_; conv => whnf) | (refine br_f g6 ?_; conv => whnf) | (refine br_t g7 ?_; conv => whnf) | (refine br_f g7 ?_; conv => whnf) | (refine br_t g8 ?_; conv => whnf) | (refine br_f g8 ?_; conv => whnf))
              refine CallN.pure (at_spec (itemsOf (tT p q)) 3 p5 ac o5 (colN gtb gnm) _ (hat'.hasI.mono (by repeat (first | exact View.le_refl _ | assumption | exact View.addU_le _ _ _ | refine View.le_trans ?_ (by assumption) | refine View.le_trans ?_ (View.addU_le _ _ _)))) (by show 3 ≤ 1000000; decide) (by decide)) fun v V9 _ hV9 hv => ?_
              subst hv
              conv => whnf
              repeat (first | (intro _; conv => whnf) | (refine br_t rfl ?_; conv => whnf) | (refine br_f rfl ?_; conv => whnf) | (refine IdxN.lit rfl rfl ?_; conv => whnf) | (refine br_t g2 ?_; conv => whnf) | (refine br_f g2 ?_; conv => whnf) | (refine br_t g3 ?_; conv => whnf) | (refine br_f g3 ?_; conv => whnf) | (refine br_t g4 ?_; conv => whnf) | (refine br_f g4 ?_; conv => whnf) | (refine br_t g5 ?_; conv => whnf) | (refine br_f g5 ?_; conv => whnf) | (refine br_t g6 ?_; conv => whnf) | (refine br_f g6 ?_; conv => whnf) | (refine br_t g7 ?_; conv => whnf) | (refine br_f g7 ?_; conv => whnf) | (refine br_t g8 ?_; conv => whnf) | (refine br_f g8 ?_; conv => whnf))
              exact ret_pure ⟨_, rfl⟩
  · have hj : sjoin = (tU p2).nm := hj
    subst hj
    subst h2
    refine br_t (by simp [txt, ByteArray.toList_eq, tT, tU]) ?_
    conv => whnf
    repeat' first
      | (refine br_t rfl ?_; conv => whnf)
      | (refine br_f rfl ?_; conv => whnf)
      | (refine IdxN.lit rfl rfl ?_; conv => whnf)
      | (intro _; conv => whnf)
    refine CallN.pure (tableU_spec r p q p2 _ (hr.mono (by repeat (first | exact View.le_refl _ | assumption | exact View.addU_le _ _ _ | refine View.le_trans ?_ (by assumption) | refine View.le_trans ?_ (View.addU_le _ _ _))))) fun v V1 _ hV1 hv => ?_
    subst hv
    conv => whnf
    repeat' first
      | (refine br_t rfl ?_; conv => whnf)
      | (refine br_f rfl ?_; conv => whnf)
      | (refine IdxN.lit rfl rfl ?_; conv => whnf)
      | (intro _; conv => whnf)
    refine br_f (by simp [txt, ByteArray.toList_eq, tT, tU]) ?_
    conv => whnf
    refine CallN.news (colsR_spec (tU p2) _ (ho.mono (by repeat (first | exact View.le_refl _ | assumption | exact View.addU_le _ _ _ | refine View.le_trans ?_ (by assumption) | refine View.le_trans ?_ (View.addU_le _ _ _))))) fun v V2 bs hV2 ⟨a2, ac2, c2, cc2, hv, hA2, hC2, hb⟩ => ⟨[(302, .row (.slice a2 3 ac2) 61 3 3), (303, .row (.slice c2 3 cc2) 3 1 3)], by rw [hb]; rfl, by simp, fun x hx => by (simp only [List.mem_cons, List.not_mem_nil, or_false] at hx; rcases hx with rfl | rfl <;> rfl), ?_⟩
    subst hv
    conv => whnf
    repeat' first
      | (refine br_t rfl ?_; conv => whnf)
      | (refine br_f rfl ?_; conv => whnf)
      | (refine IdxN.lit rfl rfl ?_; conv => whnf)
      | (intro _; conv => whnf)
    refine ⟨⟨300, _, rfl, ?_⟩⟩
    refine AppN.to 6 rfl ((itemsOf (tT p q)).flatMap icells) ((itemsOf (tU p2)).flatMap icells) (hA.mono (by repeat (first | exact View.le_refl _ | assumption | exact View.addU_le _ _ _ | refine View.le_trans ?_ (by assumption) | refine View.le_trans ?_ (View.addU_le _ _ _)))) rfl (hA2.mono (by repeat (first | exact View.le_refl _ | assumption | exact View.addU_le _ _ _ | refine View.le_trans ?_ (by assumption) | refine View.le_trans ?_ (View.addU_le _ _ _)))) rfl (allOne_items _) (by decide) (by decide) fun a3 ac3 V3 hV3 hA3 => ?_
    conv => whnf
    refine ⟨⟨301, _, rfl, ?_⟩⟩
    refine AppN.to 6 rfl ((kindsOf (tT p q)).map (.int .i64 ·)) ((kindsOf (tU p2)).map (.int .i64 ·)) (hC.mono (by repeat (first | exact View.le_refl _ | assumption | exact View.addU_le _ _ _ | refine View.le_trans ?_ (by assumption) | refine View.le_trans ?_ (View.addU_le _ _ _)))) rfl (hC2.mono (by repeat (first | exact View.le_refl _ | assumption | exact View.addU_le _ _ _ | refine View.le_trans ?_ (by assumption) | refine View.le_trans ?_ (View.addU_le _ _ _)))) rfl (allOne_ints _) (by decide) (by decide) fun c3 cc3 V4 hV4 hC3 => ?_
    conv => whnf
    obtain ⟨p5, o5, hb5, hh5⟩ := cells_some hA3 (by intro h; cases h)
    obtain ⟨q5, u5, hd5, hj5⟩ := cells_some hC3 (by intro h; cases h)
    subst hb5; subst hd5
    have hat : ColsAt V4 (itemsOf (tT p q) ++ itemsOf (tU p2)) (kindsOf (tT p q) ++ kindsOf (tU p2)) p5 o5 q5 u5 := ⟨by rw [List.flatMap_append]; exact hh5.mono (by repeat (first | exact View.le_refl _ | assumption | exact View.addU_le _ _ _ | refine View.le_trans ?_ (by assumption) | refine View.le_trans ?_ (View.addU_le _ _ _))), by rw [List.map_append]; exact hj5, rfl, by show 6 ≤ 20; decide⟩
    obtain ⟨g, kd, x1, x2, tb1, tb2, hon1, hon2, _⟩ := hon
    have hon1 : son = (some ⟨g, 0, none⟩, 2, 2) := hon1
    subst hon1
    repeat' first
      | (refine br_t rfl ?_; conv => whnf)
      | (refine br_f rfl ?_; conv => whnf)
      | (refine IdxN.lit rfl rfl ?_; conv => whnf)
      | (intro _; conv => whnf)
    refine unrollz 3 ?_
    conv => whnf
    repeat' first
      | (refine br_t rfl ?_; conv => whnf)
      | (refine br_f rfl ?_; conv => whnf)
      | (refine IdxN.lit rfl rfl ?_; conv => whnf)
      | (intro _; conv => whnf)
    refine LoadN.of (hon2.mono (by repeat (first | exact View.le_refl _ | assumption | exact View.addU_le _ _ _ | refine View.le_trans ?_ (by assumption) | refine View.le_trans ?_ (View.addU_le _ _ _)))) 0 rfl rfl ?_
    conv => whnf
    repeat' first
      | (refine br_t rfl ?_; conv => whnf)
      | (refine br_f rfl ?_; conv => whnf)
      | (refine IdxN.lit rfl rfl ?_; conv => whnf)
      | (intro _; conv => whnf)
    refine CallN.pure (kind_spec (itemsOf (tT p q) ++ itemsOf (tU p2)) (kindsOf (tT p q) ++ kindsOf (tU p2)) p5 o5 ac3 q5 u5 cc3 6 6 rfl rfl (.col tb1 x1.nm) (colN tb1 x1.nm) _ (hat.mono (by repeat (first | exact View.le_refl _ | assumption | exact View.addU_le _ _ _ | refine View.le_trans ?_ (by assumption) | refine View.le_trans ?_ (View.addU_le _ _ _)))) (repCol tb1 x1.nm)) fun v V5 _ hV5 ⟨k1, e1, hv⟩ => ?_
    subst hv
    conv => whnf
    apply br <;> intro g1 <;> conv => whnf
    · repeat' first
        | (refine br_t rfl ?_; conv => whnf)
        | (refine br_f rfl ?_; conv => whnf)
        | (refine IdxN.lit rfl rfl ?_; conv => whnf)
        | (intro _; conv => whnf)
      exact ret_pure ⟨_, rfl⟩
    repeat' first
      | (refine br_t rfl ?_; conv => whnf)
      | (refine br_f rfl ?_; conv => whnf)
      | (refine IdxN.lit rfl rfl ?_; conv => whnf)
      | (intro _; conv => whnf)
    rename_i lb Vl hVl lk
    refine AppN.to 1 rfl [] [.int .i64 k1] rfl rfl lk rfl rfl (by decide) (by decide) fun base' cap' V6 hV6 hc6 => ?_
    conv => whnf
    repeat' first
      | (refine br_t rfl ?_; conv => whnf)
      | (refine br_f rfl ?_; conv => whnf)
      | (refine IdxN.lit rfl rfl ?_; conv => whnf)
      | (intro _; conv => whnf)
    refine LoadN.of (hon2.mono (by repeat (first | exact View.le_refl _ | assumption | exact View.addU_le _ _ _ | refine View.le_trans ?_ (by assumption) | refine View.le_trans ?_ (View.addU_le _ _ _)))) 7 rfl rfl ?_
    conv => whnf
    repeat' first
      | (refine br_t rfl ?_; conv => whnf)
      | (refine br_f rfl ?_; conv => whnf)
      | (refine IdxN.lit rfl rfl ?_; conv => whnf)
      | (intro _; conv => whnf)
    refine CallN.pure (kind_spec (itemsOf (tT p q) ++ itemsOf (tU p2)) (kindsOf (tT p q) ++ kindsOf (tU p2)) p5 o5 ac3 q5 u5 cc3 6 6 rfl rfl (.col tb2 x2.nm) (colN tb2 x2.nm) _ (hat.mono (by repeat (first | exact View.le_refl _ | assumption | exact View.addU_le _ _ _ | refine View.le_trans ?_ (by assumption) | refine View.le_trans ?_ (View.addU_le _ _ _)))) (repCol tb2 x2.nm)) fun v V7 _ hV7 ⟨k2, e2, hv⟩ => ?_
    subst hv
    conv => whnf
    apply br <;> intro g2 <;> conv => whnf
    · repeat' first
        | (refine br_t rfl ?_; conv => whnf)
        | (refine br_f rfl ?_; conv => whnf)
        | (refine IdxN.lit rfl rfl ?_; conv => whnf)
        | (intro _; conv => whnf)
      exact ret_pure ⟨_, rfl⟩
    repeat' first
      | (refine br_t rfl ?_; conv => whnf)
      | (refine br_f rfl ?_; conv => whnf)
      | (refine IdxN.lit rfl rfl ?_; conv => whnf)
      | (intro _; conv => whnf)
    rename_i lb2 Vl2 hVl2 lk2
    refine AppN.to 2 rfl [.int .i64 k1] [.int .i64 k2] (hc6.mono (by repeat (first | exact View.le_refl _ | assumption | exact View.addU_le _ _ _ | refine View.le_trans ?_ (by assumption) | refine View.le_trans ?_ (View.addU_le _ _ _)))) rfl lk2 rfl rfl (by decide) (by decide) fun base2 cap2 V9 hV9 hc9 => ?_
    conv => whnf
    obtain ⟨pl, ol, hbl, hll⟩ := cells_some hc9 (by intro h; cases h)
    subst hbl
    repeat' first
      | (refine br_t rfl ?_; conv => whnf)
      | (refine br_f rfl ?_; conv => whnf)
      | (refine IdxN.lit rfl rfl ?_; conv => whnf)
      | (intro _; conv => whnf)
    refine LoadN.of (hll.mono (by repeat (first | exact View.le_refl _ | assumption | exact View.addU_le _ _ _ | refine View.le_trans ?_ (by assumption) | refine View.le_trans ?_ (View.addU_le _ _ _)))) 0 rfl rfl ?_
    conv => whnf
    repeat' first
      | (refine br_t rfl ?_; conv => whnf)
      | (refine br_f rfl ?_; conv => whnf)
      | (refine IdxN.lit rfl rfl ?_; conv => whnf)
      | (intro _; conv => whnf)
    refine LoadN.of (hll.mono (by repeat (first | exact View.le_refl _ | assumption | exact View.addU_le _ _ _ | refine View.le_trans ?_ (by assumption) | refine View.le_trans ?_ (View.addU_le _ _ _)))) 1 rfl rfl ?_
    conv => whnf
    repeat' first
      | (refine br_t rfl ?_; conv => whnf)
      | (refine br_f rfl ?_; conv => whnf)
      | (refine IdxN.lit rfl rfl ?_; conv => whnf)
      | (intro _; conv => whnf)
    apply br <;> intro g3 <;> conv => whnf
    · repeat' first
        | (refine br_t rfl ?_; conv => whnf)
        | (refine br_f rfl ?_; conv => whnf)
        | (refine IdxN.lit rfl rfl ?_; conv => whnf)
        | (intro _; conv => whnf)
      exact ret_pure ⟨_, rfl⟩
    repeat' first
      | (refine br_t rfl ?_; conv => whnf)
      | (refine br_f rfl ?_; conv => whnf)
      | (refine IdxN.lit rfl rfl ?_; conv => whnf)
      | (intro _; conv => whnf)
    clear g1 g2 g3
    obtain ⟨l, hil, hl4, hic⟩ := hp.items
    have hil : il = l.length := hil
    subst hil
    have hic : V.cells (.slice ib l.length ic) (l.flatMap icells) := hic
    have hor := hp.order
    have hwh := hp.wh
    refine loopz (σ := Nat × Int × Int)
      (fun x => [(4, .own 4 0), (7, .v (.slice (some ⟨p5, o5, none⟩) 6 ac3)), (8, .v (.slice (some ⟨q5, u5, none⟩) 6 cc3)), (17, .v (.int .i64 x.2.1)), (18, .v (.int .i64 x.2.2)), (19, .v (.int .i64 x.1))])
      (fun _ => [(4, .box b4 70 [.int .i64 6, .string ((tT p q).nm), .string snm, .slice s3.1 s3.2.1 s3.2.2, .slice s4.1 s4.2.1 s4.2.2, .slice s5.1 s5.2.1 s5.2.2, .slice ib l.length ic, .string ((tU p2).nm), .slice ((some ⟨g, 0, none⟩, 2, 2) : Option Addr × Nat × Nat).1 ((some ⟨g, 0, none⟩, 2, 2) : Option Addr × Nat × Nat).2.1 ((some ⟨g, 0, none⟩, 2, 2) : Option Addr × Nat × Nat).2.2, .slice swh.1 swh.2.1 swh.2.2, .slice sord.1 sord.2.1 sord.2.2, .bool sdesc, .slice sinn.1 sinn.2.1 sinn.2.2])])
      (fun j x V' => V.le V' ∧ ColsAt V' (itemsOf (tT p q) ++ itemsOf (tU p2)) (kindsOf (tT p q) ++ kindsOf (tU p2)) p5 o5 q5 u5 ∧ x.1 ≤ l.length ∧ l.length - x.1 = j) l.length (0, 0, 0) ?_ ?_ ?_ ?_
    · repeat' (first | exact sees_nil | refine sees_cons rfl rfl rfl ?_)
    · repeat' (first | exact keeps_nil | refine keeps_cons rfl ?_ | refine keeps_free ?_)
    · exact ⟨(by repeat (first | exact View.le_refl _ | assumption | exact View.addU_le _ _ _ | refine View.le_trans ?_ (by assumption) | refine View.le_trans ?_ (View.addU_le _ _ _))), (hat).mono (by repeat (first | exact View.le_refl _ | assumption | exact View.addU_le _ _ _ | refine View.le_trans ?_ (by assumption) | refine View.le_trans ?_ (View.addU_le _ _ _))), Nat.zero_le _, rfl⟩
    rintro j ⟨i, na, np⟩ V' ⟨hV, hat', hi, hj⟩
    simp only at hi hj
    conv => whnf
    apply br <;> intro g1 <;> conv => whnf
    · have hi1 : i < l.length := by have := of_decide_eq_true g1; omega
      obtain ⟨x, hx⟩ : ∃ x, l[i]? = some x := ⟨_, List.getElem?_eq_getElem hi1⟩
      obtain ⟨pi, oi, hbi, hhi⟩ := cells_some hic (by
        obtain ⟨y, l', rfl⟩ := List.exists_cons_of_ne_nil (fun e : l = [] => by rw [e] at hi1; cases hi1)
        intro h; cases h)
      subst hbi
      have hxc := has_flat (n := 3) (fun _ => rfl) l oi hhi i x hx
      obtain ⟨xa, xt, xn⟩ := x
      repeat (first | (intro _; conv => whnf) | (refine br_t rfl ?_; conv => whnf) | (refine br_f rfl ?_; conv => whnf) | (refine IdxN.lit rfl rfl ?_; conv => whnf) | (refine br_t g2 ?_; conv => whnf) | (refine br_f g2 ?_; conv => whnf) | (refine br_t g3 ?_; conv => whnf) | (refine br_f g3 ?_; conv => whnf) | (refine br_t g4 ?_; conv => whnf) | (refine br_f g4 ?_; conv => whnf) | (refine br_t g5 ?_; conv => whnf) | (refine br_f g5 ?_; conv => whnf) | (refine br_t g6 ?_; conv => whnf) | (refine br_f g6 ?_; conv => whnf) | (refine br_t g7 ?_; conv => whnf) | (refine br_f g7 ?_; conv => whnf) | (refine br_t g8 ?_; conv => whnf) | (refine br_f g8 ?_; conv => whnf))
      refine IdxN.of (by omega) (by omega) ?_
      conv => whnf
      refine LoadN.of (hxc.mono (by repeat (first | exact View.le_refl _ | assumption | exact View.addU_le _ _ _ | refine View.le_trans ?_ (by assumption) | refine View.le_trans ?_ (View.addU_le _ _ _)))) 0 rfl rfl ?_
      conv => whnf
      repeat (first | (intro _; conv => whnf) | (refine br_t rfl ?_; conv => whnf) | (refine br_f rfl ?_; conv => whnf) | (refine IdxN.lit rfl rfl ?_; conv => whnf) | (refine br_t g2 ?_; conv => whnf) | (refine br_f g2 ?_; conv => whnf) | (refine br_t g3 ?_; conv => whnf) | (refine br_f g3 ?_; conv => whnf) | (refine br_t g4 ?_; conv => whnf) | (refine br_f g4 ?_; conv => whnf) | (refine br_t g5 ?_; conv => whnf) | (refine br_f g5 ?_; conv => whnf) | (refine br_t g6 ?_; conv => whnf) | (refine br_f g6 ?_; conv => whnf) | (refine br_t g7 ?_; conv => whnf) | (refine br_f g7 ?_; conv => whnf) | (refine br_t g8 ?_; conv => whnf) | (refine br_f g8 ?_; conv => whnf))
      apply br <;> intro g2 <;> conv => whnf
      · repeat (first | (intro _; conv => whnf) | (refine br_t rfl ?_; conv => whnf) | (refine br_f rfl ?_; conv => whnf) | (refine IdxN.lit rfl rfl ?_; conv => whnf) | (refine br_t g2 ?_; conv => whnf) | (refine br_f g2 ?_; conv => whnf) | (refine br_t g3 ?_; conv => whnf) | (refine br_f g3 ?_; conv => whnf) | (refine br_t g4 ?_; conv => whnf) | (refine br_f g4 ?_; conv => whnf) | (refine br_t g5 ?_; conv => whnf) | (refine br_f g5 ?_; conv => whnf) | (refine br_t g6 ?_; conv => whnf) | (refine br_f g6 ?_; conv => whnf) | (refine br_t g7 ?_; conv => whnf) | (refine br_f g7 ?_; conv => whnf) | (refine br_t g8 ?_; conv => whnf) | (refine br_f g8 ?_; conv => whnf))
        exact ret_pure ⟨_, rfl⟩
      · repeat (first | (intro _; conv => whnf) | (refine br_t rfl ?_; conv => whnf) | (refine br_f rfl ?_; conv => whnf) | (refine IdxN.lit rfl rfl ?_; conv => whnf) | (refine br_t g2 ?_; conv => whnf) | (refine br_f g2 ?_; conv => whnf) | (refine br_t g3 ?_; conv => whnf) | (refine br_f g3 ?_; conv => whnf) | (refine br_t g4 ?_; conv => whnf) | (refine br_f g4 ?_; conv => whnf) | (refine br_t g5 ?_; conv => whnf) | (refine br_f g5 ?_; conv => whnf) | (refine br_t g6 ?_; conv => whnf) | (refine br_f g6 ?_; conv => whnf) | (refine br_t g7 ?_; conv => whnf) | (refine br_f g7 ?_; conv => whnf) | (refine br_t g8 ?_; conv => whnf) | (refine br_f g8 ?_; conv => whnf))
        apply br <;> intro g3 <;> conv => whnf
        · repeat (first | (intro _; conv => whnf) | (refine br_t rfl ?_; conv => whnf) | (refine br_f rfl ?_; conv => whnf) | (refine IdxN.lit rfl rfl ?_; conv => whnf) | (refine br_t g2 ?_; conv => whnf) | (refine br_f g2 ?_; conv => whnf) | (refine br_t g3 ?_; conv => whnf) | (refine br_f g3 ?_; conv => whnf) | (refine br_t g4 ?_; conv => whnf) | (refine br_f g4 ?_; conv => whnf) | (refine br_t g5 ?_; conv => whnf) | (refine br_f g5 ?_; conv => whnf) | (refine br_t g6 ?_; conv => whnf) | (refine br_f g6 ?_; conv => whnf) | (refine br_t g7 ?_; conv => whnf) | (refine br_f g7 ?_; conv => whnf) | (refine br_t g8 ?_; conv => whnf) | (refine br_f g8 ?_; conv => whnf))
          exact ret_pure ⟨_, rfl⟩
        · repeat (first | (intro _; conv => whnf) | (refine br_t rfl ?_; conv => whnf) | (refine br_f rfl ?_; conv => whnf) | (refine IdxN.lit rfl rfl ?_; conv => whnf) | (refine br_t g2 ?_; conv => whnf) | (refine br_f g2 ?_; conv => whnf) | (refine br_t g3 ?_; conv => whnf) | (refine br_f g3 ?_; conv => whnf) | (refine br_t g4 ?_; conv => whnf) | (refine br_f g4 ?_; conv => whnf) | (refine br_t g5 ?_; conv => whnf) | (refine br_f g5 ?_; conv => whnf) | (refine br_t g6 ?_; conv => whnf) | (refine br_f g6 ?_; conv => whnf) | (refine br_t g7 ?_; conv => whnf) | (refine br_f g7 ?_; conv => whnf) | (refine br_t g8 ?_; conv => whnf) | (refine br_f g8 ?_; conv => whnf))
          apply br <;> intro g4 <;> conv => whnf
          · repeat (first | (intro _; conv => whnf) | (refine br_t rfl ?_; conv => whnf) | (refine br_f rfl ?_; conv => whnf) | (refine IdxN.lit rfl rfl ?_; conv => whnf) | (refine br_t g2 ?_; conv => whnf) | (refine br_f g2 ?_; conv => whnf) | (refine br_t g3 ?_; conv => whnf) | (refine br_f g3 ?_; conv => whnf) | (refine br_t g4 ?_; conv => whnf) | (refine br_f g4 ?_; conv => whnf) | (refine br_t g5 ?_; conv => whnf) | (refine br_f g5 ?_; conv => whnf) | (refine br_t g6 ?_; conv => whnf) | (refine br_f g6 ?_; conv => whnf) | (refine br_t g7 ?_; conv => whnf) | (refine br_f g7 ?_; conv => whnf) | (refine br_t g8 ?_; conv => whnf) | (refine br_f g8 ?_; conv => whnf))
            apply br <;> intro g5 <;> conv => whnf
            · repeat (first | (intro _; conv => whnf) | (refine br_t rfl ?_; conv => whnf) | (refine br_f rfl ?_; conv => whnf) | (refine IdxN.lit rfl rfl ?_; conv => whnf) | (refine br_t g2 ?_; conv => whnf) | (refine br_f g2 ?_; conv => whnf) | (refine br_t g3 ?_; conv => whnf) | (refine br_f g3 ?_; conv => whnf) | (refine br_t g4 ?_; conv => whnf) | (refine br_f g4 ?_; conv => whnf) | (refine br_t g5 ?_; conv => whnf) | (refine br_f g5 ?_; conv => whnf) | (refine br_t g6 ?_; conv => whnf) | (refine br_f g6 ?_; conv => whnf) | (refine br_t g7 ?_; conv => whnf) | (refine br_f g7 ?_; conv => whnf) | (refine br_t g8 ?_; conv => whnf) | (refine br_f g8 ?_; conv => whnf))
              exact ret_pure ⟨_, rfl⟩
            · repeat (first | (intro _; conv => whnf) | (refine br_t rfl ?_; conv => whnf) | (refine br_f rfl ?_; conv => whnf) | (refine IdxN.lit rfl rfl ?_; conv => whnf) | (refine br_t g2 ?_; conv => whnf) | (refine br_f g2 ?_; conv => whnf) | (refine br_t g3 ?_; conv => whnf) | (refine br_f g3 ?_; conv => whnf) | (refine br_t g4 ?_; conv => whnf) | (refine br_f g4 ?_; conv => whnf) | (refine br_t g5 ?_; conv => whnf) | (refine br_f g5 ?_; conv => whnf) | (refine br_t g6 ?_; conv => whnf) | (refine br_f g6 ?_; conv => whnf) | (refine br_t g7 ?_; conv => whnf) | (refine br_f g7 ?_; conv => whnf) | (refine br_t g8 ?_; conv => whnf) | (refine br_f g8 ?_; conv => whnf))
              apply br <;> intro g6 <;> conv => whnf
              · repeat (first | (intro _; conv => whnf) | (refine br_t rfl ?_; conv => whnf) | (refine br_f rfl ?_; conv => whnf) | (refine IdxN.lit rfl rfl ?_; conv => whnf) | (refine br_t g2 ?_; conv => whnf) | (refine br_f g2 ?_; conv => whnf) | (refine br_t g3 ?_; conv => whnf) | (refine br_f g3 ?_; conv => whnf) | (refine br_t g4 ?_; conv => whnf) | (refine br_f g4 ?_; conv => whnf) | (refine br_t g5 ?_; conv => whnf) | (refine br_f g5 ?_; conv => whnf) | (refine br_t g6 ?_; conv => whnf) | (refine br_f g6 ?_; conv => whnf) | (refine br_t g7 ?_; conv => whnf) | (refine br_f g7 ?_; conv => whnf) | (refine br_t g8 ?_; conv => whnf) | (refine br_f g8 ?_; conv => whnf))
                have hwi := wrap_nat (i := i) (by omega)
                refine ⟨j - 1, (i + 1, na, (IntKind.i64.wrap (np + 1))), by omega, ?_, ?_, View.le_trans hV (by repeat (first | exact View.le_refl _ | assumption | exact View.addU_le _ _ _ | refine View.le_trans ?_ (by assumption) | refine View.le_trans ?_ (View.addU_le _ _ _))), hat'.mono (by repeat (first | exact View.le_refl _ | assumption | exact View.addU_le _ _ _ | refine View.le_trans ?_ (by assumption) | refine View.le_trans ?_ (View.addU_le _ _ _))), hi1, by show _ - (i + 1) = _; omega⟩
                · repeat' (first | exact sees_nil | refine sees_cons rfl rfl rfl ?_ | refine sees_cons rfl rfl (by rw [← hwi]; rfl) ?_)
                · repeat' (first | exact keeps_nil | refine keeps_cons rfl ?_ | refine keeps_free ?_)
              · repeat (first | (intro _; conv => whnf) | (refine br_t rfl ?_; conv => whnf) | (refine br_f rfl ?_; conv => whnf) | (refine IdxN.lit rfl rfl ?_; conv => whnf) | (refine br_t g2 ?_; conv => whnf) | (refine br_f g2 ?_; conv => whnf) | (refine br_t g3 ?_; conv => whnf) | (refine br_f g3 ?_; conv => whnf) | (refine br_t g4 ?_; conv => whnf) | (refine br_f g4 ?_; conv => whnf) | (refine br_t g5 ?_; conv => whnf) | (refine br_f g5 ?_; conv => whnf) | (refine br_t g6 ?_; conv => whnf) | (refine br_f g6 ?_; conv => whnf) | (refine br_t g7 ?_; conv => whnf) | (refine br_f g7 ?_; conv => whnf) | (refine br_t g8 ?_; conv => whnf) | (refine br_f g8 ?_; conv => whnf))
                have hwi := wrap_nat (i := i) (by omega)
                refine ⟨j - 1, (i + 1, (IntKind.i64.wrap (na + 1)), np), by omega, ?_, ?_, View.le_trans hV (by repeat (first | exact View.le_refl _ | assumption | exact View.addU_le _ _ _ | refine View.le_trans ?_ (by assumption) | refine View.le_trans ?_ (View.addU_le _ _ _))), hat'.mono (by repeat (first | exact View.le_refl _ | assumption | exact View.addU_le _ _ _ | refine View.le_trans ?_ (by assumption) | refine View.le_trans ?_ (View.addU_le _ _ _))), hi1, by show _ - (i + 1) = _; omega⟩
                · repeat' (first | exact sees_nil | refine sees_cons rfl rfl rfl ?_ | refine sees_cons rfl rfl (by rw [← hwi]; rfl) ?_)
                · repeat' (first | exact keeps_nil | refine keeps_cons rfl ?_ | refine keeps_free ?_)
          · repeat (first | (intro _; conv => whnf) | (refine br_t rfl ?_; conv => whnf) | (refine br_f rfl ?_; conv => whnf) | (refine IdxN.lit rfl rfl ?_; conv => whnf) | (refine br_t g2 ?_; conv => whnf) | (refine br_f g2 ?_; conv => whnf) | (refine br_t g3 ?_; conv => whnf) | (refine br_f g3 ?_; conv => whnf) | (refine br_t g4 ?_; conv => whnf) | (refine br_f g4 ?_; conv => whnf) | (refine br_t g5 ?_; conv => whnf) | (refine br_f g5 ?_; conv => whnf) | (refine br_t g6 ?_; conv => whnf) | (refine br_f g6 ?_; conv => whnf) | (refine br_t g7 ?_; conv => whnf) | (refine br_f g7 ?_; conv => whnf) | (refine br_t g8 ?_; conv => whnf) | (refine br_f g8 ?_; conv => whnf))
            apply br <;> intro g6 <;> conv => whnf
            · repeat (first | (intro _; conv => whnf) | (refine br_t rfl ?_; conv => whnf) | (refine br_f rfl ?_; conv => whnf) | (refine IdxN.lit rfl rfl ?_; conv => whnf) | (refine br_t g2 ?_; conv => whnf) | (refine br_f g2 ?_; conv => whnf) | (refine br_t g3 ?_; conv => whnf) | (refine br_f g3 ?_; conv => whnf) | (refine br_t g4 ?_; conv => whnf) | (refine br_f g4 ?_; conv => whnf) | (refine br_t g5 ?_; conv => whnf) | (refine br_f g5 ?_; conv => whnf) | (refine br_t g6 ?_; conv => whnf) | (refine br_f g6 ?_; conv => whnf) | (refine br_t g7 ?_; conv => whnf) | (refine br_f g7 ?_; conv => whnf) | (refine br_t g8 ?_; conv => whnf) | (refine br_f g8 ?_; conv => whnf))
              refine CallN.pure (at_spec (itemsOf (tT p q) ++ itemsOf (tU p2)) 6 p5 ac3 o5 ⟨0, v0, xt, xn, none, 0, 0⟩ _ (hat'.hasI.mono (by repeat (first | exact View.le_refl _ | assumption | exact View.addU_le _ _ _ | refine View.le_trans ?_ (by assumption) | refine View.le_trans ?_ (View.addU_le _ _ _)))) (by show 6 ≤ 1000000; decide) (by decide)) fun v V7 _ hV7 hv => ?_
              subst hv
              conv => whnf
              apply br <;> intro g7 <;> conv => whnf
              · repeat (first | (intro _; conv => whnf) | (refine br_t rfl ?_; conv => whnf) | (refine br_f rfl ?_; conv => whnf) | (refine IdxN.lit rfl rfl ?_; conv => whnf) | (refine br_t g2 ?_; conv => whnf) | (refine br_f g2 ?_; conv => whnf) | (refine br_t g3 ?_; conv => whnf) | (refine br_f g3 ?_; conv => whnf) | (refine br_t g4 ?_; conv => whnf) | (refine br_f g4 ?_; conv => whnf) | (refine br_t g5 ?_; conv => whnf) | (refine br_f g5 ?_; conv => whnf) | (refine br_t g6 ?_; conv => whnf) | (refine br_f g6 ?_; conv => whnf) | (refine br_t g7 ?_; conv => whnf) | (refine br_f g7 ?_; conv => whnf) | (refine br_t g8 ?_; conv => whnf) | (refine br_f g8 ?_; conv => whnf))
                exact ret_pure ⟨_, rfl⟩
              · have g7' : (atA xt xn ((itemsOf (tT p q) ++ itemsOf (tU p2)).take 6)).2 = 0 := by simpa using g7
                obtain ⟨h0, h1⟩ := atA_range g7'
                obtain ⟨kk, hkk⟩ := Int.eq_ofNat_of_zero_le h0
                have h1 : (atA xt xn ((itemsOf (tT p q) ++ itemsOf (tU p2)).take 6)).1 < ((6 : Nat) : Int) := h1
                obtain ⟨kv, hkv⟩ : ∃ y, (kindsOf (tT p q) ++ kindsOf (tU p2))[kk]? = some y := ⟨_, List.getElem?_eq_getElem (by show kk < 6; omega)⟩
                have hone := has_one hat'.hasK (i := kk) (c := .int .i64 kv) (by rw [List.getElem?_map, hkv]; rfl)
                repeat (first | (intro _; conv => whnf) | (refine br_t rfl ?_; conv => whnf) | (refine br_f rfl ?_; conv => whnf) | (refine IdxN.lit rfl rfl ?_; conv => whnf) | (refine br_t g2 ?_; conv => whnf) | (refine br_f g2 ?_; conv => whnf) | (refine br_t g3 ?_; conv => whnf) | (refine br_f g3 ?_; conv => whnf) | (refine br_t g4 ?_; conv => whnf) | (refine br_f g4 ?_; conv => whnf) | (refine br_t g5 ?_; conv => whnf) | (refine br_f g5 ?_; conv => whnf) | (refine br_t g6 ?_; conv => whnf) | (refine br_f g6 ?_; conv => whnf) | (refine br_t g7 ?_; conv => whnf) | (refine br_f g7 ?_; conv => whnf) | (refine br_t g8 ?_; conv => whnf) | (refine br_f g8 ?_; conv => whnf))
                apply br <;> intro g8 <;> conv => whnf
                · repeat (first | (intro _; conv => whnf) | (refine br_t rfl ?_; conv => whnf) | (refine br_f rfl ?_; conv => whnf) | (refine IdxN.lit rfl rfl ?_; conv => whnf) | (refine br_t g2 ?_; conv => whnf) | (refine br_f g2 ?_; conv => whnf) | (refine br_t g3 ?_; conv => whnf) | (refine br_f g3 ?_; conv => whnf) | (refine br_t g4 ?_; conv => whnf) | (refine br_f g4 ?_; conv => whnf) | (refine br_t g5 ?_; conv => whnf) | (refine br_f g5 ?_; conv => whnf) | (refine br_t g6 ?_; conv => whnf) | (refine br_f g6 ?_; conv => whnf) | (refine br_t g7 ?_; conv => whnf) | (refine br_f g7 ?_; conv => whnf) | (refine br_t g8 ?_; conv => whnf) | (refine br_f g8 ?_; conv => whnf))
                  refine IdxN.of (by show 0 ≤ (atA xt xn ((itemsOf (tT p q) ++ itemsOf (tU p2)).take 6)).1; omega) (by show (atA xt xn ((itemsOf (tT p q) ++ itemsOf (tU p2)).take 6)).1 < ((6 : Nat) : Int); omega) ?_
                  conv => whnf
                  repeat (first | (intro _; conv => whnf) | (refine br_t rfl ?_; conv => whnf) | (refine br_f rfl ?_; conv => whnf) | (refine IdxN.lit rfl rfl ?_; conv => whnf) | (refine br_t g2 ?_; conv => whnf) | (refine br_f g2 ?_; conv => whnf) | (refine br_t g3 ?_; conv => whnf) | (refine br_f g3 ?_; conv => whnf) | (refine br_t g4 ?_; conv => whnf) | (refine br_f g4 ?_; conv => whnf) | (refine br_t g5 ?_; conv => whnf) | (refine br_f g5 ?_; conv => whnf) | (refine br_t g6 ?_; conv => whnf) | (refine br_f g6 ?_; conv => whnf) | (refine br_t g7 ?_; conv => whnf) | (refine br_f g7 ?_; conv => whnf) | (refine br_t g8 ?_; conv => whnf) | (refine br_f g8 ?_; conv => whnf))
                  refine LoadN.of (hone.mono (by repeat (first | exact View.le_refl _ | assumption | exact View.addU_le _ _ _ | refine View.le_trans ?_ (by assumption) | refine View.le_trans ?_ (View.addU_le _ _ _)))) 0 (by show u5 + ((atA xt xn ((itemsOf (tT p q) ++ itemsOf (tU p2)).take 6)).1).toNat * 1 = u5 + kk + 0; rw [hkk]; omega) rfl ?_
                  conv => whnf
                  repeat (first | (intro _; conv => whnf) | (refine br_t rfl ?_; conv => whnf) | (refine br_f rfl ?_; conv => whnf) | (refine IdxN.lit rfl rfl ?_; conv => whnf) | (refine br_t g2 ?_; conv => whnf) | (refine br_f g2 ?_; conv => whnf) | (refine br_t g3 ?_; conv => whnf) | (refine br_f g3 ?_; conv => whnf) | (refine br_t g4 ?_; conv => whnf) | (refine br_f g4 ?_; conv => whnf) | (refine br_t g5 ?_; conv => whnf) | (refine br_f g5 ?_; conv => whnf) | (refine br_t g6 ?_; conv => whnf) | (refine br_f g6 ?_; conv => whnf) | (refine br_t g7 ?_; conv => whnf) | (refine br_f g7 ?_; conv => whnf) | (refine br_t g8 ?_; conv => whnf) | (refine br_f g8 ?_; conv => whnf))
                  apply br <;> intro g9 <;> conv => whnf
                  · repeat (first | (intro _; conv => whnf) | (refine br_t rfl ?_; conv => whnf) | (refine br_f rfl ?_; conv => whnf) | (refine IdxN.lit rfl rfl ?_; conv => whnf) | (refine br_t g2 ?_; conv => whnf) | (refine br_f g2 ?_; conv => whnf) | (refine br_t g3 ?_; conv => whnf) | (refine br_f g3 ?_; conv => whnf) | (refine br_t g4 ?_; conv => whnf) | (refine br_f g4 ?_; conv => whnf) | (refine br_t g5 ?_; conv => whnf) | (refine br_f g5 ?_; conv => whnf) | (refine br_t g6 ?_; conv => whnf) | (refine br_f g6 ?_; conv => whnf) | (refine br_t g7 ?_; conv => whnf) | (refine br_f g7 ?_; conv => whnf) | (refine br_t g8 ?_; conv => whnf) | (refine br_f g8 ?_; conv => whnf))
                    exact ret_pure ⟨_, rfl⟩
                  · repeat (first | (intro _; conv => whnf) | (refine br_t rfl ?_; conv => whnf) | (refine br_f rfl ?_; conv => whnf) | (refine IdxN.lit rfl rfl ?_; conv => whnf) | (refine br_t g2 ?_; conv => whnf) | (refine br_f g2 ?_; conv => whnf) | (refine br_t g3 ?_; conv => whnf) | (refine br_f g3 ?_; conv => whnf) | (refine br_t g4 ?_; conv => whnf) | (refine br_f g4 ?_; conv => whnf) | (refine br_t g5 ?_; conv => whnf) | (refine br_f g5 ?_; conv => whnf) | (refine br_t g6 ?_; conv => whnf) | (refine br_f g6 ?_; conv => whnf) | (refine br_t g7 ?_; conv => whnf) | (refine br_f g7 ?_; conv => whnf) | (refine br_t g8 ?_; conv => whnf) | (refine br_f g8 ?_; conv => whnf))
                    have hwi := wrap_nat (i := i) (by omega)
                    refine ⟨j - 1, (i + 1, na, (IntKind.i64.wrap (np + 1))), by omega, ?_, ?_, View.le_trans hV (by repeat (first | exact View.le_refl _ | assumption | exact View.addU_le _ _ _ | refine View.le_trans ?_ (by assumption) | refine View.le_trans ?_ (View.addU_le _ _ _))), hat'.mono (by repeat (first | exact View.le_refl _ | assumption | exact View.addU_le _ _ _ | refine View.le_trans ?_ (by assumption) | refine View.le_trans ?_ (View.addU_le _ _ _))), hi1, by show _ - (i + 1) = _; omega⟩
                    · repeat' (first | exact sees_nil | refine sees_cons rfl rfl rfl ?_ | refine sees_cons rfl rfl (by rw [← hwi]; rfl) ?_)
                    · repeat' (first | exact keeps_nil | refine keeps_cons rfl ?_ | refine keeps_free ?_)
                · repeat (first | (intro _; conv => whnf) | (refine br_t rfl ?_; conv => whnf) | (refine br_f rfl ?_; conv => whnf) | (refine IdxN.lit rfl rfl ?_; conv => whnf) | (refine br_t g2 ?_; conv => whnf) | (refine br_f g2 ?_; conv => whnf) | (refine br_t g3 ?_; conv => whnf) | (refine br_f g3 ?_; conv => whnf) | (refine br_t g4 ?_; conv => whnf) | (refine br_f g4 ?_; conv => whnf) | (refine br_t g5 ?_; conv => whnf) | (refine br_f g5 ?_; conv => whnf) | (refine br_t g6 ?_; conv => whnf) | (refine br_f g6 ?_; conv => whnf) | (refine br_t g7 ?_; conv => whnf) | (refine br_f g7 ?_; conv => whnf) | (refine br_t g8 ?_; conv => whnf) | (refine br_f g8 ?_; conv => whnf))
                  have hwi := wrap_nat (i := i) (by omega)
                  refine ⟨j - 1, (i + 1, na, (IntKind.i64.wrap (np + 1))), by omega, ?_, ?_, View.le_trans hV (by repeat (first | exact View.le_refl _ | assumption | exact View.addU_le _ _ _ | refine View.le_trans ?_ (by assumption) | refine View.le_trans ?_ (View.addU_le _ _ _))), hat'.mono (by repeat (first | exact View.le_refl _ | assumption | exact View.addU_le _ _ _ | refine View.le_trans ?_ (by assumption) | refine View.le_trans ?_ (View.addU_le _ _ _))), hi1, by show _ - (i + 1) = _; omega⟩
                  · repeat' (first | exact sees_nil | refine sees_cons rfl rfl rfl ?_ | refine sees_cons rfl rfl (by rw [← hwi]; rfl) ?_)
                  · repeat' (first | exact keeps_nil | refine keeps_cons rfl ?_ | refine keeps_free ?_)
            · repeat (first | (intro _; conv => whnf) | (refine br_t rfl ?_; conv => whnf) | (refine br_f rfl ?_; conv => whnf) | (refine IdxN.lit rfl rfl ?_; conv => whnf) | (refine br_t g2 ?_; conv => whnf) | (refine br_f g2 ?_; conv => whnf) | (refine br_t g3 ?_; conv => whnf) | (refine br_f g3 ?_; conv => whnf) | (refine br_t g4 ?_; conv => whnf) | (refine br_f g4 ?_; conv => whnf) | (refine br_t g5 ?_; conv => whnf) | (refine br_f g5 ?_; conv => whnf) | (refine br_t g6 ?_; conv => whnf) | (refine br_f g6 ?_; conv => whnf) | (refine br_t g7 ?_; conv => whnf) | (refine br_f g7 ?_; conv => whnf) | (refine br_t g8 ?_; conv => whnf) | (refine br_f g8 ?_; conv => whnf))
              refine CallN.pure (at_spec (itemsOf (tT p q) ++ itemsOf (tU p2)) 6 p5 ac3 o5 ⟨0, v0, xt, xn, none, 0, 0⟩ _ (hat'.hasI.mono (by repeat (first | exact View.le_refl _ | assumption | exact View.addU_le _ _ _ | refine View.le_trans ?_ (by assumption) | refine View.le_trans ?_ (View.addU_le _ _ _)))) (by show 6 ≤ 1000000; decide) (by decide)) fun v V7 _ hV7 hv => ?_
              subst hv
              conv => whnf
              apply br <;> intro g7 <;> conv => whnf
              · repeat (first | (intro _; conv => whnf) | (refine br_t rfl ?_; conv => whnf) | (refine br_f rfl ?_; conv => whnf) | (refine IdxN.lit rfl rfl ?_; conv => whnf) | (refine br_t g2 ?_; conv => whnf) | (refine br_f g2 ?_; conv => whnf) | (refine br_t g3 ?_; conv => whnf) | (refine br_f g3 ?_; conv => whnf) | (refine br_t g4 ?_; conv => whnf) | (refine br_f g4 ?_; conv => whnf) | (refine br_t g5 ?_; conv => whnf) | (refine br_f g5 ?_; conv => whnf) | (refine br_t g6 ?_; conv => whnf) | (refine br_f g6 ?_; conv => whnf) | (refine br_t g7 ?_; conv => whnf) | (refine br_f g7 ?_; conv => whnf) | (refine br_t g8 ?_; conv => whnf) | (refine br_f g8 ?_; conv => whnf))
                exact ret_pure ⟨_, rfl⟩
              · have g7' : (atA xt xn ((itemsOf (tT p q) ++ itemsOf (tU p2)).take 6)).2 = 0 := by simpa using g7
                obtain ⟨h0, h1⟩ := atA_range g7'
                obtain ⟨kk, hkk⟩ := Int.eq_ofNat_of_zero_le h0
                have h1 : (atA xt xn ((itemsOf (tT p q) ++ itemsOf (tU p2)).take 6)).1 < ((6 : Nat) : Int) := h1
                obtain ⟨kv, hkv⟩ : ∃ y, (kindsOf (tT p q) ++ kindsOf (tU p2))[kk]? = some y := ⟨_, List.getElem?_eq_getElem (by show kk < 6; omega)⟩
                have hone := has_one hat'.hasK (i := kk) (c := .int .i64 kv) (by rw [List.getElem?_map, hkv]; rfl)
                repeat (first | (intro _; conv => whnf) | (refine br_t rfl ?_; conv => whnf) | (refine br_f rfl ?_; conv => whnf) | (refine IdxN.lit rfl rfl ?_; conv => whnf) | (refine br_t g2 ?_; conv => whnf) | (refine br_f g2 ?_; conv => whnf) | (refine br_t g3 ?_; conv => whnf) | (refine br_f g3 ?_; conv => whnf) | (refine br_t g4 ?_; conv => whnf) | (refine br_f g4 ?_; conv => whnf) | (refine br_t g5 ?_; conv => whnf) | (refine br_f g5 ?_; conv => whnf) | (refine br_t g6 ?_; conv => whnf) | (refine br_f g6 ?_; conv => whnf) | (refine br_t g7 ?_; conv => whnf) | (refine br_f g7 ?_; conv => whnf) | (refine br_t g8 ?_; conv => whnf) | (refine br_f g8 ?_; conv => whnf))
                apply br <;> intro g8 <;> conv => whnf
                · repeat (first | (intro _; conv => whnf) | (refine br_t rfl ?_; conv => whnf) | (refine br_f rfl ?_; conv => whnf) | (refine IdxN.lit rfl rfl ?_; conv => whnf) | (refine br_t g2 ?_; conv => whnf) | (refine br_f g2 ?_; conv => whnf) | (refine br_t g3 ?_; conv => whnf) | (refine br_f g3 ?_; conv => whnf) | (refine br_t g4 ?_; conv => whnf) | (refine br_f g4 ?_; conv => whnf) | (refine br_t g5 ?_; conv => whnf) | (refine br_f g5 ?_; conv => whnf) | (refine br_t g6 ?_; conv => whnf) | (refine br_f g6 ?_; conv => whnf) | (refine br_t g7 ?_; conv => whnf) | (refine br_f g7 ?_; conv => whnf) | (refine br_t g8 ?_; conv => whnf) | (refine br_f g8 ?_; conv => whnf))
                  refine IdxN.of (by show 0 ≤ (atA xt xn ((itemsOf (tT p q) ++ itemsOf (tU p2)).take 6)).1; omega) (by show (atA xt xn ((itemsOf (tT p q) ++ itemsOf (tU p2)).take 6)).1 < ((6 : Nat) : Int); omega) ?_
                  conv => whnf
                  repeat (first | (intro _; conv => whnf) | (refine br_t rfl ?_; conv => whnf) | (refine br_f rfl ?_; conv => whnf) | (refine IdxN.lit rfl rfl ?_; conv => whnf) | (refine br_t g2 ?_; conv => whnf) | (refine br_f g2 ?_; conv => whnf) | (refine br_t g3 ?_; conv => whnf) | (refine br_f g3 ?_; conv => whnf) | (refine br_t g4 ?_; conv => whnf) | (refine br_f g4 ?_; conv => whnf) | (refine br_t g5 ?_; conv => whnf) | (refine br_f g5 ?_; conv => whnf) | (refine br_t g6 ?_; conv => whnf) | (refine br_f g6 ?_; conv => whnf) | (refine br_t g7 ?_; conv => whnf) | (refine br_f g7 ?_; conv => whnf) | (refine br_t g8 ?_; conv => whnf) | (refine br_f g8 ?_; conv => whnf))
                  refine LoadN.of (hone.mono (by repeat (first | exact View.le_refl _ | assumption | exact View.addU_le _ _ _ | refine View.le_trans ?_ (by assumption) | refine View.le_trans ?_ (View.addU_le _ _ _)))) 0 (by show u5 + ((atA xt xn ((itemsOf (tT p q) ++ itemsOf (tU p2)).take 6)).1).toNat * 1 = u5 + kk + 0; rw [hkk]; omega) rfl ?_
                  conv => whnf
                  repeat (first | (intro _; conv => whnf) | (refine br_t rfl ?_; conv => whnf) | (refine br_f rfl ?_; conv => whnf) | (refine IdxN.lit rfl rfl ?_; conv => whnf) | (refine br_t g2 ?_; conv => whnf) | (refine br_f g2 ?_; conv => whnf) | (refine br_t g3 ?_; conv => whnf) | (refine br_f g3 ?_; conv => whnf) | (refine br_t g4 ?_; conv => whnf) | (refine br_f g4 ?_; conv => whnf) | (refine br_t g5 ?_; conv => whnf) | (refine br_f g5 ?_; conv => whnf) | (refine br_t g6 ?_; conv => whnf) | (refine br_f g6 ?_; conv => whnf) | (refine br_t g7 ?_; conv => whnf) | (refine br_f g7 ?_; conv => whnf) | (refine br_t g8 ?_; conv => whnf) | (refine br_f g8 ?_; conv => whnf))
                  apply br <;> intro g9 <;> conv => whnf
                  · repeat (first | (intro _; conv => whnf) | (refine br_t rfl ?_; conv => whnf) | (refine br_f rfl ?_; conv => whnf) | (refine IdxN.lit rfl rfl ?_; conv => whnf) | (refine br_t g2 ?_; conv => whnf) | (refine br_f g2 ?_; conv => whnf) | (refine br_t g3 ?_; conv => whnf) | (refine br_f g3 ?_; conv => whnf) | (refine br_t g4 ?_; conv => whnf) | (refine br_f g4 ?_; conv => whnf) | (refine br_t g5 ?_; conv => whnf) | (refine br_f g5 ?_; conv => whnf) | (refine br_t g6 ?_; conv => whnf) | (refine br_f g6 ?_; conv => whnf) | (refine br_t g7 ?_; conv => whnf) | (refine br_f g7 ?_; conv => whnf) | (refine br_t g8 ?_; conv => whnf) | (refine br_f g8 ?_; conv => whnf))
                    exact ret_pure ⟨_, rfl⟩
                  · repeat (first | (intro _; conv => whnf) | (refine br_t rfl ?_; conv => whnf) | (refine br_f rfl ?_; conv => whnf) | (refine IdxN.lit rfl rfl ?_; conv => whnf) | (refine br_t g2 ?_; conv => whnf) | (refine br_f g2 ?_; conv => whnf) | (refine br_t g3 ?_; conv => whnf) | (refine br_f g3 ?_; conv => whnf) | (refine br_t g4 ?_; conv => whnf) | (refine br_f g4 ?_; conv => whnf) | (refine br_t g5 ?_; conv => whnf) | (refine br_f g5 ?_; conv => whnf) | (refine br_t g6 ?_; conv => whnf) | (refine br_f g6 ?_; conv => whnf) | (refine br_t g7 ?_; conv => whnf) | (refine br_f g7 ?_; conv => whnf) | (refine br_t g8 ?_; conv => whnf) | (refine br_f g8 ?_; conv => whnf))
                    have hwi := wrap_nat (i := i) (by omega)
                    refine ⟨j - 1, (i + 1, (IntKind.i64.wrap (na + 1)), np), by omega, ?_, ?_, View.le_trans hV (by repeat (first | exact View.le_refl _ | assumption | exact View.addU_le _ _ _ | refine View.le_trans ?_ (by assumption) | refine View.le_trans ?_ (View.addU_le _ _ _))), hat'.mono (by repeat (first | exact View.le_refl _ | assumption | exact View.addU_le _ _ _ | refine View.le_trans ?_ (by assumption) | refine View.le_trans ?_ (View.addU_le _ _ _))), hi1, by show _ - (i + 1) = _; omega⟩
                    · repeat' (first | exact sees_nil | refine sees_cons rfl rfl rfl ?_ | refine sees_cons rfl rfl (by rw [← hwi]; rfl) ?_)
                    · repeat' (first | exact keeps_nil | refine keeps_cons rfl ?_ | refine keeps_free ?_)
                · repeat (first | (intro _; conv => whnf) | (refine br_t rfl ?_; conv => whnf) | (refine br_f rfl ?_; conv => whnf) | (refine IdxN.lit rfl rfl ?_; conv => whnf) | (refine br_t g2 ?_; conv => whnf) | (refine br_f g2 ?_; conv => whnf) | (refine br_t g3 ?_; conv => whnf) | (refine br_f g3 ?_; conv => whnf) | (refine br_t g4 ?_; conv => whnf) | (refine br_f g4 ?_; conv => whnf) | (refine br_t g5 ?_; conv => whnf) | (refine br_f g5 ?_; conv => whnf) | (refine br_t g6 ?_; conv => whnf) | (refine br_f g6 ?_; conv => whnf) | (refine br_t g7 ?_; conv => whnf) | (refine br_f g7 ?_; conv => whnf) | (refine br_t g8 ?_; conv => whnf) | (refine br_f g8 ?_; conv => whnf))
                  have hwi := wrap_nat (i := i) (by omega)
                  refine ⟨j - 1, (i + 1, (IntKind.i64.wrap (na + 1)), np), by omega, ?_, ?_, View.le_trans hV (by repeat (first | exact View.le_refl _ | assumption | exact View.addU_le _ _ _ | refine View.le_trans ?_ (by assumption) | refine View.le_trans ?_ (View.addU_le _ _ _))), hat'.mono (by repeat (first | exact View.le_refl _ | assumption | exact View.addU_le _ _ _ | refine View.le_trans ?_ (by assumption) | refine View.le_trans ?_ (View.addU_le _ _ _))), hi1, by show _ - (i + 1) = _; omega⟩
                  · repeat' (first | exact sees_nil | refine sees_cons rfl rfl rfl ?_ | refine sees_cons rfl rfl (by rw [← hwi]; rfl) ?_)
                  · repeat' (first | exact keeps_nil | refine keeps_cons rfl ?_ | refine keeps_free ?_)
    · repeat (first | (intro _; conv => whnf) | (refine br_t rfl ?_; conv => whnf) | (refine br_f rfl ?_; conv => whnf) | (refine IdxN.lit rfl rfl ?_; conv => whnf) | (refine br_t g2 ?_; conv => whnf) | (refine br_f g2 ?_; conv => whnf) | (refine br_t g3 ?_; conv => whnf) | (refine br_f g3 ?_; conv => whnf) | (refine br_t g4 ?_; conv => whnf) | (refine br_f g4 ?_; conv => whnf) | (refine br_t g5 ?_; conv => whnf) | (refine br_f g5 ?_; conv => whnf) | (refine br_t g6 ?_; conv => whnf) | (refine br_f g6 ?_; conv => whnf) | (refine br_t g7 ?_; conv => whnf) | (refine br_f g7 ?_; conv => whnf) | (refine br_t g8 ?_; conv => whnf) | (refine br_f g8 ?_; conv => whnf))
      apply br <;> intro g2 <;> conv => whnf
      · repeat (first | (intro _; conv => whnf) | (refine br_t rfl ?_; conv => whnf) | (refine br_f rfl ?_; conv => whnf) | (refine IdxN.lit rfl rfl ?_; conv => whnf) | (refine br_t g2 ?_; conv => whnf) | (refine br_f g2 ?_; conv => whnf) | (refine br_t g3 ?_; conv => whnf) | (refine br_f g3 ?_; conv => whnf) | (refine br_t g4 ?_; conv => whnf) | (refine br_f g4 ?_; conv => whnf) | (refine br_t g5 ?_; conv => whnf) | (refine br_f g5 ?_; conv => whnf) | (refine br_t g6 ?_; conv => whnf) | (refine br_f g6 ?_; conv => whnf) | (refine br_t g7 ?_; conv => whnf) | (refine br_f g7 ?_; conv => whnf) | (refine br_t g8 ?_; conv => whnf) | (refine br_f g8 ?_; conv => whnf))
        apply br <;> intro g3 <;> conv => whnf
        · repeat (first | (intro _; conv => whnf) | (refine br_t rfl ?_; conv => whnf) | (refine br_f rfl ?_; conv => whnf) | (refine IdxN.lit rfl rfl ?_; conv => whnf) | (refine br_t g2 ?_; conv => whnf) | (refine br_f g2 ?_; conv => whnf) | (refine br_t g3 ?_; conv => whnf) | (refine br_f g3 ?_; conv => whnf) | (refine br_t g4 ?_; conv => whnf) | (refine br_f g4 ?_; conv => whnf) | (refine br_t g5 ?_; conv => whnf) | (refine br_f g5 ?_; conv => whnf) | (refine br_t g6 ?_; conv => whnf) | (refine br_f g6 ?_; conv => whnf) | (refine br_t g7 ?_; conv => whnf) | (refine br_f g7 ?_; conv => whnf) | (refine br_t g8 ?_; conv => whnf) | (refine br_f g8 ?_; conv => whnf))
          exact ret_pure ⟨_, rfl⟩
        · repeat (first | (intro _; conv => whnf) | (refine br_t rfl ?_; conv => whnf) | (refine br_f rfl ?_; conv => whnf) | (refine IdxN.lit rfl rfl ?_; conv => whnf) | (refine br_t g2 ?_; conv => whnf) | (refine br_f g2 ?_; conv => whnf) | (refine br_t g3 ?_; conv => whnf) | (refine br_f g3 ?_; conv => whnf) | (refine br_t g4 ?_; conv => whnf) | (refine br_f g4 ?_; conv => whnf) | (refine br_t g5 ?_; conv => whnf) | (refine br_f g5 ?_; conv => whnf) | (refine br_t g6 ?_; conv => whnf) | (refine br_f g6 ?_; conv => whnf) | (refine br_t g7 ?_; conv => whnf) | (refine br_f g7 ?_; conv => whnf) | (refine br_t g8 ?_; conv => whnf) | (refine br_f g8 ?_; conv => whnf))
          apply br <;> intro g4 <;> conv => whnf
          · repeat (first | (intro _; conv => whnf) | (refine br_t rfl ?_; conv => whnf) | (refine br_f rfl ?_; conv => whnf) | (refine IdxN.lit rfl rfl ?_; conv => whnf) | (refine br_t g2 ?_; conv => whnf) | (refine br_f g2 ?_; conv => whnf) | (refine br_t g3 ?_; conv => whnf) | (refine br_f g3 ?_; conv => whnf) | (refine br_t g4 ?_; conv => whnf) | (refine br_f g4 ?_; conv => whnf) | (refine br_t g5 ?_; conv => whnf) | (refine br_f g5 ?_; conv => whnf) | (refine br_t g6 ?_; conv => whnf) | (refine br_f g6 ?_; conv => whnf) | (refine br_t g7 ?_; conv => whnf) | (refine br_f g7 ?_; conv => whnf) | (refine br_t g8 ?_; conv => whnf) | (refine br_f g8 ?_; conv => whnf))
            exact ret_pure ⟨_, rfl⟩
          · repeat (first | (intro _; conv => whnf) | (refine br_t rfl ?_; conv => whnf) | (refine br_f rfl ?_; conv => whnf) | (refine IdxN.lit rfl rfl ?_; conv => whnf) | (refine br_t g2 ?_; conv => whnf) | (refine br_f g2 ?_; conv => whnf) | (refine br_t g3 ?_; conv => whnf) | (refine br_f g3 ?_; conv => whnf) | (refine br_t g4 ?_; conv => whnf) | (refine br_f g4 ?_; conv => whnf) | (refine br_t g5 ?_; conv => whnf) | (refine br_f g5 ?_; conv => whnf) | (refine br_t g6 ?_; conv => whnf) | (refine br_f g6 ?_; conv => whnf) | (refine br_t g7 ?_; conv => whnf) | (refine br_f g7 ?_; conv => whnf) | (refine br_t g8 ?_; conv => whnf) | (refine br_f g8 ?_; conv => whnf))
            refine CallN.pure (rwhere_spec (itemsOf (tT p q) ++ itemsOf (tU p2)) (kindsOf (tT p q) ++ kindsOf (tU p2)) p5 o5 ac3 q5 u5 cc3 6 6 rfl rfl swh _ (hat'.mono (by repeat (first | exact View.le_refl _ | assumption | exact View.addU_le _ _ _ | refine View.le_trans ?_ (by assumption) | refine View.le_trans ?_ (View.addU_le _ _ _)))) (hwh.mono (by repeat (first | exact View.le_refl _ | assumption | exact View.addU_le _ _ _ | refine View.le_trans ?_ (by assumption) | refine View.le_trans ?_ (View.addU_le _ _ _))))) fun v V8 _ hV8 ⟨ew, hv⟩ => ?_
            subst hv
            conv => whnf
            apply br <;> intro g5 <;> conv => whnf
            · repeat (first | (intro _; conv => whnf) | (refine br_t rfl ?_; conv => whnf) | (refine br_f rfl ?_; conv => whnf) | (refine IdxN.lit rfl rfl ?_; conv => whnf) | (refine br_t g2 ?_; conv => whnf) | (refine br_f g2 ?_; conv => whnf) | (refine br_t g3 ?_; conv => whnf) | (refine br_f g3 ?_; conv => whnf) | (refine br_t g4 ?_; conv => whnf) | (refine br_f g4 ?_; conv => whnf) | (refine br_t g5 ?_; conv => whnf) | (refine br_f g5 ?_; conv => whnf) | (refine br_t g6 ?_; conv => whnf) | (refine br_f g6 ?_; conv => whnf) | (refine br_t g7 ?_; conv => whnf) | (refine br_f g7 ?_; conv => whnf) | (refine br_t g8 ?_; conv => whnf) | (refine br_f g8 ?_; conv => whnf))
              exact ret_pure ⟨_, rfl⟩
            · repeat (first | (intro _; conv => whnf) | (refine br_t rfl ?_; conv => whnf) | (refine br_f rfl ?_; conv => whnf) | (refine IdxN.lit rfl rfl ?_; conv => whnf) | (refine br_t g2 ?_; conv => whnf) | (refine br_f g2 ?_; conv => whnf) | (refine br_t g3 ?_; conv => whnf) | (refine br_f g3 ?_; conv => whnf) | (refine br_t g4 ?_; conv => whnf) | (refine br_f g4 ?_; conv => whnf) | (refine br_t g5 ?_; conv => whnf) | (refine br_f g5 ?_; conv => whnf) | (refine br_t g6 ?_; conv => whnf) | (refine br_f g6 ?_; conv => whnf) | (refine br_t g7 ?_; conv => whnf) | (refine br_f g7 ?_; conv => whnf) | (refine br_t g8 ?_; conv => whnf) | (refine br_f g8 ?_; conv => whnf))
              apply br <;> intro g6 <;> conv => whnf
              · repeat (first | (intro _; conv => whnf) | (refine br_t rfl ?_; conv => whnf) | (refine br_f rfl ?_; conv => whnf) | (refine IdxN.lit rfl rfl ?_; conv => whnf) | (refine br_t g2 ?_; conv => whnf) | (refine br_f g2 ?_; conv => whnf) | (refine br_t g3 ?_; conv => whnf) | (refine br_f g3 ?_; conv => whnf) | (refine br_t g4 ?_; conv => whnf) | (refine br_f g4 ?_; conv => whnf) | (refine br_t g5 ?_; conv => whnf) | (refine br_f g5 ?_; conv => whnf) | (refine br_t g6 ?_; conv => whnf) | (refine br_f g6 ?_; conv => whnf) | (refine br_t g7 ?_; conv => whnf) | (refine br_f g7 ?_; conv => whnf) | (refine br_t g8 ?_; conv => whnf) | (refine br_f g8 ?_; conv => whnf))
                exact ret_pure ⟨_, rfl⟩
              · rcases hor with hor | ⟨go1, gtb, gnm, hor, hgo⟩
                · have hor : sord = (none, 0, 0) := hor
                  rw [hor] at g6
                  exact absurd g6 (by decide)
                · have hor : sord = (some ⟨go1, 0, none⟩, 1, 1) := hor
                  subst hor
                  repeat (first | (intro _; conv => whnf) | (refine br_t rfl ?_; conv => whnf) | (refine br_f rfl ?_; conv => whnf) | (refine IdxN.lit rfl rfl ?_; conv => whnf) | (refine br_t g2 ?_; conv => whnf) | (refine br_f g2 ?_; conv => whnf) | (refine br_t g3 ?_; conv => whnf) | (refine br_f g3 ?_; conv => whnf) | (refine br_t g4 ?_; conv => whnf) | (refine br_f g4 ?_; conv => whnf) | (refine br_t g5 ?_; conv => whnf) | (refine br_f g5 ?_; conv => whnf) | (refine br_t g6 ?_; conv => whnf) | (refine br_f g6 ?_; conv => whnf) | (refine br_t g7 ?_; conv => whnf) | (refine br_f g7 ?_; conv => whnf) | (refine br_t g8 ?_; conv => whnf) | (refine br_f g8 ?_; conv => whnf))
                  refine LoadN.of (hgo.mono (by repeat (first | exact View.le_refl _ | assumption | exact View.addU_le _ _ _ | refine View.le_trans ?_ (by assumption) | refine View.le_trans ?_ (View.addU_le _ _ _)))) 0 rfl rfl ?_
                  conv => whnf
                  repeat (first | (intro _; conv => whnf) | (refine br_t rfl ?_; conv => whnf) | (refine br_f rfl ?_; conv => whnf) | (refine IdxN.lit rfl rfl ?_; conv => whnf) | (refine br_t g2 ?_; conv => whnf) | (refine br_f g2 ?_; conv => whnf) | (refine br_t g3 ?_; conv => whnf) | (refine br_f g3 ?_; conv => whnf) | (refine br_t g4 ?_; conv => whnf) | (refine br_f g4 ?_; conv => whnf) | (refine br_t g5 ?_; conv => whnf) | (refine br_f g5 ?_; conv => whnf) | (refine br_t g6 ?_; conv => whnf) | (refine br_f g6 ?_; conv => whnf) | (refine br_t g7 ?_; conv => whnf) | (refine br_f g7 ?_; conv => whnf) | (refine br_t g8 ?_; conv => whnf) | (refine br_f g8 ?_; conv => whnf))
                  refine CallN.pure (at_spec (itemsOf (tT p q) ++ itemsOf (tU p2)) 6 p5 ac3 o5 (colN gtb gnm) _ (hat'.hasI.mono (by repeat (first | exact View.le_refl _ | assumption | exact View.addU_le _ _ _ | refine View.le_trans ?_ (by assumption) | refine View.le_trans ?_ (View.addU_le _ _ _)))) (by show 6 ≤ 1000000; decide) (by decide)) fun v V9 _ hV9 hv => ?_
                  subst hv
                  conv => whnf
                  repeat (first | (intro _; conv => whnf) | (refine br_t rfl ?_; conv => whnf) | (refine br_f rfl ?_; conv => whnf) | (refine IdxN.lit rfl rfl ?_; conv => whnf) | (refine br_t g2 ?_; conv => whnf) | (refine br_f g2 ?_; conv => whnf) | (refine br_t g3 ?_; conv => whnf) | (refine br_f g3 ?_; conv => whnf) | (refine br_t g4 ?_; conv => whnf) | (refine br_f g4 ?_; conv => whnf) | (refine br_t g5 ?_; conv => whnf) | (refine br_f g5 ?_; conv => whnf) | (refine br_t g6 ?_; conv => whnf) | (refine br_f g6 ?_; conv => whnf) | (refine br_t g7 ?_; conv => whnf) | (refine br_f g7 ?_; conv => whnf) | (refine br_t g8 ?_; conv => whnf) | (refine br_f g8 ?_; conv => whnf))
                  exact ret_pure ⟨_, rfl⟩
      · repeat (first | (intro _; conv => whnf) | (refine br_t rfl ?_; conv => whnf) | (refine br_f rfl ?_; conv => whnf) | (refine IdxN.lit rfl rfl ?_; conv => whnf) | (refine br_t g2 ?_; conv => whnf) | (refine br_f g2 ?_; conv => whnf) | (refine br_t g3 ?_; conv => whnf) | (refine br_f g3 ?_; conv => whnf) | (refine br_t g4 ?_; conv => whnf) | (refine br_f g4 ?_; conv => whnf) | (refine br_t g5 ?_; conv => whnf) | (refine br_f g5 ?_; conv => whnf) | (refine br_t g6 ?_; conv => whnf) | (refine br_f g6 ?_; conv => whnf) | (refine br_t g7 ?_; conv => whnf) | (refine br_f g7 ?_; conv => whnf) | (refine br_t g8 ?_; conv => whnf) | (refine br_f g8 ?_; conv => whnf))
        refine CallN.pure (rwhere_spec (itemsOf (tT p q) ++ itemsOf (tU p2)) (kindsOf (tT p q) ++ kindsOf (tU p2)) p5 o5 ac3 q5 u5 cc3 6 6 rfl rfl swh _ (hat'.mono (by repeat (first | exact View.le_refl _ | assumption | exact View.addU_le _ _ _ | refine View.le_trans ?_ (by assumption) | refine View.le_trans ?_ (View.addU_le _ _ _)))) (hwh.mono (by repeat (first | exact View.le_refl _ | assumption | exact View.addU_le _ _ _ | refine View.le_trans ?_ (by assumption) | refine View.le_trans ?_ (View.addU_le _ _ _))))) fun v V8 _ hV8 ⟨ew, hv⟩ => ?_
        subst hv
        conv => whnf
        apply br <;> intro g5 <;> conv => whnf
        · repeat (first | (intro _; conv => whnf) | (refine br_t rfl ?_; conv => whnf) | (refine br_f rfl ?_; conv => whnf) | (refine IdxN.lit rfl rfl ?_; conv => whnf) | (refine br_t g2 ?_; conv => whnf) | (refine br_f g2 ?_; conv => whnf) | (refine br_t g3 ?_; conv => whnf) | (refine br_f g3 ?_; conv => whnf) | (refine br_t g4 ?_; conv => whnf) | (refine br_f g4 ?_; conv => whnf) | (refine br_t g5 ?_; conv => whnf) | (refine br_f g5 ?_; conv => whnf) | (refine br_t g6 ?_; conv => whnf) | (refine br_f g6 ?_; conv => whnf) | (refine br_t g7 ?_; conv => whnf) | (refine br_f g7 ?_; conv => whnf) | (refine br_t g8 ?_; conv => whnf) | (refine br_f g8 ?_; conv => whnf))
          exact ret_pure ⟨_, rfl⟩
        · repeat (first | (intro _; conv => whnf) | (refine br_t rfl ?_; conv => whnf) | (refine br_f rfl ?_; conv => whnf) | (refine IdxN.lit rfl rfl ?_; conv => whnf) | (refine br_t g2 ?_; conv => whnf) | (refine br_f g2 ?_; conv => whnf) | (refine br_t g3 ?_; conv => whnf) | (refine br_f g3 ?_; conv => whnf) | (refine br_t g4 ?_; conv => whnf) | (refine br_f g4 ?_; conv => whnf) | (refine br_t g5 ?_; conv => whnf) | (refine br_f g5 ?_; conv => whnf) | (refine br_t g6 ?_; conv => whnf) | (refine br_f g6 ?_; conv => whnf) | (refine br_t g7 ?_; conv => whnf) | (refine br_f g7 ?_; conv => whnf) | (refine br_t g8 ?_; conv => whnf) | (refine br_f g8 ?_; conv => whnf))
          apply br <;> intro g6 <;> conv => whnf
          · repeat (first | (intro _; conv => whnf) | (refine br_t rfl ?_; conv => whnf) | (refine br_f rfl ?_; conv => whnf) | (refine IdxN.lit rfl rfl ?_; conv => whnf) | (refine br_t g2 ?_; conv => whnf) | (refine br_f g2 ?_; conv => whnf) | (refine br_t g3 ?_; conv => whnf) | (refine br_f g3 ?_; conv => whnf) | (refine br_t g4 ?_; conv => whnf) | (refine br_f g4 ?_; conv => whnf) | (refine br_t g5 ?_; conv => whnf) | (refine br_f g5 ?_; conv => whnf) | (refine br_t g6 ?_; conv => whnf) | (refine br_f g6 ?_; conv => whnf) | (refine br_t g7 ?_; conv => whnf) | (refine br_f g7 ?_; conv => whnf) | (refine br_t g8 ?_; conv => whnf) | (refine br_f g8 ?_; conv => whnf))
            exact ret_pure ⟨_, rfl⟩
          · rcases hor with hor | ⟨go1, gtb, gnm, hor, hgo⟩
            · have hor : sord = (none, 0, 0) := hor
              rw [hor] at g6
              exact absurd g6 (by decide)
            · have hor : sord = (some ⟨go1, 0, none⟩, 1, 1) := hor
              subst hor
              repeat (first | (intro _; conv => whnf) | (refine br_t rfl ?_; conv => whnf) | (refine br_f rfl ?_; conv => whnf) | (refine IdxN.lit rfl rfl ?_; conv => whnf) | (refine br_t g2 ?_; conv => whnf) | (refine br_f g2 ?_; conv => whnf) | (refine br_t g3 ?_; conv => whnf) | (refine br_f g3 ?_; conv => whnf) | (refine br_t g4 ?_; conv => whnf) | (refine br_f g4 ?_; conv => whnf) | (refine br_t g5 ?_; conv => whnf) | (refine br_f g5 ?_; conv => whnf) | (refine br_t g6 ?_; conv => whnf) | (refine br_f g6 ?_; conv => whnf) | (refine br_t g7 ?_; conv => whnf) | (refine br_f g7 ?_; conv => whnf) | (refine br_t g8 ?_; conv => whnf) | (refine br_f g8 ?_; conv => whnf))
              refine LoadN.of (hgo.mono (by repeat (first | exact View.le_refl _ | assumption | exact View.addU_le _ _ _ | refine View.le_trans ?_ (by assumption) | refine View.le_trans ?_ (View.addU_le _ _ _)))) 0 rfl rfl ?_
              conv => whnf
              repeat (first | (intro _; conv => whnf) | (refine br_t rfl ?_; conv => whnf) | (refine br_f rfl ?_; conv => whnf) | (refine IdxN.lit rfl rfl ?_; conv => whnf) | (refine br_t g2 ?_; conv => whnf) | (refine br_f g2 ?_; conv => whnf) | (refine br_t g3 ?_; conv => whnf) | (refine br_f g3 ?_; conv => whnf) | (refine br_t g4 ?_; conv => whnf) | (refine br_f g4 ?_; conv => whnf) | (refine br_t g5 ?_; conv => whnf) | (refine br_f g5 ?_; conv => whnf) | (refine br_t g6 ?_; conv => whnf) | (refine br_f g6 ?_; conv => whnf) | (refine br_t g7 ?_; conv => whnf) | (refine br_f g7 ?_; conv => whnf) | (refine br_t g8 ?_; conv => whnf) | (refine br_f g8 ?_; conv => whnf))
              refine CallN.pure (at_spec (itemsOf (tT p q) ++ itemsOf (tU p2)) 6 p5 ac3 o5 (colN gtb gnm) _ (hat'.hasI.mono (by repeat (first | exact View.le_refl _ | assumption | exact View.addU_le _ _ _ | refine View.le_trans ?_ (by assumption) | refine View.le_trans ?_ (View.addU_le _ _ _)))) (by show 6 ≤ 1000000; decide) (by decide)) fun v V9 _ hV9 hv => ?_
              subst hv
              conv => whnf
              repeat (first | (intro _; conv => whnf) | (refine br_t rfl ?_; conv => whnf) | (refine br_f rfl ?_; conv => whnf) | (refine IdxN.lit rfl rfl ?_; conv => whnf) | (refine br_t g2 ?_; conv => whnf) | (refine br_f g2 ?_; conv => whnf) | (refine br_t g3 ?_; conv => whnf) | (refine br_f g3 ?_; conv => whnf) | (refine br_t g4 ?_; conv => whnf) | (refine br_f g4 ?_; conv => whnf) | (refine br_t g5 ?_; conv => whnf) | (refine br_f g5 ?_; conv => whnf) | (refine br_t g6 ?_; conv => whnf) | (refine br_f g6 ?_; conv => whnf) | (refine br_t g7 ?_; conv => whnf) | (refine br_f g7 ?_; conv => whnf) | (refine br_t g8 ?_; conv => whnf) | (refine br_f g8 ?_; conv => whnf))
              exact ret_pure ⟨_, rfl⟩
set_option maxHeartbeats 8000000 in
theorem rselU_spec (s : StV) (r p q p2 : Nat) (V : View) (hr : V.has r 0 (tvcells (tT p q) ++ tvcells (tU p2))) (ht : TabOk V (tU p2)) (ho : TabOk V (tT p q)) (hsel : SelAt V (tU p2) (tT p q) s) :
    PSpec 85 [tv3 r, stv s, tabv (tU p2)] V (fun v _ => ∃ e, v = .int .i64 e) := by
  obtain ⟨skind, stb, snm, s3, s4, s5, ⟨ib, il, ic⟩, sjoin, son, swh, sord, sdesc, sinn⟩ := s
  obtain ⟨h1, h2, h3⟩ := hsel
  have h1 : skind = 6 := h1
  have h2 : stb = (tU p2).nm := h2
  subst h1
  refine does_of_zfun [(18, [(0, []), (1, []), (2, []), (3, []), (4, []), (5, []), (6, [])])] mixed (args := [.v _, .v _, .v _]) (ms := []) Try.func85 (by kernel_rfl) rfl ?_
  conv => whnf
  repeat' first
    | (refine br_t rfl ?_; conv => whnf)
    | (refine br_f rfl ?_; conv => whnf)
    | (refine IdxN.lit rfl rfl ?_; conv => whnf)
    | (intro _; conv => whnf)
  rename_i b3 b4 b5
  refine CallN.news (colsR_spec (tU p2) _ (ht.mono (by repeat (first | exact View.le_refl _ | assumption | exact View.addU_le _ _ _ | refine View.le_trans ?_ (by assumption) | refine View.le_trans ?_ (View.addU_le _ _ _))))) fun v Vc bs hVc ⟨a, ac, c, cc, hv, hA, hC, hb⟩ => ⟨[(300, .row (.slice a 3 ac) 61 3 3), (301, .row (.slice c 3 cc) 3 1 3)], by rw [hb]; rfl, by simp, fun x hx => by (simp only [List.mem_cons, List.not_mem_nil, or_false] at hx; rcases hx with rfl | rfl <;> rfl), ?_⟩
  subst hv
  conv => whnf
  repeat' first
    | (refine br_t rfl ?_; conv => whnf)
    | (refine br_f rfl ?_; conv => whnf)
    | (refine IdxN.lit rfl rfl ?_; conv => whnf)
    | (intro _; conv => whnf)
  rcases h3 with ⟨hj, hon, hp⟩ | ⟨hj, hon, hp⟩
  · have hj : sjoin = noText := hj
    subst hj
    refine br_f (by simp [noText, ByteArray.toList_eq]) ?_
    conv => whnf
    repeat' first
      | (refine br_t rfl ?_; conv => whnf)
      | (refine br_f rfl ?_; conv => whnf)
      | (refine IdxN.lit rfl rfl ?_; conv => whnf)
      | (intro _; conv => whnf)
    obtain ⟨p5, o5, hb5, hh5⟩ := cells_some hA (by intro h; cases h)
    obtain ⟨q5, u5, hd5, hj5⟩ := cells_some hC (by intro h; cases h)
    subst hb5; subst hd5
    have hat : ColsAt Vc (itemsOf (tU p2)) (kindsOf (tU p2)) p5 o5 q5 u5 := ⟨hh5, hj5, rfl, by show 3 ≤ 20; decide⟩
    obtain ⟨l, hil, hl4, hic⟩ := hp.items
    have hil : il = l.length := hil
    subst hil
    have hic : V.cells (.slice ib l.length ic) (l.flatMap icells) := hic
    have hor := hp.order
    have hwh := hp.wh
    refine loopz (σ := Nat × Int × Int)
      (fun x => [(4, .own 4 0), (7, .v (.slice (some ⟨p5, o5, none⟩) 3 ac)), (8, .v (.slice (some ⟨q5, u5, none⟩) 3 cc)), (17, .v (.int .i64 x.2.1)), (18, .v (.int .i64 x.2.2)), (19, .v (.int .i64 x.1))])
      (fun _ => [(4, .box b4 70 [.int .i64 6, .string (stb), .string snm, .slice s3.1 s3.2.1 s3.2.2, .slice s4.1 s4.2.1 s4.2.2, .slice s5.1 s5.2.1 s5.2.2, .slice ib l.length ic, .string (noText), .slice (son : Option Addr × Nat × Nat).1 (son : Option Addr × Nat × Nat).2.1 (son : Option Addr × Nat × Nat).2.2, .slice swh.1 swh.2.1 swh.2.2, .slice sord.1 sord.2.1 sord.2.2, .bool sdesc, .slice sinn.1 sinn.2.1 sinn.2.2])])
      (fun j x V' => V.le V' ∧ ColsAt V' (itemsOf (tU p2)) (kindsOf (tU p2)) p5 o5 q5 u5 ∧ x.1 ≤ l.length ∧ l.length - x.1 = j) l.length (0, 0, 0) ?_ ?_ ?_ ?_
    · repeat' (first | exact sees_nil | refine sees_cons rfl rfl rfl ?_)
    · repeat' (first | exact keeps_nil | refine keeps_cons rfl ?_ | refine keeps_free ?_)
    · exact ⟨(by repeat (first | exact View.le_refl _ | assumption | exact View.addU_le _ _ _ | refine View.le_trans ?_ (by assumption) | refine View.le_trans ?_ (View.addU_le _ _ _))), (hat).mono (by repeat (first | exact View.le_refl _ | assumption | exact View.addU_le _ _ _ | refine View.le_trans ?_ (by assumption) | refine View.le_trans ?_ (View.addU_le _ _ _))), Nat.zero_le _, rfl⟩
    rintro j ⟨i, na, np⟩ V' ⟨hV, hat', hi, hj⟩
    simp only at hi hj
    conv => whnf
    apply br <;> intro g1 <;> conv => whnf
    · have hi1 : i < l.length := by have := of_decide_eq_true g1; omega
      obtain ⟨x, hx⟩ : ∃ x, l[i]? = some x := ⟨_, List.getElem?_eq_getElem hi1⟩
      obtain ⟨pi, oi, hbi, hhi⟩ := cells_some hic (by
        obtain ⟨y, l', rfl⟩ := List.exists_cons_of_ne_nil (fun e : l = [] => by rw [e] at hi1; cases hi1)
        intro h; cases h)
      subst hbi
      have hxc := has_flat (n := 3) (fun _ => rfl) l oi hhi i x hx
      obtain ⟨xa, xt, xn⟩ := x
      repeat (first | (intro _; conv => whnf) | (refine br_t rfl ?_; conv => whnf) | (refine br_f rfl ?_; conv => whnf) | (refine IdxN.lit rfl rfl ?_; conv => whnf) | (refine br_t g2 ?_; conv => whnf) | (refine br_f g2 ?_; conv => whnf) | (refine br_t g3 ?_; conv => whnf) | (refine br_f g3 ?_; conv => whnf) | (refine br_t g4 ?_; conv => whnf) | (refine br_f g4 ?_; conv => whnf) | (refine br_t g5 ?_; conv => whnf) | (refine br_f g5 ?_; conv => whnf) | (refine br_t g6 ?_; conv => whnf) | (refine br_f g6 ?_; conv => whnf) | (refine br_t g7 ?_; conv => whnf) | (refine br_f g7 ?_; conv => whnf) | (refine br_t g8 ?_; conv => whnf) | (refine br_f g8 ?_; conv => whnf))
      refine IdxN.of (by omega) (by omega) ?_
      conv => whnf
      refine LoadN.of (hxc.mono (by repeat (first | exact View.le_refl _ | assumption | exact View.addU_le _ _ _ | refine View.le_trans ?_ (by assumption) | refine View.le_trans ?_ (View.addU_le _ _ _)))) 0 rfl rfl ?_
      conv => whnf
      repeat (first | (intro _; conv => whnf) | (refine br_t rfl ?_; conv => whnf) | (refine br_f rfl ?_; conv => whnf) | (refine IdxN.lit rfl rfl ?_; conv => whnf) | (refine br_t g2 ?_; conv => whnf) | (refine br_f g2 ?_; conv => whnf) | (refine br_t g3 ?_; conv => whnf) | (refine br_f g3 ?_; conv => whnf) | (refine br_t g4 ?_; conv => whnf) | (refine br_f g4 ?_; conv => whnf) | (refine br_t g5 ?_; conv => whnf) | (refine br_f g5 ?_; conv => whnf) | (refine br_t g6 ?_; conv => whnf) | (refine br_f g6 ?_; conv => whnf) | (refine br_t g7 ?_; conv => whnf) | (refine br_f g7 ?_; conv => whnf) | (refine br_t g8 ?_; conv => whnf) | (refine br_f g8 ?_; conv => whnf))
      apply br <;> intro g2 <;> conv => whnf
      · repeat (first | (intro _; conv => whnf) | (refine br_t rfl ?_; conv => whnf) | (refine br_f rfl ?_; conv => whnf) | (refine IdxN.lit rfl rfl ?_; conv => whnf) | (refine br_t g2 ?_; conv => whnf) | (refine br_f g2 ?_; conv => whnf) | (refine br_t g3 ?_; conv => whnf) | (refine br_f g3 ?_; conv => whnf) | (refine br_t g4 ?_; conv => whnf) | (refine br_f g4 ?_; conv => whnf) | (refine br_t g5 ?_; conv => whnf) | (refine br_f g5 ?_; conv => whnf) | (refine br_t g6 ?_; conv => whnf) | (refine br_f g6 ?_; conv => whnf) | (refine br_t g7 ?_; conv => whnf) | (refine br_f g7 ?_; conv => whnf) | (refine br_t g8 ?_; conv => whnf) | (refine br_f g8 ?_; conv => whnf))
        exact ret_pure ⟨_, rfl⟩
      · repeat (first | (intro _; conv => whnf) | (refine br_t rfl ?_; conv => whnf) | (refine br_f rfl ?_; conv => whnf) | (refine IdxN.lit rfl rfl ?_; conv => whnf) | (refine br_t g2 ?_; conv => whnf) | (refine br_f g2 ?_; conv => whnf) | (refine br_t g3 ?_; conv => whnf) | (refine br_f g3 ?_; conv => whnf) | (refine br_t g4 ?_; conv => whnf) | (refine br_f g4 ?_; conv => whnf) | (refine br_t g5 ?_; conv => whnf) | (refine br_f g5 ?_; conv => whnf) | (refine br_t g6 ?_; conv => whnf) | (refine br_f g6 ?_; conv => whnf) | (refine br_t g7 ?_; conv => whnf) | (refine br_f g7 ?_; conv => whnf) | (refine br_t g8 ?_; conv => whnf) | (refine br_f g8 ?_; conv => whnf))
        apply br <;> intro g3 <;> conv => whnf
        · repeat (first | (intro _; conv => whnf) | (refine br_t rfl ?_; conv => whnf) | (refine br_f rfl ?_; conv => whnf) | (refine IdxN.lit rfl rfl ?_; conv => whnf) | (refine br_t g2 ?_; conv => whnf) | (refine br_f g2 ?_; conv => whnf) | (refine br_t g3 ?_; conv => whnf) | (refine br_f g3 ?_; conv => whnf) | (refine br_t g4 ?_; conv => whnf) | (refine br_f g4 ?_; conv => whnf) | (refine br_t g5 ?_; conv => whnf) | (refine br_f g5 ?_; conv => whnf) | (refine br_t g6 ?_; conv => whnf) | (refine br_f g6 ?_; conv => whnf) | (refine br_t g7 ?_; conv => whnf) | (refine br_f g7 ?_; conv => whnf) | (refine br_t g8 ?_; conv => whnf) | (refine br_f g8 ?_; conv => whnf))
          exact ret_pure ⟨_, rfl⟩
        · repeat (first | (intro _; conv => whnf) | (refine br_t rfl ?_; conv => whnf) | (refine br_f rfl ?_; conv => whnf) | (refine IdxN.lit rfl rfl ?_; conv => whnf) | (refine br_t g2 ?_; conv => whnf) | (refine br_f g2 ?_; conv => whnf) | (refine br_t g3 ?_; conv => whnf) | (refine br_f g3 ?_; conv => whnf) | (refine br_t g4 ?_; conv => whnf) | (refine br_f g4 ?_; conv => whnf) | (refine br_t g5 ?_; conv => whnf) | (refine br_f g5 ?_; conv => whnf) | (refine br_t g6 ?_; conv => whnf) | (refine br_f g6 ?_; conv => whnf) | (refine br_t g7 ?_; conv => whnf) | (refine br_f g7 ?_; conv => whnf) | (refine br_t g8 ?_; conv => whnf) | (refine br_f g8 ?_; conv => whnf))
          apply br <;> intro g4 <;> conv => whnf
          · repeat (first | (intro _; conv => whnf) | (refine br_t rfl ?_; conv => whnf) | (refine br_f rfl ?_; conv => whnf) | (refine IdxN.lit rfl rfl ?_; conv => whnf) | (refine br_t g2 ?_; conv => whnf) | (refine br_f g2 ?_; conv => whnf) | (refine br_t g3 ?_; conv => whnf) | (refine br_f g3 ?_; conv => whnf) | (refine br_t g4 ?_; conv => whnf) | (refine br_f g4 ?_; conv => whnf) | (refine br_t g5 ?_; conv => whnf) | (refine br_f g5 ?_; conv => whnf) | (refine br_t g6 ?_; conv => whnf) | (refine br_f g6 ?_; conv => whnf) | (refine br_t g7 ?_; conv => whnf) | (refine br_f g7 ?_; conv => whnf) | (refine br_t g8 ?_; conv => whnf) | (refine br_f g8 ?_; conv => whnf))
            apply br <;> intro g5 <;> conv => whnf
            · repeat (first | (intro _; conv => whnf) | (refine br_t rfl ?_; conv => whnf) | (refine br_f rfl ?_; conv => whnf) | (refine IdxN.lit rfl rfl ?_; conv => whnf) | (refine br_t g2 ?_; conv => whnf) | (refine br_f g2 ?_; conv => whnf) | (refine br_t g3 ?_; conv => whnf) | (refine br_f g3 ?_; conv => whnf) | (refine br_t g4 ?_; conv => whnf) | (refine br_f g4 ?_; conv => whnf) | (refine br_t g5 ?_; conv => whnf) | (refine br_f g5 ?_; conv => whnf) | (refine br_t g6 ?_; conv => whnf) | (refine br_f g6 ?_; conv => whnf) | (refine br_t g7 ?_; conv => whnf) | (refine br_f g7 ?_; conv => whnf) | (refine br_t g8 ?_; conv => whnf) | (refine br_f g8 ?_; conv => whnf))
              exact ret_pure ⟨_, rfl⟩
            · repeat (first | (intro _; conv => whnf) | (refine br_t rfl ?_; conv => whnf) | (refine br_f rfl ?_; conv => whnf) | (refine IdxN.lit rfl rfl ?_; conv => whnf) | (refine br_t g2 ?_; conv => whnf) | (refine br_f g2 ?_; conv => whnf) | (refine br_t g3 ?_; conv => whnf) | (refine br_f g3 ?_; conv => whnf) | (refine br_t g4 ?_; conv => whnf) | (refine br_f g4 ?_; conv => whnf) | (refine br_t g5 ?_; conv => whnf) | (refine br_f g5 ?_; conv => whnf) | (refine br_t g6 ?_; conv => whnf) | (refine br_f g6 ?_; conv => whnf) | (refine br_t g7 ?_; conv => whnf) | (refine br_f g7 ?_; conv => whnf) | (refine br_t g8 ?_; conv => whnf) | (refine br_f g8 ?_; conv => whnf))
              apply br <;> intro g6 <;> conv => whnf
              · repeat (first | (intro _; conv => whnf) | (refine br_t rfl ?_; conv => whnf) | (refine br_f rfl ?_; conv => whnf) | (refine IdxN.lit rfl rfl ?_; conv => whnf) | (refine br_t g2 ?_; conv => whnf) | (refine br_f g2 ?_; conv => whnf) | (refine br_t g3 ?_; conv => whnf) | (refine br_f g3 ?_; conv => whnf) | (refine br_t g4 ?_; conv => whnf) | (refine br_f g4 ?_; conv => whnf) | (refine br_t g5 ?_; conv => whnf) | (refine br_f g5 ?_; conv => whnf) | (refine br_t g6 ?_; conv => whnf) | (refine br_f g6 ?_; conv => whnf) | (refine br_t g7 ?_; conv => whnf) | (refine br_f g7 ?_; conv => whnf) | (refine br_t g8 ?_; conv => whnf) | (refine br_f g8 ?_; conv => whnf))
                have hwi := wrap_nat (i := i) (by omega)
                refine ⟨j - 1, (i + 1, na, (IntKind.i64.wrap (np + 1))), by omega, ?_, ?_, View.le_trans hV (by repeat (first | exact View.le_refl _ | assumption | exact View.addU_le _ _ _ | refine View.le_trans ?_ (by assumption) | refine View.le_trans ?_ (View.addU_le _ _ _))), hat'.mono (by repeat (first | exact View.le_refl _ | assumption | exact View.addU_le _ _ _ | refine View.le_trans ?_ (by assumption) | refine View.le_trans ?_ (View.addU_le _ _ _))), hi1, by show _ - (i + 1) = _; omega⟩
                · repeat' (first | exact sees_nil | refine sees_cons rfl rfl rfl ?_ | refine sees_cons rfl rfl (by rw [← hwi]; rfl) ?_)
                · repeat' (first | exact keeps_nil | refine keeps_cons rfl ?_ | refine keeps_free ?_)
              · repeat (first | (intro _; conv => whnf) | (refine br_t rfl ?_; conv => whnf) | (refine br_f rfl ?_; conv => whnf) | (refine IdxN.lit rfl rfl ?_; conv => whnf) | (refine br_t g2 ?_; conv => whnf) | (refine br_f g2 ?_; conv => whnf) | (refine br_t g3 ?_; conv => whnf) | (refine br_f g3 ?_; conv => whnf) | (refine br_t g4 ?_; conv => whnf) | (refine br_f g4 ?_; conv => whnf) | (refine br_t g5 ?_; conv => whnf) | (refine br_f g5 ?_; conv => whnf) | (refine br_t g6 ?_; conv => whnf) | (refine br_f g6 ?_; conv => whnf) | (refine br_t g7 ?_; conv => whnf) | (refine br_f g7 ?_; conv => whnf) | (refine br_t g8 ?_; conv => whnf) | (refine br_f g8 ?_; conv => whnf))
                have hwi := wrap_nat (i := i) (by omega)
                refine ⟨j - 1, (i + 1, (IntKind.i64.wrap (na + 1)), np), by omega, ?_, ?_, View.le_trans hV (by repeat (first | exact View.le_refl _ | assumption | exact View.addU_le _ _ _ | refine View.le_trans ?_ (by assumption) | refine View.le_trans ?_ (View.addU_le _ _ _))), hat'.mono (by repeat (first | exact View.le_refl _ | assumption | exact View.addU_le _ _ _ | refine View.le_trans ?_ (by assumption) | refine View.le_trans ?_ (View.addU_le _ _ _))), hi1, by show _ - (i + 1) = _; omega⟩
                · repeat' (first | exact sees_nil | refine sees_cons rfl rfl rfl ?_ | refine sees_cons rfl rfl (by rw [← hwi]; rfl) ?_)
                · repeat' (first | exact keeps_nil | refine keeps_cons rfl ?_ | refine keeps_free ?_)
          · repeat (first | (intro _; conv => whnf) | (refine br_t rfl ?_; conv => whnf) | (refine br_f rfl ?_; conv => whnf) | (refine IdxN.lit rfl rfl ?_; conv => whnf) | (refine br_t g2 ?_; conv => whnf) | (refine br_f g2 ?_; conv => whnf) | (refine br_t g3 ?_; conv => whnf) | (refine br_f g3 ?_; conv => whnf) | (refine br_t g4 ?_; conv => whnf) | (refine br_f g4 ?_; conv => whnf) | (refine br_t g5 ?_; conv => whnf) | (refine br_f g5 ?_; conv => whnf) | (refine br_t g6 ?_; conv => whnf) | (refine br_f g6 ?_; conv => whnf) | (refine br_t g7 ?_; conv => whnf) | (refine br_f g7 ?_; conv => whnf) | (refine br_t g8 ?_; conv => whnf) | (refine br_f g8 ?_; conv => whnf))
            apply br <;> intro g6 <;> conv => whnf
            · repeat (first | (intro _; conv => whnf) | (refine br_t rfl ?_; conv => whnf) | (refine br_f rfl ?_; conv => whnf) | (refine IdxN.lit rfl rfl ?_; conv => whnf) | (refine br_t g2 ?_; conv => whnf) | (refine br_f g2 ?_; conv => whnf) | (refine br_t g3 ?_; conv => whnf) | (refine br_f g3 ?_; conv => whnf) | (refine br_t g4 ?_; conv => whnf) | (refine br_f g4 ?_; conv => whnf) | (refine br_t g5 ?_; conv => whnf) | (refine br_f g5 ?_; conv => whnf) | (refine br_t g6 ?_; conv => whnf) | (refine br_f g6 ?_; conv => whnf) | (refine br_t g7 ?_; conv => whnf) | (refine br_f g7 ?_; conv => whnf) | (refine br_t g8 ?_; conv => whnf) | (refine br_f g8 ?_; conv => whnf))
              refine CallN.pure (at_spec (itemsOf (tU p2)) 3 p5 ac o5 ⟨0, v0, xt, xn, none, 0, 0⟩ _ (hat'.hasI.mono (by repeat (first | exact View.le_refl _ | assumption | exact View.addU_le _ _ _ | refine View.le_trans ?_ (by assumption) | refine View.le_trans ?_ (View.addU_le _ _ _)))) (by show 3 ≤ 1000000; decide) (by decide)) fun v V7 _ hV7 hv => ?_
              subst hv
              conv => whnf
              apply br <;> intro g7 <;> conv => whnf
              · repeat (first | (intro _; conv => whnf) | (refine br_t rfl ?_; conv => whnf) | (refine br_f rfl ?_; conv => whnf) | (refine IdxN.lit rfl rfl ?_; conv => whnf) | (refine br_t g2 ?_; conv => whnf) | (refine br_f g2 ?_; conv => whnf) | (refine br_t g3 ?_; conv => whnf) | (refine br_f g3 ?_; conv => whnf) | (refine br_t g4 ?_; conv => whnf) | (refine br_f g4 ?_; conv => whnf) | (refine br_t g5 ?_; conv => whnf) | (refine br_f g5 ?_; conv => whnf) | (refine br_t g6 ?_; conv => whnf) | (refine br_f g6 ?_; conv => whnf) | (refine br_t g7 ?_; conv => whnf) | (refine br_f g7 ?_; conv => whnf) | (refine br_t g8 ?_; conv => whnf) | (refine br_f g8 ?_; conv => whnf))
                exact ret_pure ⟨_, rfl⟩
              · have g7' : (atA xt xn ((itemsOf (tU p2)).take 3)).2 = 0 := by simpa using g7
                obtain ⟨h0, h1⟩ := atA_range g7'
                obtain ⟨kk, hkk⟩ := Int.eq_ofNat_of_zero_le h0
                have h1 : (atA xt xn ((itemsOf (tU p2)).take 3)).1 < ((3 : Nat) : Int) := h1
                obtain ⟨kv, hkv⟩ : ∃ y, (kindsOf (tU p2))[kk]? = some y := ⟨_, List.getElem?_eq_getElem (by show kk < 3; omega)⟩
                have hone := has_one hat'.hasK (i := kk) (c := .int .i64 kv) (by rw [List.getElem?_map, hkv]; rfl)
                repeat (first | (intro _; conv => whnf) | (refine br_t rfl ?_; conv => whnf) | (refine br_f rfl ?_; conv => whnf) | (refine IdxN.lit rfl rfl ?_; conv => whnf) | (refine br_t g2 ?_; conv => whnf) | (refine br_f g2 ?_; conv => whnf) | (refine br_t g3 ?_; conv => whnf) | (refine br_f g3 ?_; conv => whnf) | (refine br_t g4 ?_; conv => whnf) | (refine br_f g4 ?_; conv => whnf) | (refine br_t g5 ?_; conv => whnf) | (refine br_f g5 ?_; conv => whnf) | (refine br_t g6 ?_; conv => whnf) | (refine br_f g6 ?_; conv => whnf) | (refine br_t g7 ?_; conv => whnf) | (refine br_f g7 ?_; conv => whnf) | (refine br_t g8 ?_; conv => whnf) | (refine br_f g8 ?_; conv => whnf))
                apply br <;> intro g8 <;> conv => whnf
                · repeat (first | (intro _; conv => whnf) | (refine br_t rfl ?_; conv => whnf) | (refine br_f rfl ?_; conv => whnf) | (refine IdxN.lit rfl rfl ?_; conv => whnf) | (refine br_t g2 ?_; conv => whnf) | (refine br_f g2 ?_; conv => whnf) | (refine br_t g3 ?_; conv => whnf) | (refine br_f g3 ?_; conv => whnf) | (refine br_t g4 ?_; conv => whnf) | (refine br_f g4 ?_; conv => whnf) | (refine br_t g5 ?_; conv => whnf) | (refine br_f g5 ?_; conv => whnf) | (refine br_t g6 ?_; conv => whnf) | (refine br_f g6 ?_; conv => whnf) | (refine br_t g7 ?_; conv => whnf) | (refine br_f g7 ?_; conv => whnf) | (refine br_t g8 ?_; conv => whnf) | (refine br_f g8 ?_; conv => whnf))
                  refine IdxN.of (by show 0 ≤ (atA xt xn ((itemsOf (tU p2)).take 3)).1; omega) (by show (atA xt xn ((itemsOf (tU p2)).take 3)).1 < ((3 : Nat) : Int); omega) ?_
                  conv => whnf
                  repeat (first | (intro _; conv => whnf) | (refine br_t rfl ?_; conv => whnf) | (refine br_f rfl ?_; conv => whnf) | (refine IdxN.lit rfl rfl ?_; conv => whnf) | (refine br_t g2 ?_; conv => whnf) | (refine br_f g2 ?_; conv => whnf) | (refine br_t g3 ?_; conv => whnf) | (refine br_f g3 ?_; conv => whnf) | (refine br_t g4 ?_; conv => whnf) | (refine br_f g4 ?_; conv => whnf) | (refine br_t g5 ?_; conv => whnf) | (refine br_f g5 ?_; conv => whnf) | (refine br_t g6 ?_; conv => whnf) | (refine br_f g6 ?_; conv => whnf) | (refine br_t g7 ?_; conv => whnf) | (refine br_f g7 ?_; conv => whnf) | (refine br_t g8 ?_; conv => whnf) | (refine br_f g8 ?_; conv => whnf))
                  refine LoadN.of (hone.mono (by repeat (first | exact View.le_refl _ | assumption | exact View.addU_le _ _ _ | refine View.le_trans ?_ (by assumption) | refine View.le_trans ?_ (View.addU_le _ _ _)))) 0 (by show u5 + ((atA xt xn ((itemsOf (tU p2)).take 3)).1).toNat * 1 = u5 + kk + 0; rw [hkk]; omega) rfl ?_
                  conv => whnf
                  repeat (first | (intro _; conv => whnf) | (refine br_t rfl ?_; conv => whnf) | (refine br_f rfl ?_; conv => whnf) | (refine IdxN.lit rfl rfl ?_; conv => whnf) | (refine br_t g2 ?_; conv => whnf) | (refine br_f g2 ?_; conv => whnf) | (refine br_t g3 ?_; conv => whnf) | (refine br_f g3 ?_; conv => whnf) | (refine br_t g4 ?_; conv => whnf) | (refine br_f g4 ?_; conv => whnf) | (refine br_t g5 ?_; conv => whnf) | (refine br_f g5 ?_; conv => whnf) | (refine br_t g6 ?_; conv => whnf) | (refine br_f g6 ?_; conv => whnf) | (refine br_t g7 ?_; conv => whnf) | (refine br_f g7 ?_; conv => whnf) | (refine br_t g8 ?_; conv => whnf) | (refine br_f g8 ?_; conv => whnf))
                  apply br <;> intro g9 <;> conv => whnf
                  · repeat (first | (intro _; conv => whnf) | (refine br_t rfl ?_; conv => whnf) | (refine br_f rfl ?_; conv => whnf) | (refine IdxN.lit rfl rfl ?_; conv => whnf) | (refine br_t g2 ?_; conv => whnf) | (refine br_f g2 ?_; conv => whnf) | (refine br_t g3 ?_; conv => whnf) | (refine br_f g3 ?_; conv => whnf) | (refine br_t g4 ?_; conv => whnf) | (refine br_f g4 ?_; conv => whnf) | (refine br_t g5 ?_; conv => whnf) | (refine br_f g5 ?_; conv => whnf) | (refine br_t g6 ?_; conv => whnf) | (refine br_f g6 ?_; conv => whnf) | (refine br_t g7 ?_; conv => whnf) | (refine br_f g7 ?_; conv => whnf) | (refine br_t g8 ?_; conv => whnf) | (refine br_f g8 ?_; conv => whnf))
                    exact ret_pure ⟨_, rfl⟩
                  · repeat (first | (intro _; conv => whnf) | (refine br_t rfl ?_; conv => whnf) | (refine br_f rfl ?_; conv => whnf) | (refine IdxN.lit rfl rfl ?_; conv => whnf) | (refine br_t g2 ?_; conv => whnf) | (refine br_f g2 ?_; conv => whnf) | (refine br_t g3 ?_; conv => whnf) | (refine br_f g3 ?_; conv => whnf) | (refine br_t g4 ?_; conv => whnf) | (refine br_f g4 ?_; conv => whnf) | (refine br_t g5 ?_; conv => whnf) | (refine br_f g5 ?_; conv => whnf) | (refine br_t g6 ?_; conv => whnf) | (refine br_f g6 ?_; conv => whnf) | (refine br_t g7 ?_; conv => whnf) | (refine br_f g7 ?_; conv => whnf) | (refine br_t g8 ?_; conv => whnf) | (refine br_f g8 ?_; conv => whnf))
                    have hwi := wrap_nat (i := i) (by omega)
                    refine ⟨j - 1, (i + 1, na, (IntKind.i64.wrap (np + 1))), by omega, ?_, ?_, View.le_trans hV (by repeat (first | exact View.le_refl _ | assumption | exact View.addU_le _ _ _ | refine View.le_trans ?_ (by assumption) | refine View.le_trans ?_ (View.addU_le _ _ _))), hat'.mono (by repeat (first | exact View.le_refl _ | assumption | exact View.addU_le _ _ _ | refine View.le_trans ?_ (by assumption) | refine View.le_trans ?_ (View.addU_le _ _ _))), hi1, by show _ - (i + 1) = _; omega⟩
                    · repeat' (first | exact sees_nil | refine sees_cons rfl rfl rfl ?_ | refine sees_cons rfl rfl (by rw [← hwi]; rfl) ?_)
                    · repeat' (first | exact keeps_nil | refine keeps_cons rfl ?_ | refine keeps_free ?_)
                · repeat (first | (intro _; conv => whnf) | (refine br_t rfl ?_; conv => whnf) | (refine br_f rfl ?_; conv => whnf) | (refine IdxN.lit rfl rfl ?_; conv => whnf) | (refine br_t g2 ?_; conv => whnf) | (refine br_f g2 ?_; conv => whnf) | (refine br_t g3 ?_; conv => whnf) | (refine br_f g3 ?_; conv => whnf) | (refine br_t g4 ?_; conv => whnf) | (refine br_f g4 ?_; conv => whnf) | (refine br_t g5 ?_; conv => whnf) | (refine br_f g5 ?_; conv => whnf) | (refine br_t g6 ?_; conv => whnf) | (refine br_f g6 ?_; conv => whnf) | (refine br_t g7 ?_; conv => whnf) | (refine br_f g7 ?_; conv => whnf) | (refine br_t g8 ?_; conv => whnf) | (refine br_f g8 ?_; conv => whnf))
                  have hwi := wrap_nat (i := i) (by omega)
                  refine ⟨j - 1, (i + 1, na, (IntKind.i64.wrap (np + 1))), by omega, ?_, ?_, View.le_trans hV (by repeat (first | exact View.le_refl _ | assumption | exact View.addU_le _ _ _ | refine View.le_trans ?_ (by assumption) | refine View.le_trans ?_ (View.addU_le _ _ _))), hat'.mono (by repeat (first | exact View.le_refl _ | assumption | exact View.addU_le _ _ _ | refine View.le_trans ?_ (by assumption) | refine View.le_trans ?_ (View.addU_le _ _ _))), hi1, by show _ - (i + 1) = _; omega⟩
                  · repeat' (first | exact sees_nil | refine sees_cons rfl rfl rfl ?_ | refine sees_cons rfl rfl (by rw [← hwi]; rfl) ?_)
                  · repeat' (first | exact keeps_nil | refine keeps_cons rfl ?_ | refine keeps_free ?_)
            · repeat (first | (intro _; conv => whnf) | (refine br_t rfl ?_; conv => whnf) | (refine br_f rfl ?_; conv => whnf) | (refine IdxN.lit rfl rfl ?_; conv => whnf) | (refine br_t g2 ?_; conv => whnf) | (refine br_f g2 ?_; conv => whnf) | (refine br_t g3 ?_; conv => whnf) | (refine br_f g3 ?_; conv => whnf) | (refine br_t g4 ?_; conv => whnf) | (refine br_f g4 ?_; conv => whnf) | (refine br_t g5 ?_; conv => whnf) | (refine br_f g5 ?_; conv => whnf) | (refine br_t g6 ?_; conv => whnf) | (refine br_f g6 ?_; conv => whnf) | (refine br_t g7 ?_; conv => whnf) | (refine br_f g7 ?_; conv => whnf) | (refine br_t g8 ?_; conv => whnf) | (refine br_f g8 ?_; conv => whnf))
              refine CallN.pure (at_spec (itemsOf (tU p2)) 3 p5 ac o5 ⟨0, v0, xt, xn, none, 0, 0⟩ _ (hat'.hasI.mono (by repeat (first | exact View.le_refl _ | assumption | exact View.addU_le _ _ _ | refine View.le_trans ?_ (by assumption) | refine View.le_trans ?_ (View.addU_le _ _ _)))) (by show 3 ≤ 1000000; decide) (by decide)) fun v V7 _ hV7 hv => ?_
              subst hv
              conv => whnf
              apply br <;> intro g7 <;> conv => whnf
              · repeat (first | (intro _; conv => whnf) | (refine br_t rfl ?_; conv => whnf) | (refine br_f rfl ?_; conv => whnf) | (refine IdxN.lit rfl rfl ?_; conv => whnf) | (refine br_t g2 ?_; conv => whnf) | (refine br_f g2 ?_; conv => whnf) | (refine br_t g3 ?_; conv => whnf) | (refine br_f g3 ?_; conv => whnf) | (refine br_t g4 ?_; conv => whnf) | (refine br_f g4 ?_; conv => whnf) | (refine br_t g5 ?_; conv => whnf) | (refine br_f g5 ?_; conv => whnf) | (refine br_t g6 ?_; conv => whnf) | (refine br_f g6 ?_; conv => whnf) | (refine br_t g7 ?_; conv => whnf) | (refine br_f g7 ?_; conv => whnf) | (refine br_t g8 ?_; conv => whnf) | (refine br_f g8 ?_; conv => whnf))
                exact ret_pure ⟨_, rfl⟩
              · have g7' : (atA xt xn ((itemsOf (tU p2)).take 3)).2 = 0 := by simpa using g7
                obtain ⟨h0, h1⟩ := atA_range g7'
                obtain ⟨kk, hkk⟩ := Int.eq_ofNat_of_zero_le h0
                have h1 : (atA xt xn ((itemsOf (tU p2)).take 3)).1 < ((3 : Nat) : Int) := h1
                obtain ⟨kv, hkv⟩ : ∃ y, (kindsOf (tU p2))[kk]? = some y := ⟨_, List.getElem?_eq_getElem (by show kk < 3; omega)⟩
                have hone := has_one hat'.hasK (i := kk) (c := .int .i64 kv) (by rw [List.getElem?_map, hkv]; rfl)
                repeat (first | (intro _; conv => whnf) | (refine br_t rfl ?_; conv => whnf) | (refine br_f rfl ?_; conv => whnf) | (refine IdxN.lit rfl rfl ?_; conv => whnf) | (refine br_t g2 ?_; conv => whnf) | (refine br_f g2 ?_; conv => whnf) | (refine br_t g3 ?_; conv => whnf) | (refine br_f g3 ?_; conv => whnf) | (refine br_t g4 ?_; conv => whnf) | (refine br_f g4 ?_; conv => whnf) | (refine br_t g5 ?_; conv => whnf) | (refine br_f g5 ?_; conv => whnf) | (refine br_t g6 ?_; conv => whnf) | (refine br_f g6 ?_; conv => whnf) | (refine br_t g7 ?_; conv => whnf) | (refine br_f g7 ?_; conv => whnf) | (refine br_t g8 ?_; conv => whnf) | (refine br_f g8 ?_; conv => whnf))
                apply br <;> intro g8 <;> conv => whnf
                · repeat (first | (intro _; conv => whnf) | (refine br_t rfl ?_; conv => whnf) | (refine br_f rfl ?_; conv => whnf) | (refine IdxN.lit rfl rfl ?_; conv => whnf) | (refine br_t g2 ?_; conv => whnf) | (refine br_f g2 ?_; conv => whnf) | (refine br_t g3 ?_; conv => whnf) | (refine br_f g3 ?_; conv => whnf) | (refine br_t g4 ?_; conv => whnf) | (refine br_f g4 ?_; conv => whnf) | (refine br_t g5 ?_; conv => whnf) | (refine br_f g5 ?_; conv => whnf) | (refine br_t g6 ?_; conv => whnf) | (refine br_f g6 ?_; conv => whnf) | (refine br_t g7 ?_; conv => whnf) | (refine br_f g7 ?_; conv => whnf) | (refine br_t g8 ?_; conv => whnf) | (refine br_f g8 ?_; conv => whnf))
                  refine IdxN.of (by show 0 ≤ (atA xt xn ((itemsOf (tU p2)).take 3)).1; omega) (by show (atA xt xn ((itemsOf (tU p2)).take 3)).1 < ((3 : Nat) : Int); omega) ?_
                  conv => whnf
                  repeat (first | (intro _; conv => whnf) | (refine br_t rfl ?_; conv => whnf) | (refine br_f rfl ?_; conv => whnf) | (refine IdxN.lit rfl rfl ?_; conv => whnf) | (refine br_t g2 ?_; conv => whnf) | (refine br_f g2 ?_; conv => whnf) | (refine br_t g3 ?_; conv => whnf) | (refine br_f g3 ?_; conv => whnf) | (refine br_t g4 ?_; conv => whnf) | (refine br_f g4 ?_; conv => whnf) | (refine br_t g5 ?_; conv => whnf) | (refine br_f g5 ?_; conv => whnf) | (refine br_t g6 ?_; conv => whnf) | (refine br_f g6 ?_; conv => whnf) | (refine br_t g7 ?_; conv => whnf) | (refine br_f g7 ?_; conv => whnf) | (refine br_t g8 ?_; conv => whnf) | (refine br_f g8 ?_; conv => whnf))
                  refine LoadN.of (hone.mono (by repeat (first | exact View.le_refl _ | assumption | exact View.addU_le _ _ _ | refine View.le_trans ?_ (by assumption) | refine View.le_trans ?_ (View.addU_le _ _ _)))) 0 (by show u5 + ((atA xt xn ((itemsOf (tU p2)).take 3)).1).toNat * 1 = u5 + kk + 0; rw [hkk]; omega) rfl ?_
                  conv => whnf
                  repeat (first | (intro _; conv => whnf) | (refine br_t rfl ?_; conv => whnf) | (refine br_f rfl ?_; conv => whnf) | (refine IdxN.lit rfl rfl ?_; conv => whnf) | (refine br_t g2 ?_; conv => whnf) | (refine br_f g2 ?_; conv => whnf) | (refine br_t g3 ?_; conv => whnf) | (refine br_f g3 ?_; conv => whnf) | (refine br_t g4 ?_; conv => whnf) | (refine br_f g4 ?_; conv => whnf) | (refine br_t g5 ?_; conv => whnf) | (refine br_f g5 ?_; conv => whnf) | (refine br_t g6 ?_; conv => whnf) | (refine br_f g6 ?_; conv => whnf) | (refine br_t g7 ?_; conv => whnf) | (refine br_f g7 ?_; conv => whnf) | (refine br_t g8 ?_; conv => whnf) | (refine br_f g8 ?_; conv => whnf))
                  apply br <;> intro g9 <;> conv => whnf
                  · repeat (first | (intro _; conv => whnf) | (refine br_t rfl ?_; conv => whnf) | (refine br_f rfl ?_; conv => whnf) | (refine IdxN.lit rfl rfl ?_; conv => whnf) | (refine br_t g2 ?_; conv => whnf) | (refine br_f g2 ?_; conv => whnf) | (refine br_t g3 ?_; conv => whnf) | (refine br_f g3 ?_; conv => whnf) | (refine br_t g4 ?_; conv => whnf) | (refine br_f g4 ?_; conv => whnf) | (refine br_t g5 ?_; conv => whnf) | (refine br_f g5 ?_; conv => whnf) | (refine br_t g6 ?_; conv => whnf) | (refine br_f g6 ?_; conv => whnf) | (refine br_t g7 ?_; conv => whnf) | (refine br_f g7 ?_; conv => whnf) | (refine br_t g8 ?_; conv => whnf) | (refine br_f g8 ?_; conv => whnf))
                    exact ret_pure ⟨_, rfl⟩
                  · repeat (first | (intro _; conv => whnf) | (refine br_t rfl ?_; conv => whnf) | (refine br_f rfl ?_; conv => whnf) | (refine IdxN.lit rfl rfl ?_; conv => whnf) | (refine br_t g2 ?_; conv => whnf) | (refine br_f g2 ?_; conv => whnf) | (refine br_t g3 ?_; conv => whnf) | (refine br_f g3 ?_; conv => whnf) | (refine br_t g4 ?_; conv => whnf) | (refine br_f g4 ?_; conv => whnf) | (refine br_t g5 ?_; conv => whnf) | (refine br_f g5 ?_; conv => whnf) | (refine br_t g6 ?_; conv => whnf) | (refine br_f g6 ?_; conv => whnf) | (refine br_t g7 ?_; conv => whnf) | (refine br_f g7 ?_; conv => whnf) | (refine br_t g8 ?_; conv => whnf) | (refine br_f g8 ?_; conv => whnf))
                    have hwi := wrap_nat (i := i) (by omega)
                    refine ⟨j - 1, (i + 1, (IntKind.i64.wrap (na + 1)), np), by omega, ?_, ?_, View.le_trans hV (by repeat (first | exact View.le_refl _ | assumption | exact View.addU_le _ _ _ | refine View.le_trans ?_ (by assumption) | refine View.le_trans ?_ (View.addU_le _ _ _))), hat'.mono (by repeat (first | exact View.le_refl _ | assumption | exact View.addU_le _ _ _ | refine View.le_trans ?_ (by assumption) | refine View.le_trans ?_ (View.addU_le _ _ _))), hi1, by show _ - (i + 1) = _; omega⟩
                    · repeat' (first | exact sees_nil | refine sees_cons rfl rfl rfl ?_ | refine sees_cons rfl rfl (by rw [← hwi]; rfl) ?_)
                    · repeat' (first | exact keeps_nil | refine keeps_cons rfl ?_ | refine keeps_free ?_)
                · repeat (first | (intro _; conv => whnf) | (refine br_t rfl ?_; conv => whnf) | (refine br_f rfl ?_; conv => whnf) | (refine IdxN.lit rfl rfl ?_; conv => whnf) | (refine br_t g2 ?_; conv => whnf) | (refine br_f g2 ?_; conv => whnf) | (refine br_t g3 ?_; conv => whnf) | (refine br_f g3 ?_; conv => whnf) | (refine br_t g4 ?_; conv => whnf) | (refine br_f g4 ?_; conv => whnf) | (refine br_t g5 ?_; conv => whnf) | (refine br_f g5 ?_; conv => whnf) | (refine br_t g6 ?_; conv => whnf) | (refine br_f g6 ?_; conv => whnf) | (refine br_t g7 ?_; conv => whnf) | (refine br_f g7 ?_; conv => whnf) | (refine br_t g8 ?_; conv => whnf) | (refine br_f g8 ?_; conv => whnf))
                  have hwi := wrap_nat (i := i) (by omega)
                  refine ⟨j - 1, (i + 1, (IntKind.i64.wrap (na + 1)), np), by omega, ?_, ?_, View.le_trans hV (by repeat (first | exact View.le_refl _ | assumption | exact View.addU_le _ _ _ | refine View.le_trans ?_ (by assumption) | refine View.le_trans ?_ (View.addU_le _ _ _))), hat'.mono (by repeat (first | exact View.le_refl _ | assumption | exact View.addU_le _ _ _ | refine View.le_trans ?_ (by assumption) | refine View.le_trans ?_ (View.addU_le _ _ _))), hi1, by show _ - (i + 1) = _; omega⟩
                  · repeat' (first | exact sees_nil | refine sees_cons rfl rfl rfl ?_ | refine sees_cons rfl rfl (by rw [← hwi]; rfl) ?_)
                  · repeat' (first | exact keeps_nil | refine keeps_cons rfl ?_ | refine keeps_free ?_)
    · repeat (first | (intro _; conv => whnf) | (refine br_t rfl ?_; conv => whnf) | (refine br_f rfl ?_; conv => whnf) | (refine IdxN.lit rfl rfl ?_; conv => whnf) | (refine br_t g2 ?_; conv => whnf) | (refine br_f g2 ?_; conv => whnf) | (refine br_t g3 ?_; conv => whnf) | (refine br_f g3 ?_; conv => whnf) | (refine br_t g4 ?_; conv => whnf) | (refine br_f g4 ?_; conv => whnf) | (refine br_t g5 ?_; conv => whnf) | (refine br_f g5 ?_; conv => whnf) | (refine br_t g6 ?_; conv => whnf) | (refine br_f g6 ?_; conv => whnf) | (refine br_t g7 ?_; conv => whnf) | (refine br_f g7 ?_; conv => whnf) | (refine br_t g8 ?_; conv => whnf) | (refine br_f g8 ?_; conv => whnf))
      apply br <;> intro g2 <;> conv => whnf
      · repeat (first | (intro _; conv => whnf) | (refine br_t rfl ?_; conv => whnf) | (refine br_f rfl ?_; conv => whnf) | (refine IdxN.lit rfl rfl ?_; conv => whnf) | (refine br_t g2 ?_; conv => whnf) | (refine br_f g2 ?_; conv => whnf) | (refine br_t g3 ?_; conv => whnf) | (refine br_f g3 ?_; conv => whnf) | (refine br_t g4 ?_; conv => whnf) | (refine br_f g4 ?_; conv => whnf) | (refine br_t g5 ?_; conv => whnf) | (refine br_f g5 ?_; conv => whnf) | (refine br_t g6 ?_; conv => whnf) | (refine br_f g6 ?_; conv => whnf) | (refine br_t g7 ?_; conv => whnf) | (refine br_f g7 ?_; conv => whnf) | (refine br_t g8 ?_; conv => whnf) | (refine br_f g8 ?_; conv => whnf))
        apply br <;> intro g3 <;> conv => whnf
        · repeat (first | (intro _; conv => whnf) | (refine br_t rfl ?_; conv => whnf) | (refine br_f rfl ?_; conv => whnf) | (refine IdxN.lit rfl rfl ?_; conv => whnf) | (refine br_t g2 ?_; conv => whnf) | (refine br_f g2 ?_; conv => whnf) | (refine br_t g3 ?_; conv => whnf) | (refine br_f g3 ?_; conv => whnf) | (refine br_t g4 ?_; conv => whnf) | (refine br_f g4 ?_; conv => whnf) | (refine br_t g5 ?_; conv => whnf) | (refine br_f g5 ?_; conv => whnf) | (refine br_t g6 ?_; conv => whnf) | (refine br_f g6 ?_; conv => whnf) | (refine br_t g7 ?_; conv => whnf) | (refine br_f g7 ?_; conv => whnf) | (refine br_t g8 ?_; conv => whnf) | (refine br_f g8 ?_; conv => whnf))
          exact ret_pure ⟨_, rfl⟩
        · repeat (first | (intro _; conv => whnf) | (refine br_t rfl ?_; conv => whnf) | (refine br_f rfl ?_; conv => whnf) | (refine IdxN.lit rfl rfl ?_; conv => whnf) | (refine br_t g2 ?_; conv => whnf) | (refine br_f g2 ?_; conv => whnf) | (refine br_t g3 ?_; conv => whnf) | (refine br_f g3 ?_; conv => whnf) | (refine br_t g4 ?_; conv => whnf) | (refine br_f g4 ?_; conv => whnf) | (refine br_t g5 ?_; conv => whnf) | (refine br_f g5 ?_; conv => whnf) | (refine br_t g6 ?_; conv => whnf) | (refine br_f g6 ?_; conv => whnf) | (refine br_t g7 ?_; conv => whnf) | (refine br_f g7 ?_; conv => whnf) | (refine br_t g8 ?_; conv => whnf) | (refine br_f g8 ?_; conv => whnf))
          apply br <;> intro g4 <;> conv => whnf
          · repeat (first | (intro _; conv => whnf) | (refine br_t rfl ?_; conv => whnf) | (refine br_f rfl ?_; conv => whnf) | (refine IdxN.lit rfl rfl ?_; conv => whnf) | (refine br_t g2 ?_; conv => whnf) | (refine br_f g2 ?_; conv => whnf) | (refine br_t g3 ?_; conv => whnf) | (refine br_f g3 ?_; conv => whnf) | (refine br_t g4 ?_; conv => whnf) | (refine br_f g4 ?_; conv => whnf) | (refine br_t g5 ?_; conv => whnf) | (refine br_f g5 ?_; conv => whnf) | (refine br_t g6 ?_; conv => whnf) | (refine br_f g6 ?_; conv => whnf) | (refine br_t g7 ?_; conv => whnf) | (refine br_f g7 ?_; conv => whnf) | (refine br_t g8 ?_; conv => whnf) | (refine br_f g8 ?_; conv => whnf))
            exact ret_pure ⟨_, rfl⟩
          · repeat (first | (intro _; conv => whnf) | (refine br_t rfl ?_; conv => whnf) | (refine br_f rfl ?_; conv => whnf) | (refine IdxN.lit rfl rfl ?_; conv => whnf) | (refine br_t g2 ?_; conv => whnf) | (refine br_f g2 ?_; conv => whnf) | (refine br_t g3 ?_; conv => whnf) | (refine br_f g3 ?_; conv => whnf) | (refine br_t g4 ?_; conv => whnf) | (refine br_f g4 ?_; conv => whnf) | (refine br_t g5 ?_; conv => whnf) | (refine br_f g5 ?_; conv => whnf) | (refine br_t g6 ?_; conv => whnf) | (refine br_f g6 ?_; conv => whnf) | (refine br_t g7 ?_; conv => whnf) | (refine br_f g7 ?_; conv => whnf) | (refine br_t g8 ?_; conv => whnf) | (refine br_f g8 ?_; conv => whnf))
            refine CallN.pure (rwhere_spec (itemsOf (tU p2)) (kindsOf (tU p2)) p5 o5 ac q5 u5 cc 3 3 rfl rfl swh _ (hat'.mono (by repeat (first | exact View.le_refl _ | assumption | exact View.addU_le _ _ _ | refine View.le_trans ?_ (by assumption) | refine View.le_trans ?_ (View.addU_le _ _ _)))) (hwh.mono (by repeat (first | exact View.le_refl _ | assumption | exact View.addU_le _ _ _ | refine View.le_trans ?_ (by assumption) | refine View.le_trans ?_ (View.addU_le _ _ _))))) fun v V8 _ hV8 ⟨ew, hv⟩ => ?_
            subst hv
            conv => whnf
            apply br <;> intro g5 <;> conv => whnf
            · repeat (first | (intro _; conv => whnf) | (refine br_t rfl ?_; conv => whnf) | (refine br_f rfl ?_; conv => whnf) | (refine IdxN.lit rfl rfl ?_; conv => whnf) | (refine br_t g2 ?_; conv => whnf) | (refine br_f g2 ?_; conv => whnf) | (refine br_t g3 ?_; conv => whnf) | (refine br_f g3 ?_; conv => whnf) | (refine br_t g4 ?_; conv => whnf) | (refine br_f g4 ?_; conv => whnf) | (refine br_t g5 ?_; conv => whnf) | (refine br_f g5 ?_; conv => whnf) | (refine br_t g6 ?_; conv => whnf) | (refine br_f g6 ?_; conv => whnf) | (refine br_t g7 ?_; conv => whnf) | (refine br_f g7 ?_; conv => whnf) | (refine br_t g8 ?_; conv => whnf) | (refine br_f g8 ?_; conv => whnf))
              exact ret_pure ⟨_, rfl⟩
            · repeat (first | (intro _; conv => whnf) | (refine br_t rfl ?_; conv => whnf) | (refine br_f rfl ?_; conv => whnf) | (refine IdxN.lit rfl rfl ?_; conv => whnf) | (refine br_t g2 ?_; conv => whnf) | (refine br_f g2 ?_; conv => whnf) | (refine br_t g3 ?_; conv => whnf) | (refine br_f g3 ?_; conv => whnf) | (refine br_t g4 ?_; conv => whnf) | (refine br_f g4 ?_; conv => whnf) | (refine br_t g5 ?_; conv => whnf) | (refine br_f g5 ?_; conv => whnf) | (refine br_t g6 ?_; conv => whnf) | (refine br_f g6 ?_; conv => whnf) | (refine br_t g7 ?_; conv => whnf) | (refine br_f g7 ?_; conv => whnf) | (refine br_t g8 ?_; conv => whnf) | (refine br_f g8 ?_; conv => whnf))
              apply br <;> intro g6 <;> conv => whnf
              · repeat (first | (intro _; conv => whnf) | (refine br_t rfl ?_; conv => whnf) | (refine br_f rfl ?_; conv => whnf) | (refine IdxN.lit rfl rfl ?_; conv => whnf) | (refine br_t g2 ?_; conv => whnf) | (refine br_f g2 ?_; conv => whnf) | (refine br_t g3 ?_; conv => whnf) | (refine br_f g3 ?_; conv => whnf) | (refine br_t g4 ?_; conv => whnf) | (refine br_f g4 ?_; conv => whnf) | (refine br_t g5 ?_; conv => whnf) | (refine br_f g5 ?_; conv => whnf) | (refine br_t g6 ?_; conv => whnf) | (refine br_f g6 ?_; conv => whnf) | (refine br_t g7 ?_; conv => whnf) | (refine br_f g7 ?_; conv => whnf) | (refine br_t g8 ?_; conv => whnf) | (refine br_f g8 ?_; conv => whnf))
                exact ret_pure ⟨_, rfl⟩
              · rcases hor with hor | ⟨go1, gtb, gnm, hor, hgo⟩
                · have hor : sord = (none, 0, 0) := hor
                  rw [hor] at g6
                  exact absurd g6 (by decide)
                · have hor : sord = (some ⟨go1, 0, none⟩, 1, 1) := hor
                  subst hor
                  repeat (first | (intro _; conv => whnf) | (refine br_t rfl ?_; conv => whnf) | (refine br_f rfl ?_; conv => whnf) | (refine IdxN.lit rfl rfl ?_; conv => whnf) | (refine br_t g2 ?_; conv => whnf) | (refine br_f g2 ?_; conv => whnf) | (refine br_t g3 ?_; conv => whnf) | (refine br_f g3 ?_; conv => whnf) | (refine br_t g4 ?_; conv => whnf) | (refine br_f g4 ?_; conv => whnf) | (refine br_t g5 ?_; conv => whnf) | (refine br_f g5 ?_; conv => whnf) | (refine br_t g6 ?_; conv => whnf) | (refine br_f g6 ?_; conv => whnf) | (refine br_t g7 ?_; conv => whnf) | (refine br_f g7 ?_; conv => whnf) | (refine br_t g8 ?_; conv => whnf) | (refine br_f g8 ?_; conv => whnf))
                  refine LoadN.of (hgo.mono (by repeat (first | exact View.le_refl _ | assumption | exact View.addU_le _ _ _ | refine View.le_trans ?_ (by assumption) | refine View.le_trans ?_ (View.addU_le _ _ _)))) 0 rfl rfl ?_
                  conv => whnf
                  repeat (first | (intro _; conv => whnf) | (refine br_t rfl ?_; conv => whnf) | (refine br_f rfl ?_; conv => whnf) | (refine IdxN.lit rfl rfl ?_; conv => whnf) | (refine br_t g2 ?_; conv => whnf) | (refine br_f g2 ?_; conv => whnf) | (refine br_t g3 ?_; conv => whnf) | (refine br_f g3 ?_; conv => whnf) | (refine br_t g4 ?_; conv => whnf) | (refine br_f g4 ?_; conv => whnf) | (refine br_t g5 ?_; conv => whnf) | (refine br_f g5 ?_; conv => whnf) | (refine br_t g6 ?_; conv => whnf) | (refine br_f g6 ?_; conv => whnf) | (refine br_t g7 ?_; conv => whnf) | (refine br_f g7 ?_; conv => whnf) | (refine br_t g8 ?_; conv => whnf) | (refine br_f g8 ?_; conv => whnf))
                  refine CallN.pure (at_spec (itemsOf (tU p2)) 3 p5 ac o5 (colN gtb gnm) _ (hat'.hasI.mono (by repeat (first | exact View.le_refl _ | assumption | exact View.addU_le _ _ _ | refine View.le_trans ?_ (by assumption) | refine View.le_trans ?_ (View.addU_le _ _ _)))) (by show 3 ≤ 1000000; decide) (by decide)) fun v V9 _ hV9 hv => ?_
                  subst hv
                  conv => whnf
                  repeat (first | (intro _; conv => whnf) | (refine br_t rfl ?_; conv => whnf) | (refine br_f rfl ?_; conv => whnf) | (refine IdxN.lit rfl rfl ?_; conv => whnf) | (refine br_t g2 ?_; conv => whnf) | (refine br_f g2 ?_; conv => whnf) | (refine br_t g3 ?_; conv => whnf) | (refine br_f g3 ?_; conv => whnf) | (refine br_t g4 ?_; conv => whnf) | (refine br_f g4 ?_; conv => whnf) | (refine br_t g5 ?_; conv => whnf) | (refine br_f g5 ?_; conv => whnf) | (refine br_t g6 ?_; conv => whnf) | (refine br_f g6 ?_; conv => whnf) | (refine br_t g7 ?_; conv => whnf) | (refine br_f g7 ?_; conv => whnf) | (refine br_t g8 ?_; conv => whnf) | (refine br_f g8 ?_; conv => whnf))
                  exact ret_pure ⟨_, rfl⟩
      · repeat (first | (intro _; conv => whnf) | (refine br_t rfl ?_; conv => whnf) | (refine br_f rfl ?_; conv => whnf) | (refine IdxN.lit rfl rfl ?_; conv => whnf) | (refine br_t g2 ?_; conv => whnf) | (refine br_f g2 ?_; conv => whnf) | (refine br_t g3 ?_; conv => whnf) | (refine br_f g3 ?_; conv => whnf) | (refine br_t g4 ?_; conv => whnf) | (refine br_f g4 ?_; conv => whnf) | (refine br_t g5 ?_; conv => whnf) | (refine br_f g5 ?_; conv => whnf) | (refine br_t g6 ?_; conv => whnf) | (refine br_f g6 ?_; conv => whnf) | (refine br_t g7 ?_; conv => whnf) | (refine br_f g7 ?_; conv => whnf) | (refine br_t g8 ?_; conv => whnf) | (refine br_f g8 ?_; conv => whnf))
        refine CallN.pure (rwhere_spec (itemsOf (tU p2)) (kindsOf (tU p2)) p5 o5 ac q5 u5 cc 3 3 rfl rfl swh _ (hat'.mono (by repeat (first | exact View.le_refl _ | assumption | exact View.addU_le _ _ _ | refine View.le_trans ?_ (by assumption) | refine View.le_trans ?_ (View.addU_le _ _ _)))) (hwh.mono (by repeat (first | exact View.le_refl _ | assumption | exact View.addU_le _ _ _ | refine View.le_trans ?_ (by assumption) | refine View.le_trans ?_ (View.addU_le _ _ _))))) fun v V8 _ hV8 ⟨ew, hv⟩ => ?_
        subst hv
        conv => whnf
        apply br <;> intro g5 <;> conv => whnf
        · repeat (first | (intro _; conv => whnf) | (refine br_t rfl ?_; conv => whnf) | (refine br_f rfl ?_; conv => whnf) | (refine IdxN.lit rfl rfl ?_; conv => whnf) | (refine br_t g2 ?_; conv => whnf) | (refine br_f g2 ?_; conv => whnf) | (refine br_t g3 ?_; conv => whnf) | (refine br_f g3 ?_; conv => whnf) | (refine br_t g4 ?_; conv => whnf) | (refine br_f g4 ?_; conv => whnf) | (refine br_t g5 ?_; conv => whnf) | (refine br_f g5 ?_; conv => whnf) | (refine br_t g6 ?_; conv => whnf) | (refine br_f g6 ?_; conv => whnf) | (refine br_t g7 ?_; conv => whnf) | (refine br_f g7 ?_; conv => whnf) | (refine br_t g8 ?_; conv => whnf) | (refine br_f g8 ?_; conv => whnf))
          exact ret_pure ⟨_, rfl⟩
        · repeat (first | (intro _; conv => whnf) | (refine br_t rfl ?_; conv => whnf) | (refine br_f rfl ?_; conv => whnf) | (refine IdxN.lit rfl rfl ?_; conv => whnf) | (refine br_t g2 ?_; conv => whnf) | (refine br_f g2 ?_; conv => whnf) | (refine br_t g3 ?_; conv => whnf) | (refine br_f g3 ?_; conv => whnf) | (refine br_t g4 ?_; conv => whnf) | (refine br_f g4 ?_; conv => whnf) | (refine br_t g5 ?_; conv => whnf) | (refine br_f g5 ?_; conv => whnf) | (refine br_t g6 ?_; conv => whnf) | (refine br_f g6 ?_; conv => whnf) | (refine br_t g7 ?_; conv => whnf) | (refine br_f g7 ?_; conv => whnf) | (refine br_t g8 ?_; conv => whnf) | (refine br_f g8 ?_; conv => whnf))
          apply br <;> intro g6 <;> conv => whnf
          · repeat (first | (intro _; conv => whnf) | (refine br_t rfl ?_; conv => whnf) | (refine br_f rfl ?_; conv => whnf) | (refine IdxN.lit rfl rfl ?_; conv => whnf) | (refine br_t g2 ?_; conv => whnf) | (refine br_f g2 ?_; conv => whnf) | (refine br_t g3 ?_; conv => whnf) | (refine br_f g3 ?_; conv => whnf) | (refine br_t g4 ?_; conv => whnf) | (refine br_f g4 ?_; conv => whnf) | (refine br_t g5 ?_; conv => whnf) | (refine br_f g5 ?_; conv => whnf) | (refine br_t g6 ?_; conv => whnf) | (refine br_f g6 ?_; conv => whnf) | (refine br_t g7 ?_; conv => whnf) | (refine br_f g7 ?_; conv => whnf) | (refine br_t g8 ?_; conv => whnf) | (refine br_f g8 ?_; conv => whnf))
            exact ret_pure ⟨_, rfl⟩
          · rcases hor with hor | ⟨go1, gtb, gnm, hor, hgo⟩
            · have hor : sord = (none, 0, 0) := hor
              rw [hor] at g6
              exact absurd g6 (by decide)
            · have hor : sord = (some ⟨go1, 0, none⟩, 1, 1) := hor
              subst hor
              repeat (first | (intro _; conv => whnf) | (refine br_t rfl ?_; conv => whnf) | (refine br_f rfl ?_; conv => whnf) | (refine IdxN.lit rfl rfl ?_; conv => whnf) | (refine br_t g2 ?_; conv => whnf) | (refine br_f g2 ?_; conv => whnf) | (refine br_t g3 ?_; conv => whnf) | (refine br_f g3 ?_; conv => whnf) | (refine br_t g4 ?_; conv => whnf) | (refine br_f g4 ?_; conv => whnf) | (refine br_t g5 ?_; conv => whnf) | (refine br_f g5 ?_; conv => whnf) | (refine br_t g6 ?_; conv => whnf) | (refine br_f g6 ?_; conv => whnf) | (refine br_t g7 ?_; conv => whnf) | (refine br_f g7 ?_; conv => whnf) | (refine br_t g8 ?_; conv => whnf) | (refine br_f g8 ?_; conv => whnf))
              refine LoadN.of (hgo.mono (by repeat (first | exact View.le_refl _ | assumption | exact View.addU_le _ _ _ | refine View.le_trans ?_ (by assumption) | refine View.le_trans ?_ (View.addU_le _ _ _)))) 0 rfl rfl ?_
              conv => whnf
              repeat (first | (intro _; conv => whnf) | (refine br_t rfl ?_; conv => whnf) | (refine br_f rfl ?_; conv => whnf) | (refine IdxN.lit rfl rfl ?_; conv => whnf) | (refine br_t g2 ?_; conv => whnf) | (refine br_f g2 ?_; conv => whnf) | (refine br_t g3 ?_; conv => whnf) | (refine br_f g3 ?_; conv => whnf) | (refine br_t g4 ?_; conv => whnf) | (refine br_f g4 ?_; conv => whnf) | (refine br_t g5 ?_; conv => whnf) | (refine br_f g5 ?_; conv => whnf) | (refine br_t g6 ?_; conv => whnf) | (refine br_f g6 ?_; conv => whnf) | (refine br_t g7 ?_; conv => whnf) | (refine br_f g7 ?_; conv => whnf) | (refine br_t g8 ?_; conv => whnf) | (refine br_f g8 ?_; conv => whnf))
              refine CallN.pure (at_spec (itemsOf (tU p2)) 3 p5 ac o5 (colN gtb gnm) _ (hat'.hasI.mono (by repeat (first | exact View.le_refl _ | assumption | exact View.addU_le _ _ _ | refine View.le_trans ?_ (by assumption) | refine View.le_trans ?_ (View.addU_le _ _ _)))) (by show 3 ≤ 1000000; decide) (by decide)) fun v V9 _ hV9 hv => ?_
              subst hv
              conv => whnf
              repeat (first | (intro _; conv => whnf) | (refine br_t rfl ?_; conv => whnf) | (refine br_f rfl ?_; conv => whnf) | (refine IdxN.lit rfl rfl ?_; conv => whnf) | (refine br_t g2 ?_; conv => whnf) | (refine br_f g2 ?_; conv => whnf) | (refine br_t g3 ?_; conv => whnf) | (refine br_f g3 ?_; conv => whnf) | (refine br_t g4 ?_; conv => whnf) | (refine br_f g4 ?_; conv => whnf) | (refine br_t g5 ?_; conv => whnf) | (refine br_f g5 ?_; conv => whnf) | (refine br_t g6 ?_; conv => whnf) | (refine br_f g6 ?_; conv => whnf) | (refine br_t g7 ?_; conv => whnf) | (refine br_f g7 ?_; conv => whnf) | (refine br_t g8 ?_; conv => whnf) | (refine br_f g8 ?_; conv => whnf))
              exact ret_pure ⟨_, rfl⟩
  · have hj : sjoin = (tT p q).nm := hj
    subst hj
    subst h2
    refine br_t (by simp [txt, ByteArray.toList_eq, tT, tU]) ?_
    conv => whnf
    repeat' first
      | (refine br_t rfl ?_; conv => whnf)
      | (refine br_f rfl ?_; conv => whnf)
      | (refine IdxN.lit rfl rfl ?_; conv => whnf)
      | (intro _; conv => whnf)
    refine CallN.pure (tableT_spec r p q p2 _ (hr.mono (by repeat (first | exact View.le_refl _ | assumption | exact View.addU_le _ _ _ | refine View.le_trans ?_ (by assumption) | refine View.le_trans ?_ (View.addU_le _ _ _))))) fun v V1 _ hV1 hv => ?_
    subst hv
    conv => whnf
    repeat' first
      | (refine br_t rfl ?_; conv => whnf)
      | (refine br_f rfl ?_; conv => whnf)
      | (refine IdxN.lit rfl rfl ?_; conv => whnf)
      | (intro _; conv => whnf)
    refine br_f (by simp [txt, ByteArray.toList_eq, tT, tU]) ?_
    conv => whnf
    refine CallN.news (colsR_spec (tT p q) _ (ho.mono (by repeat (first | exact View.le_refl _ | assumption | exact View.addU_le _ _ _ | refine View.le_trans ?_ (by assumption) | refine View.le_trans ?_ (View.addU_le _ _ _))))) fun v V2 bs hV2 ⟨a2, ac2, c2, cc2, hv, hA2, hC2, hb⟩ => ⟨[(302, .row (.slice a2 3 ac2) 61 3 3), (303, .row (.slice c2 3 cc2) 3 1 3)], by rw [hb]; rfl, by simp, fun x hx => by (simp only [List.mem_cons, List.not_mem_nil, or_false] at hx; rcases hx with rfl | rfl <;> rfl), ?_⟩
    subst hv
    conv => whnf
    repeat' first
      | (refine br_t rfl ?_; conv => whnf)
      | (refine br_f rfl ?_; conv => whnf)
      | (refine IdxN.lit rfl rfl ?_; conv => whnf)
      | (intro _; conv => whnf)
    refine ⟨⟨300, _, rfl, ?_⟩⟩
    refine AppN.to 6 rfl ((itemsOf (tU p2)).flatMap icells) ((itemsOf (tT p q)).flatMap icells) (hA.mono (by repeat (first | exact View.le_refl _ | assumption | exact View.addU_le _ _ _ | refine View.le_trans ?_ (by assumption) | refine View.le_trans ?_ (View.addU_le _ _ _)))) rfl (hA2.mono (by repeat (first | exact View.le_refl _ | assumption | exact View.addU_le _ _ _ | refine View.le_trans ?_ (by assumption) | refine View.le_trans ?_ (View.addU_le _ _ _)))) rfl (allOne_items _) (by decide) (by decide) fun a3 ac3 V3 hV3 hA3 => ?_
    conv => whnf
    refine ⟨⟨301, _, rfl, ?_⟩⟩
    refine AppN.to 6 rfl ((kindsOf (tU p2)).map (.int .i64 ·)) ((kindsOf (tT p q)).map (.int .i64 ·)) (hC.mono (by repeat (first | exact View.le_refl _ | assumption | exact View.addU_le _ _ _ | refine View.le_trans ?_ (by assumption) | refine View.le_trans ?_ (View.addU_le _ _ _)))) rfl (hC2.mono (by repeat (first | exact View.le_refl _ | assumption | exact View.addU_le _ _ _ | refine View.le_trans ?_ (by assumption) | refine View.le_trans ?_ (View.addU_le _ _ _)))) rfl (allOne_ints _) (by decide) (by decide) fun c3 cc3 V4 hV4 hC3 => ?_
    conv => whnf
    obtain ⟨p5, o5, hb5, hh5⟩ := cells_some hA3 (by intro h; cases h)
    obtain ⟨q5, u5, hd5, hj5⟩ := cells_some hC3 (by intro h; cases h)
    subst hb5; subst hd5
    have hat : ColsAt V4 (itemsOf (tU p2) ++ itemsOf (tT p q)) (kindsOf (tU p2) ++ kindsOf (tT p q)) p5 o5 q5 u5 := ⟨by rw [List.flatMap_append]; exact hh5.mono (by repeat (first | exact View.le_refl _ | assumption | exact View.addU_le _ _ _ | refine View.le_trans ?_ (by assumption) | refine View.le_trans ?_ (View.addU_le _ _ _))), by rw [List.map_append]; exact hj5, rfl, by show 6 ≤ 20; decide⟩
    obtain ⟨g, kd, x1, x2, tb1, tb2, hon1, hon2, _⟩ := hon
    have hon1 : son = (some ⟨g, 0, none⟩, 2, 2) := hon1
    subst hon1
    repeat' first
      | (refine br_t rfl ?_; conv => whnf)
      | (refine br_f rfl ?_; conv => whnf)
      | (refine IdxN.lit rfl rfl ?_; conv => whnf)
      | (intro _; conv => whnf)
    refine unrollz 3 ?_
    conv => whnf
    repeat' first
      | (refine br_t rfl ?_; conv => whnf)
      | (refine br_f rfl ?_; conv => whnf)
      | (refine IdxN.lit rfl rfl ?_; conv => whnf)
      | (intro _; conv => whnf)
    refine LoadN.of (hon2.mono (by repeat (first | exact View.le_refl _ | assumption | exact View.addU_le _ _ _ | refine View.le_trans ?_ (by assumption) | refine View.le_trans ?_ (View.addU_le _ _ _)))) 0 rfl rfl ?_
    conv => whnf
    repeat' first
      | (refine br_t rfl ?_; conv => whnf)
      | (refine br_f rfl ?_; conv => whnf)
      | (refine IdxN.lit rfl rfl ?_; conv => whnf)
      | (intro _; conv => whnf)
    refine CallN.pure (kind_spec (itemsOf (tU p2) ++ itemsOf (tT p q)) (kindsOf (tU p2) ++ kindsOf (tT p q)) p5 o5 ac3 q5 u5 cc3 6 6 rfl rfl (.col tb1 x1.nm) (colN tb1 x1.nm) _ (hat.mono (by repeat (first | exact View.le_refl _ | assumption | exact View.addU_le _ _ _ | refine View.le_trans ?_ (by assumption) | refine View.le_trans ?_ (View.addU_le _ _ _)))) (repCol tb1 x1.nm)) fun v V5 _ hV5 ⟨k1, e1, hv⟩ => ?_
    subst hv
    conv => whnf
    apply br <;> intro g1 <;> conv => whnf
    · repeat' first
        | (refine br_t rfl ?_; conv => whnf)
        | (refine br_f rfl ?_; conv => whnf)
        | (refine IdxN.lit rfl rfl ?_; conv => whnf)
        | (intro _; conv => whnf)
      exact ret_pure ⟨_, rfl⟩
    repeat' first
      | (refine br_t rfl ?_; conv => whnf)
      | (refine br_f rfl ?_; conv => whnf)
      | (refine IdxN.lit rfl rfl ?_; conv => whnf)
      | (intro _; conv => whnf)
    rename_i lb Vl hVl lk
    refine AppN.to 1 rfl [] [.int .i64 k1] rfl rfl lk rfl rfl (by decide) (by decide) fun base' cap' V6 hV6 hc6 => ?_
    conv => whnf
    repeat' first
      | (refine br_t rfl ?_; conv => whnf)
      | (refine br_f rfl ?_; conv => whnf)
      | (refine IdxN.lit rfl rfl ?_; conv => whnf)
      | (intro _; conv => whnf)
    refine LoadN.of (hon2.mono (by repeat (first | exact View.le_refl _ | assumption | exact View.addU_le _ _ _ | refine View.le_trans ?_ (by assumption) | refine View.le_trans ?_ (View.addU_le _ _ _)))) 7 rfl rfl ?_
    conv => whnf
    repeat' first
      | (refine br_t rfl ?_; conv => whnf)
      | (refine br_f rfl ?_; conv => whnf)
      | (refine IdxN.lit rfl rfl ?_; conv => whnf)
      | (intro _; conv => whnf)
    refine CallN.pure (kind_spec (itemsOf (tU p2) ++ itemsOf (tT p q)) (kindsOf (tU p2) ++ kindsOf (tT p q)) p5 o5 ac3 q5 u5 cc3 6 6 rfl rfl (.col tb2 x2.nm) (colN tb2 x2.nm) _ (hat.mono (by repeat (first | exact View.le_refl _ | assumption | exact View.addU_le _ _ _ | refine View.le_trans ?_ (by assumption) | refine View.le_trans ?_ (View.addU_le _ _ _)))) (repCol tb2 x2.nm)) fun v V7 _ hV7 ⟨k2, e2, hv⟩ => ?_
    subst hv
    conv => whnf
    apply br <;> intro g2 <;> conv => whnf
    · repeat' first
        | (refine br_t rfl ?_; conv => whnf)
        | (refine br_f rfl ?_; conv => whnf)
        | (refine IdxN.lit rfl rfl ?_; conv => whnf)
        | (intro _; conv => whnf)
      exact ret_pure ⟨_, rfl⟩
    repeat' first
      | (refine br_t rfl ?_; conv => whnf)
      | (refine br_f rfl ?_; conv => whnf)
      | (refine IdxN.lit rfl rfl ?_; conv => whnf)
      | (intro _; conv => whnf)
    rename_i lb2 Vl2 hVl2 lk2
    refine AppN.to 2 rfl [.int .i64 k1] [.int .i64 k2] (hc6.mono (by repeat (first | exact View.le_refl _ | assumption | exact View.addU_le _ _ _ | refine View.le_trans ?_ (by assumption) | refine View.le_trans ?_ (View.addU_le _ _ _)))) rfl lk2 rfl rfl (by decide) (by decide) fun base2 cap2 V9 hV9 hc9 => ?_
    conv => whnf
    obtain ⟨pl, ol, hbl, hll⟩ := cells_some hc9 (by intro h; cases h)
    subst hbl
    repeat' first
      | (refine br_t rfl ?_; conv => whnf)
      | (refine br_f rfl ?_; conv => whnf)
      | (refine IdxN.lit rfl rfl ?_; conv => whnf)
      | (intro _; conv => whnf)
    refine LoadN.of (hll.mono (by repeat (first | exact View.le_refl _ | assumption | exact View.addU_le _ _ _ | refine View.le_trans ?_ (by assumption) | refine View.le_trans ?_ (View.addU_le _ _ _)))) 0 rfl rfl ?_
    conv => whnf
    repeat' first
      | (refine br_t rfl ?_; conv => whnf)
      | (refine br_f rfl ?_; conv => whnf)
      | (refine IdxN.lit rfl rfl ?_; conv => whnf)
      | (intro _; conv => whnf)
    refine LoadN.of (hll.mono (by repeat (first | exact View.le_refl _ | assumption | exact View.addU_le _ _ _ | refine View.le_trans ?_ (by assumption) | refine View.le_trans ?_ (View.addU_le _ _ _)))) 1 rfl rfl ?_
    conv => whnf
    repeat' first
      | (refine br_t rfl ?_; conv => whnf)
      | (refine br_f rfl ?_; conv => whnf)
      | (refine IdxN.lit rfl rfl ?_; conv => whnf)
      | (intro _; conv => whnf)
    apply br <;> intro g3 <;> conv => whnf
    · repeat' first
        | (refine br_t rfl ?_; conv => whnf)
        | (refine br_f rfl ?_; conv => whnf)
        | (refine IdxN.lit rfl rfl ?_; conv => whnf)
        | (intro _; conv => whnf)
      exact ret_pure ⟨_, rfl⟩
    repeat' first
      | (refine br_t rfl ?_; conv => whnf)
      | (refine br_f rfl ?_; conv => whnf)
      | (refine IdxN.lit rfl rfl ?_; conv => whnf)
      | (intro _; conv => whnf)
    clear g1 g2 g3
    obtain ⟨l, hil, hl4, hic⟩ := hp.items
    have hil : il = l.length := hil
    subst hil
    have hic : V.cells (.slice ib l.length ic) (l.flatMap icells) := hic
    have hor := hp.order
    have hwh := hp.wh
    refine loopz (σ := Nat × Int × Int)
      (fun x => [(4, .own 4 0), (7, .v (.slice (some ⟨p5, o5, none⟩) 6 ac3)), (8, .v (.slice (some ⟨q5, u5, none⟩) 6 cc3)), (17, .v (.int .i64 x.2.1)), (18, .v (.int .i64 x.2.2)), (19, .v (.int .i64 x.1))])
      (fun _ => [(4, .box b4 70 [.int .i64 6, .string ((tU p2).nm), .string snm, .slice s3.1 s3.2.1 s3.2.2, .slice s4.1 s4.2.1 s4.2.2, .slice s5.1 s5.2.1 s5.2.2, .slice ib l.length ic, .string ((tT p q).nm), .slice ((some ⟨g, 0, none⟩, 2, 2) : Option Addr × Nat × Nat).1 ((some ⟨g, 0, none⟩, 2, 2) : Option Addr × Nat × Nat).2.1 ((some ⟨g, 0, none⟩, 2, 2) : Option Addr × Nat × Nat).2.2, .slice swh.1 swh.2.1 swh.2.2, .slice sord.1 sord.2.1 sord.2.2, .bool sdesc, .slice sinn.1 sinn.2.1 sinn.2.2])])
      (fun j x V' => V.le V' ∧ ColsAt V' (itemsOf (tU p2) ++ itemsOf (tT p q)) (kindsOf (tU p2) ++ kindsOf (tT p q)) p5 o5 q5 u5 ∧ x.1 ≤ l.length ∧ l.length - x.1 = j) l.length (0, 0, 0) ?_ ?_ ?_ ?_
    · repeat' (first | exact sees_nil | refine sees_cons rfl rfl rfl ?_)
    · repeat' (first | exact keeps_nil | refine keeps_cons rfl ?_ | refine keeps_free ?_)
    · exact ⟨(by repeat (first | exact View.le_refl _ | assumption | exact View.addU_le _ _ _ | refine View.le_trans ?_ (by assumption) | refine View.le_trans ?_ (View.addU_le _ _ _))), (hat).mono (by repeat (first | exact View.le_refl _ | assumption | exact View.addU_le _ _ _ | refine View.le_trans ?_ (by assumption) | refine View.le_trans ?_ (View.addU_le _ _ _))), Nat.zero_le _, rfl⟩
    rintro j ⟨i, na, np⟩ V' ⟨hV, hat', hi, hj⟩
    simp only at hi hj
    conv => whnf
    apply br <;> intro g1 <;> conv => whnf
    · have hi1 : i < l.length := by have := of_decide_eq_true g1; omega
      obtain ⟨x, hx⟩ : ∃ x, l[i]? = some x := ⟨_, List.getElem?_eq_getElem hi1⟩
      obtain ⟨pi, oi, hbi, hhi⟩ := cells_some hic (by
        obtain ⟨y, l', rfl⟩ := List.exists_cons_of_ne_nil (fun e : l = [] => by rw [e] at hi1; cases hi1)
        intro h; cases h)
      subst hbi
      have hxc := has_flat (n := 3) (fun _ => rfl) l oi hhi i x hx
      obtain ⟨xa, xt, xn⟩ := x
      repeat (first | (intro _; conv => whnf) | (refine br_t rfl ?_; conv => whnf) | (refine br_f rfl ?_; conv => whnf) | (refine IdxN.lit rfl rfl ?_; conv => whnf) | (refine br_t g2 ?_; conv => whnf) | (refine br_f g2 ?_; conv => whnf) | (refine br_t g3 ?_; conv => whnf) | (refine br_f g3 ?_; conv => whnf) | (refine br_t g4 ?_; conv => whnf) | (refine br_f g4 ?_; conv => whnf) | (refine br_t g5 ?_; conv => whnf) | (refine br_f g5 ?_; conv => whnf) | (refine br_t g6 ?_; conv => whnf) | (refine br_f g6 ?_; conv => whnf) | (refine br_t g7 ?_; conv => whnf) | (refine br_f g7 ?_; conv => whnf) | (refine br_t g8 ?_; conv => whnf) | (refine br_f g8 ?_; conv => whnf))
      refine IdxN.of (by omega) (by omega) ?_
      conv => whnf
      refine LoadN.of (hxc.mono (by repeat (first | exact View.le_refl _ | assumption | exact View.addU_le _ _ _ | refine View.le_trans ?_ (by assumption) | refine View.le_trans ?_ (View.addU_le _ _ _)))) 0 rfl rfl ?_
      conv => whnf
      repeat (first | (intro _; conv => whnf) | (refine br_t rfl ?_; conv => whnf) | (refine br_f rfl ?_; conv => whnf) | (refine IdxN.lit rfl rfl ?_; conv => whnf) | (refine br_t g2 ?_; conv => whnf) | (refine br_f g2 ?_; conv => whnf) | (refine br_t g3 ?_; conv => whnf) | (refine br_f g3 ?_; conv => whnf) | (refine br_t g4 ?_; conv => whnf) | (refine br_f g4 ?_; conv => whnf) | (refine br_t g5 ?_; conv => whnf) | (refine br_f g5 ?_; conv => whnf) | (refine br_t g6 ?_; conv => whnf) | (refine br_f g6 ?_; conv => whnf) | (refine br_t g7 ?_; conv => whnf) | (refine br_f g7 ?_; conv => whnf) | (refine br_t g8 ?_; conv => whnf) | (refine br_f g8 ?_; conv => whnf))
      apply br <;> intro g2 <;> conv => whnf
      · repeat (first | (intro _; conv => whnf) | (refine br_t rfl ?_; conv => whnf) | (refine br_f rfl ?_; conv => whnf) | (refine IdxN.lit rfl rfl ?_; conv => whnf) | (refine br_t g2 ?_; conv => whnf) | (refine br_f g2 ?_; conv => whnf) | (refine br_t g3 ?_; conv => whnf) | (refine br_f g3 ?_; conv => whnf) | (refine br_t g4 ?_; conv => whnf) | (refine br_f g4 ?_; conv => whnf) | (refine br_t g5 ?_; conv => whnf) | (refine br_f g5 ?_; conv => whnf) | (refine br_t g6 ?_; conv => whnf) | (refine br_f g6 ?_; conv => whnf) | (refine br_t g7 ?_; conv => whnf) | (refine br_f g7 ?_; conv => whnf) | (refine br_t g8 ?_; conv => whnf) | (refine br_f g8 ?_; conv => whnf))
        exact ret_pure ⟨_, rfl⟩
      · repeat (first | (intro _; conv => whnf) | (refine br_t rfl ?_; conv => whnf) | (refine br_f rfl ?_; conv => whnf) | (refine IdxN.lit rfl rfl ?_; conv => whnf) | (refine br_t g2 ?_; conv => whnf) | (refine br_f g2 ?_; conv => whnf) | (refine br_t g3 ?_; conv => whnf) | (refine br_f g3 ?_; conv => whnf) | (refine br_t g4 ?_; conv => whnf) | (refine br_f g4 ?_; conv => whnf) | (refine br_t g5 ?_; conv => whnf) | (refine br_f g5 ?_; conv => whnf) | (refine br_t g6 ?_; conv => whnf) | (refine br_f g6 ?_; conv => whnf) | (refine br_t g7 ?_; conv => whnf) | (refine br_f g7 ?_; conv => whnf) | (refine br_t g8 ?_; conv => whnf) | (refine br_f g8 ?_; conv => whnf))
        apply br <;> intro g3 <;> conv => whnf
        · repeat (first | (intro _; conv => whnf) | (refine br_t rfl ?_; conv => whnf) | (refine br_f rfl ?_; conv => whnf) | (refine IdxN.lit rfl rfl ?_; conv => whnf) | (refine br_t g2 ?_; conv => whnf) | (refine br_f g2 ?_; conv => whnf) | (refine br_t g3 ?_; conv => whnf) | (refine br_f g3 ?_; conv => whnf) | (refine br_t g4 ?_; conv => whnf) | (refine br_f g4 ?_; conv => whnf) | (refine br_t g5 ?_; conv => whnf) | (refine br_f g5 ?_; conv => whnf) | (refine br_t g6 ?_; conv => whnf) | (refine br_f g6 ?_; conv => whnf) | (refine br_t g7 ?_; conv => whnf) | (refine br_f g7 ?_; conv => whnf) | (refine br_t g8 ?_; conv => whnf) | (refine br_f g8 ?_; conv => whnf))
          exact ret_pure ⟨_, rfl⟩
        · repeat (first | (intro _; conv => whnf) | (refine br_t rfl ?_; conv => whnf) | (refine br_f rfl ?_; conv => whnf) | (refine IdxN.lit rfl rfl ?_; conv => whnf) | (refine br_t g2 ?_; conv => whnf) | (refine br_f g2 ?_; conv => whnf) | (refine br_t g3 ?_; conv => whnf) | (refine br_f g3 ?_; conv => whnf) | (refine br_t g4 ?_; conv => whnf) | (refine br_f g4 ?_; conv => whnf) | (refine br_t g5 ?_; conv => whnf) | (refine br_f g5 ?_; conv => whnf) | (refine br_t g6 ?_; conv => whnf) | (refine br_f g6 ?_; conv => whnf) | (refine br_t g7 ?_; conv => whnf) | (refine br_f g7 ?_; conv => whnf) | (refine br_t g8 ?_; conv => whnf) | (refine br_f g8 ?_; conv => whnf))
          apply br <;> intro g4 <;> conv => whnf
          · repeat (first | (intro _; conv => whnf) | (refine br_t rfl ?_; conv => whnf) | (refine br_f rfl ?_; conv => whnf) | (refine IdxN.lit rfl rfl ?_; conv => whnf) | (refine br_t g2 ?_; conv => whnf) | (refine br_f g2 ?_; conv => whnf) | (refine br_t g3 ?_; conv => whnf) | (refine br_f g3 ?_; conv => whnf) | (refine br_t g4 ?_; conv => whnf) | (refine br_f g4 ?_; conv => whnf) | (refine br_t g5 ?_; conv => whnf) | (refine br_f g5 ?_; conv => whnf) | (refine br_t g6 ?_; conv => whnf) | (refine br_f g6 ?_; conv => whnf) | (refine br_t g7 ?_; conv => whnf) | (refine br_f g7 ?_; conv => whnf) | (refine br_t g8 ?_; conv => whnf) | (refine br_f g8 ?_; conv => whnf))
            apply br <;> intro g5 <;> conv => whnf
            · repeat (first | (intro _; conv => whnf) | (refine br_t rfl ?_; conv => whnf) | (refine br_f rfl ?_; conv => whnf) | (refine IdxN.lit rfl rfl ?_; conv => whnf) | (refine br_t g2 ?_; conv => whnf) | (refine br_f g2 ?_; conv => whnf) | (refine br_t g3 ?_; conv => whnf) | (refine br_f g3 ?_; conv => whnf) | (refine br_t g4 ?_; conv => whnf) | (refine br_f g4 ?_; conv => whnf) | (refine br_t g5 ?_; conv => whnf) | (refine br_f g5 ?_; conv => whnf) | (refine br_t g6 ?_; conv => whnf) | (refine br_f g6 ?_; conv => whnf) | (refine br_t g7 ?_; conv => whnf) | (refine br_f g7 ?_; conv => whnf) | (refine br_t g8 ?_; conv => whnf) | (refine br_f g8 ?_; conv => whnf))
              exact ret_pure ⟨_, rfl⟩
            · repeat (first | (intro _; conv => whnf) | (refine br_t rfl ?_; conv => whnf) | (refine br_f rfl ?_; conv => whnf) | (refine IdxN.lit rfl rfl ?_; conv => whnf) | (refine br_t g2 ?_; conv => whnf) | (refine br_f g2 ?_; conv => whnf) | (refine br_t g3 ?_; conv => whnf) | (refine br_f g3 ?_; conv => whnf) | (refine br_t g4 ?_; conv => whnf) | (refine br_f g4 ?_; conv => whnf) | (refine br_t g5 ?_; conv => whnf) | (refine br_f g5 ?_; conv => whnf) | (refine br_t g6 ?_; conv => whnf) | (refine br_f g6 ?_; conv => whnf) | (refine br_t g7 ?_; conv => whnf) | (refine br_f g7 ?_; conv => whnf) | (refine br_t g8 ?_; conv => whnf) | (refine br_f g8 ?_; conv => whnf))
              apply br <;> intro g6 <;> conv => whnf
              · repeat (first | (intro _; conv => whnf) | (refine br_t rfl ?_; conv => whnf) | (refine br_f rfl ?_; conv => whnf) | (refine IdxN.lit rfl rfl ?_; conv => whnf) | (refine br_t g2 ?_; conv => whnf) | (refine br_f g2 ?_; conv => whnf) | (refine br_t g3 ?_; conv => whnf) | (refine br_f g3 ?_; conv => whnf) | (refine br_t g4 ?_; conv => whnf) | (refine br_f g4 ?_; conv => whnf) | (refine br_t g5 ?_; conv => whnf) | (refine br_f g5 ?_; conv => whnf) | (refine br_t g6 ?_; conv => whnf) | (refine br_f g6 ?_; conv => whnf) | (refine br_t g7 ?_; conv => whnf) | (refine br_f g7 ?_; conv => whnf) | (refine br_t g8 ?_; conv => whnf) | (refine br_f g8 ?_; conv => whnf))
                have hwi := wrap_nat (i := i) (by omega)
                refine ⟨j - 1, (i + 1, na, (IntKind.i64.wrap (np + 1))), by omega, ?_, ?_, View.le_trans hV (by repeat (first | exact View.le_refl _ | assumption | exact View.addU_le _ _ _ | refine View.le_trans ?_ (by assumption) | refine View.le_trans ?_ (View.addU_le _ _ _))), hat'.mono (by repeat (first | exact View.le_refl _ | assumption | exact View.addU_le _ _ _ | refine View.le_trans ?_ (by assumption) | refine View.le_trans ?_ (View.addU_le _ _ _))), hi1, by show _ - (i + 1) = _; omega⟩
                · repeat' (first | exact sees_nil | refine sees_cons rfl rfl rfl ?_ | refine sees_cons rfl rfl (by rw [← hwi]; rfl) ?_)
                · repeat' (first | exact keeps_nil | refine keeps_cons rfl ?_ | refine keeps_free ?_)
              · repeat (first | (intro _; conv => whnf) | (refine br_t rfl ?_; conv => whnf) | (refine br_f rfl ?_; conv => whnf) | (refine IdxN.lit rfl rfl ?_; conv => whnf) | (refine br_t g2 ?_; conv => whnf) | (refine br_f g2 ?_; conv => whnf) | (refine br_t g3 ?_; conv => whnf) | (refine br_f g3 ?_; conv => whnf) | (refine br_t g4 ?_; conv => whnf) | (refine br_f g4 ?_; conv => whnf) | (refine br_t g5 ?_; conv => whnf) | (refine br_f g5 ?_; conv => whnf) | (refine br_t g6 ?_; conv => whnf) | (refine br_f g6 ?_; conv => whnf) | (refine br_t g7 ?_; conv => whnf) | (refine br_f g7 ?_; conv => whnf) | (refine br_t g8 ?_; conv => whnf) | (refine br_f g8 ?_; conv => whnf))
                have hwi := wrap_nat (i := i) (by omega)
                refine ⟨j - 1, (i + 1, (IntKind.i64.wrap (na + 1)), np), by omega, ?_, ?_, View.le_trans hV (by repeat (first | exact View.le_refl _ | assumption | exact View.addU_le _ _ _ | refine View.le_trans ?_ (by assumption) | refine View.le_trans ?_ (View.addU_le _ _ _))), hat'.mono (by repeat (first | exact View.le_refl _ | assumption | exact View.addU_le _ _ _ | refine View.le_trans ?_ (by assumption) | refine View.le_trans ?_ (View.addU_le _ _ _))), hi1, by show _ - (i + 1) = _; omega⟩
                · repeat' (first | exact sees_nil | refine sees_cons rfl rfl rfl ?_ | refine sees_cons rfl rfl (by rw [← hwi]; rfl) ?_)
                · repeat' (first | exact keeps_nil | refine keeps_cons rfl ?_ | refine keeps_free ?_)
          · repeat (first | (intro _; conv => whnf) | (refine br_t rfl ?_; conv => whnf) | (refine br_f rfl ?_; conv => whnf) | (refine IdxN.lit rfl rfl ?_; conv => whnf) | (refine br_t g2 ?_; conv => whnf) | (refine br_f g2 ?_; conv => whnf) | (refine br_t g3 ?_; conv => whnf) | (refine br_f g3 ?_; conv => whnf) | (refine br_t g4 ?_; conv => whnf) | (refine br_f g4 ?_; conv => whnf) | (refine br_t g5 ?_; conv => whnf) | (refine br_f g5 ?_; conv => whnf) | (refine br_t g6 ?_; conv => whnf) | (refine br_f g6 ?_; conv => whnf) | (refine br_t g7 ?_; conv => whnf) | (refine br_f g7 ?_; conv => whnf) | (refine br_t g8 ?_; conv => whnf) | (refine br_f g8 ?_; conv => whnf))
            apply br <;> intro g6 <;> conv => whnf
            · repeat (first | (intro _; conv => whnf) | (refine br_t rfl ?_; conv => whnf) | (refine br_f rfl ?_; conv => whnf) | (refine IdxN.lit rfl rfl ?_; conv => whnf) | (refine br_t g2 ?_; conv => whnf) | (refine br_f g2 ?_; conv => whnf) | (refine br_t g3 ?_; conv => whnf) | (refine br_f g3 ?_; conv => whnf) | (refine br_t g4 ?_; conv => whnf) | (refine br_f g4 ?_; conv => whnf) | (refine br_t g5 ?_; conv => whnf) | (refine br_f g5 ?_; conv => whnf) | (refine br_t g6 ?_; conv => whnf) | (refine br_f g6 ?_; conv => whnf) | (refine br_t g7 ?_; conv => whnf) | (refine br_f g7 ?_; conv => whnf) | (refine br_t g8 ?_; conv => whnf) | (refine br_f g8 ?_; conv => whnf))
              refine CallN.pure (at_spec (itemsOf (tU p2) ++ itemsOf (tT p q)) 6 p5 ac3 o5 ⟨0, v0, xt, xn, none, 0, 0⟩ _ (hat'.hasI.mono (by repeat (first | exact View.le_refl _ | assumption | exact View.addU_le _ _ _ | refine View.le_trans ?_ (by assumption) | refine View.le_trans ?_ (View.addU_le _ _ _)))) (by show 6 ≤ 1000000; decide) (by decide)) fun v V7 _ hV7 hv => ?_
              subst hv
              conv => whnf
              apply br <;> intro g7 <;> conv => whnf
              · repeat (first | (intro _; conv => whnf) | (refine br_t rfl ?_; conv => whnf) | (refine br_f rfl ?_; conv => whnf) | (refine IdxN.lit rfl rfl ?_; conv => whnf) | (refine br_t g2 ?_; conv => whnf) | (refine br_f g2 ?_; conv => whnf) | (refine br_t g3 ?_; conv => whnf) | (refine br_f g3 ?_; conv => whnf) | (refine br_t g4 ?_; conv => whnf) | (refine br_f g4 ?_; conv => whnf) | (refine br_t g5 ?_; conv => whnf) | (refine br_f g5 ?_; conv => whnf) | (refine br_t g6 ?_; conv => whnf) | (refine br_f g6 ?_; conv => whnf) | (refine br_t g7 ?_; conv => whnf) | (refine br_f g7 ?_; conv => whnf) | (refine br_t g8 ?_; conv => whnf) | (refine br_f g8 ?_; conv => whnf))
                exact ret_pure ⟨_, rfl⟩
              · have g7' : (atA xt xn ((itemsOf (tU p2) ++ itemsOf (tT p q)).take 6)).2 = 0 := by simpa using g7
                obtain ⟨h0, h1⟩ := atA_range g7'
                obtain ⟨kk, hkk⟩ := Int.eq_ofNat_of_zero_le h0
                have h1 : (atA xt xn ((itemsOf (tU p2) ++ itemsOf (tT p q)).take 6)).1 < ((6 : Nat) : Int) := h1
                obtain ⟨kv, hkv⟩ : ∃ y, (kindsOf (tU p2) ++ kindsOf (tT p q))[kk]? = some y := ⟨_, List.getElem?_eq_getElem (by show kk < 6; omega)⟩
                have hone := has_one hat'.hasK (i := kk) (c := .int .i64 kv) (by rw [List.getElem?_map, hkv]; rfl)
                repeat (first | (intro _; conv => whnf) | (refine br_t rfl ?_; conv => whnf) | (refine br_f rfl ?_; conv => whnf) | (refine IdxN.lit rfl rfl ?_; conv => whnf) | (refine br_t g2 ?_; conv => whnf) | (refine br_f g2 ?_; conv => whnf) | (refine br_t g3 ?_; conv => whnf) | (refine br_f g3 ?_; conv => whnf) | (refine br_t g4 ?_; conv => whnf) | (refine br_f g4 ?_; conv => whnf) | (refine br_t g5 ?_; conv => whnf) | (refine br_f g5 ?_; conv => whnf) | (refine br_t g6 ?_; conv => whnf) | (refine br_f g6 ?_; conv => whnf) | (refine br_t g7 ?_; conv => whnf) | (refine br_f g7 ?_; conv => whnf) | (refine br_t g8 ?_; conv => whnf) | (refine br_f g8 ?_; conv => whnf))
                apply br <;> intro g8 <;> conv => whnf
                · repeat (first | (intro _; conv => whnf) | (refine br_t rfl ?_; conv => whnf) | (refine br_f rfl ?_; conv => whnf) | (refine IdxN.lit rfl rfl ?_; conv => whnf) | (refine br_t g2 ?_; conv => whnf) | (refine br_f g2 ?_; conv => whnf) | (refine br_t g3 ?_; conv => whnf) | (refine br_f g3 ?_; conv => whnf) | (refine br_t g4 ?_; conv => whnf) | (refine br_f g4 ?_; conv => whnf) | (refine br_t g5 ?_; conv => whnf) | (refine br_f g5 ?_; conv => whnf) | (refine br_t g6 ?_; conv => whnf) | (refine br_f g6 ?_; conv => whnf) | (refine br_t g7 ?_; conv => whnf) | (refine br_f g7 ?_; conv => whnf) | (refine br_t g8 ?_; conv => whnf) | (refine br_f g8 ?_; conv => whnf))
                  refine IdxN.of (by show 0 ≤ (atA xt xn ((itemsOf (tU p2) ++ itemsOf (tT p q)).take 6)).1; omega) (by show (atA xt xn ((itemsOf (tU p2) ++ itemsOf (tT p q)).take 6)).1 < ((6 : Nat) : Int); omega) ?_
                  conv => whnf
                  repeat (first | (intro _; conv => whnf) | (refine br_t rfl ?_; conv => whnf) | (refine br_f rfl ?_; conv => whnf) | (refine IdxN.lit rfl rfl ?_; conv => whnf) | (refine br_t g2 ?_; conv => whnf) | (refine br_f g2 ?_; conv => whnf) | (refine br_t g3 ?_; conv => whnf) | (refine br_f g3 ?_; conv => whnf) | (refine br_t g4 ?_; conv => whnf) | (refine br_f g4 ?_; conv => whnf) | (refine br_t g5 ?_; conv => whnf) | (refine br_f g5 ?_; conv => whnf) | (refine br_t g6 ?_; conv => whnf) | (refine br_f g6 ?_; conv => whnf) | (refine br_t g7 ?_; conv => whnf) | (refine br_f g7 ?_; conv => whnf) | (refine br_t g8 ?_; conv => whnf) | (refine br_f g8 ?_; conv => whnf))
                  refine LoadN.of (hone.mono (by repeat (first | exact View.le_refl _ | assumption | exact View.addU_le _ _ _ | refine View.le_trans ?_ (by assumption) | refine View.le_trans ?_ (View.addU_le _ _ _)))) 0 (by show u5 + ((atA xt xn ((itemsOf (tU p2) ++ itemsOf (tT p q)).take 6)).1).toNat * 1 = u5 + kk + 0; rw [hkk]; omega) rfl ?_
                  conv => whnf
                  repeat (first | (intro _; conv => whnf) | (refine br_t rfl ?_; conv => whnf) | (refine br_f rfl ?_; conv => whnf) | (refine IdxN.lit rfl rfl ?_; conv => whnf) | (refine br_t g2 ?_; conv => whnf) | (refine br_f g2 ?_; conv => whnf) | (refine br_t g3 ?_; conv => whnf) | (refine br_f g3 ?_; conv => whnf) | (refine br_t g4 ?_; conv => whnf) | (refine br_f g4 ?_; conv => whnf) | (refine br_t g5 ?_; conv => whnf) | (refine br_f g5 ?_; conv => whnf) | (refine br_t g6 ?_; conv => whnf) | (refine br_f g6 ?_; conv => whnf) | (refine br_t g7 ?_; conv => whnf) | (refine br_f g7 ?_; conv => whnf) | (refine br_t g8 ?_; conv => whnf) | (refine br_f g8 ?_; conv => whnf))
                  apply br <;> intro g9 <;> conv => whnf
                  · repeat (first | (intro _; conv => whnf) | (refine br_t rfl ?_; conv => whnf) | (refine br_f rfl ?_; conv => whnf) | (refine IdxN.lit rfl rfl ?_; conv => whnf) | (refine br_t g2 ?_; conv => whnf) | (refine br_f g2 ?_; conv => whnf) | (refine br_t g3 ?_; conv => whnf) | (refine br_f g3 ?_; conv => whnf) | (refine br_t g4 ?_; conv => whnf) | (refine br_f g4 ?_; conv => whnf) | (refine br_t g5 ?_; conv => whnf) | (refine br_f g5 ?_; conv => whnf) | (refine br_t g6 ?_; conv => whnf) | (refine br_f g6 ?_; conv => whnf) | (refine br_t g7 ?_; conv => whnf) | (refine br_f g7 ?_; conv => whnf) | (refine br_t g8 ?_; conv => whnf) | (refine br_f g8 ?_; conv => whnf))
                    exact ret_pure ⟨_, rfl⟩
                  · repeat (first | (intro _; conv => whnf) | (refine br_t rfl ?_; conv => whnf) | (refine br_f rfl ?_; conv => whnf) | (refine IdxN.lit rfl rfl ?_; conv => whnf) | (refine br_t g2 ?_; conv => whnf) | (refine br_f g2 ?_; conv => whnf) | (refine br_t g3 ?_; conv => whnf) | (refine br_f g3 ?_; conv => whnf) | (refine br_t g4 ?_; conv => whnf) | (refine br_f g4 ?_; conv => whnf) | (refine br_t g5 ?_; conv => whnf) | (refine br_f g5 ?_; conv => whnf) | (refine br_t g6 ?_; conv => whnf) | (refine br_f g6 ?_; conv => whnf) | (refine br_t g7 ?_; conv => whnf) | (refine br_f g7 ?_; conv => whnf) | (refine br_t g8 ?_; conv => whnf) | (refine br_f g8 ?_; conv => whnf))
                    have hwi := wrap_nat (i := i) (by omega)
                    refine ⟨j - 1, (i + 1, na, (IntKind.i64.wrap (np + 1))), by omega, ?_, ?_, View.le_trans hV (by repeat (first | exact View.le_refl _ | assumption | exact View.addU_le _ _ _ | refine View.le_trans ?_ (by assumption) | refine View.le_trans ?_ (View.addU_le _ _ _))), hat'.mono (by repeat (first | exact View.le_refl _ | assumption | exact View.addU_le _ _ _ | refine View.le_trans ?_ (by assumption) | refine View.le_trans ?_ (View.addU_le _ _ _))), hi1, by show _ - (i + 1) = _; omega⟩
                    · repeat' (first | exact sees_nil | refine sees_cons rfl rfl rfl ?_ | refine sees_cons rfl rfl (by rw [← hwi]; rfl) ?_)
                    · repeat' (first | exact keeps_nil | refine keeps_cons rfl ?_ | refine keeps_free ?_)
                · repeat (first | (intro _; conv => whnf) | (refine br_t rfl ?_; conv => whnf) | (refine br_f rfl ?_; conv => whnf) | (refine IdxN.lit rfl rfl ?_; conv => whnf) | (refine br_t g2 ?_; conv => whnf) | (refine br_f g2 ?_; conv => whnf) | (refine br_t g3 ?_; conv => whnf) | (refine br_f g3 ?_; conv => whnf) | (refine br_t g4 ?_; conv => whnf) | (refine br_f g4 ?_; conv => whnf) | (refine br_t g5 ?_; conv => whnf) | (refine br_f g5 ?_; conv => whnf) | (refine br_t g6 ?_; conv => whnf) | (refine br_f g6 ?_; conv => whnf) | (refine br_t g7 ?_; conv => whnf) | (refine br_f g7 ?_; conv => whnf) | (refine br_t g8 ?_; conv => whnf) | (refine br_f g8 ?_; conv => whnf))
                  have hwi := wrap_nat (i := i) (by omega)
                  refine ⟨j - 1, (i + 1, na, (IntKind.i64.wrap (np + 1))), by omega, ?_, ?_, View.le_trans hV (by repeat (first | exact View.le_refl _ | assumption | exact View.addU_le _ _ _ | refine View.le_trans ?_ (by assumption) | refine View.le_trans ?_ (View.addU_le _ _ _))), hat'.mono (by repeat (first | exact View.le_refl _ | assumption | exact View.addU_le _ _ _ | refine View.le_trans ?_ (by assumption) | refine View.le_trans ?_ (View.addU_le _ _ _))), hi1, by show _ - (i + 1) = _; omega⟩
                  · repeat' (first | exact sees_nil | refine sees_cons rfl rfl rfl ?_ | refine sees_cons rfl rfl (by rw [← hwi]; rfl) ?_)
                  · repeat' (first | exact keeps_nil | refine keeps_cons rfl ?_ | refine keeps_free ?_)
            · repeat (first | (intro _; conv => whnf) | (refine br_t rfl ?_; conv => whnf) | (refine br_f rfl ?_; conv => whnf) | (refine IdxN.lit rfl rfl ?_; conv => whnf) | (refine br_t g2 ?_; conv => whnf) | (refine br_f g2 ?_; conv => whnf) | (refine br_t g3 ?_; conv => whnf) | (refine br_f g3 ?_; conv => whnf) | (refine br_t g4 ?_; conv => whnf) | (refine br_f g4 ?_; conv => whnf) | (refine br_t g5 ?_; conv => whnf) | (refine br_f g5 ?_; conv => whnf) | (refine br_t g6 ?_; conv => whnf) | (refine br_f g6 ?_; conv => whnf) | (refine br_t g7 ?_; conv => whnf) | (refine br_f g7 ?_; conv => whnf) | (refine br_t g8 ?_; conv => whnf) | (refine br_f g8 ?_; conv => whnf))
              refine CallN.pure (at_spec (itemsOf (tU p2) ++ itemsOf (tT p q)) 6 p5 ac3 o5 ⟨0, v0, xt, xn, none, 0, 0⟩ _ (hat'.hasI.mono (by repeat (first | exact View.le_refl _ | assumption | exact View.addU_le _ _ _ | refine View.le_trans ?_ (by assumption) | refine View.le_trans ?_ (View.addU_le _ _ _)))) (by show 6 ≤ 1000000; decide) (by decide)) fun v V7 _ hV7 hv => ?_
              subst hv
              conv => whnf
              apply br <;> intro g7 <;> conv => whnf
              · repeat (first | (intro _; conv => whnf) | (refine br_t rfl ?_; conv => whnf) | (refine br_f rfl ?_; conv => whnf) | (refine IdxN.lit rfl rfl ?_; conv => whnf) | (refine br_t g2 ?_; conv => whnf) | (refine br_f g2 ?_; conv => whnf) | (refine br_t g3 ?_; conv => whnf) | (refine br_f g3 ?_; conv => whnf) | (refine br_t g4 ?_; conv => whnf) | (refine br_f g4 ?_; conv => whnf) | (refine br_t g5 ?_; conv => whnf) | (refine br_f g5 ?_; conv => whnf) | (refine br_t g6 ?_; conv => whnf) | (refine br_f g6 ?_; conv => whnf) | (refine br_t g7 ?_; conv => whnf) | (refine br_f g7 ?_; conv => whnf) | (refine br_t g8 ?_; conv => whnf) | (refine br_f g8 ?_; conv => whnf))
                exact ret_pure ⟨_, rfl⟩
              · have g7' : (atA xt xn ((itemsOf (tU p2) ++ itemsOf (tT p q)).take 6)).2 = 0 := by simpa using g7
                obtain ⟨h0, h1⟩ := atA_range g7'
                obtain ⟨kk, hkk⟩ := Int.eq_ofNat_of_zero_le h0
                have h1 : (atA xt xn ((itemsOf (tU p2) ++ itemsOf (tT p q)).take 6)).1 < ((6 : Nat) : Int) := h1
                obtain ⟨kv, hkv⟩ : ∃ y, (kindsOf (tU p2) ++ kindsOf (tT p q))[kk]? = some y := ⟨_, List.getElem?_eq_getElem (by show kk < 6; omega)⟩
                have hone := has_one hat'.hasK (i := kk) (c := .int .i64 kv) (by rw [List.getElem?_map, hkv]; rfl)
                repeat (first | (intro _; conv => whnf) | (refine br_t rfl ?_; conv => whnf) | (refine br_f rfl ?_; conv => whnf) | (refine IdxN.lit rfl rfl ?_; conv => whnf) | (refine br_t g2 ?_; conv => whnf) | (refine br_f g2 ?_; conv => whnf) | (refine br_t g3 ?_; conv => whnf) | (refine br_f g3 ?_; conv => whnf) | (refine br_t g4 ?_; conv => whnf) | (refine br_f g4 ?_; conv => whnf) | (refine br_t g5 ?_; conv => whnf) | (refine br_f g5 ?_; conv => whnf) | (refine br_t g6 ?_; conv => whnf) | (refine br_f g6 ?_; conv => whnf) | (refine br_t g7 ?_; conv => whnf) | (refine br_f g7 ?_; conv => whnf) | (refine br_t g8 ?_; conv => whnf) | (refine br_f g8 ?_; conv => whnf))
                apply br <;> intro g8 <;> conv => whnf
                · repeat (first | (intro _; conv => whnf) | (refine br_t rfl ?_; conv => whnf) | (refine br_f rfl ?_; conv => whnf) | (refine IdxN.lit rfl rfl ?_; conv => whnf) | (refine br_t g2 ?_; conv => whnf) | (refine br_f g2 ?_; conv => whnf) | (refine br_t g3 ?_; conv => whnf) | (refine br_f g3 ?_; conv => whnf) | (refine br_t g4 ?_; conv => whnf) | (refine br_f g4 ?_; conv => whnf) | (refine br_t g5 ?_; conv => whnf) | (refine br_f g5 ?_; conv => whnf) | (refine br_t g6 ?_; conv => whnf) | (refine br_f g6 ?_; conv => whnf) | (refine br_t g7 ?_; conv => whnf) | (refine br_f g7 ?_; conv => whnf) | (refine br_t g8 ?_; conv => whnf) | (refine br_f g8 ?_; conv => whnf))
                  refine IdxN.of (by show 0 ≤ (atA xt xn ((itemsOf (tU p2) ++ itemsOf (tT p q)).take 6)).1; omega) (by show (atA xt xn ((itemsOf (tU p2) ++ itemsOf (tT p q)).take 6)).1 < ((6 : Nat) : Int); omega) ?_
                  conv => whnf
                  repeat (first | (intro _; conv => whnf) | (refine br_t rfl ?_; conv => whnf) | (refine br_f rfl ?_; conv => whnf) | (refine IdxN.lit rfl rfl ?_; conv => whnf) | (refine br_t g2 ?_; conv => whnf) | (refine br_f g2 ?_; conv => whnf) | (refine br_t g3 ?_; conv => whnf) | (refine br_f g3 ?_; conv => whnf) | (refine br_t g4 ?_; conv => whnf) | (refine br_f g4 ?_; conv => whnf) | (refine br_t g5 ?_; conv => whnf) | (refine br_f g5 ?_; conv => whnf) | (refine br_t g6 ?_; conv => whnf) | (refine br_f g6 ?_; conv => whnf) | (refine br_t g7 ?_; conv => whnf) | (refine br_f g7 ?_; conv => whnf) | (refine br_t g8 ?_; conv => whnf) | (refine br_f g8 ?_; conv => whnf))
                  refine LoadN.of (hone.mono (by repeat (first | exact View.le_refl _ | assumption | exact View.addU_le _ _ _ | refine View.le_trans ?_ (by assumption) | refine View.le_trans ?_ (View.addU_le _ _ _)))) 0 (by show u5 + ((atA xt xn ((itemsOf (tU p2) ++ itemsOf (tT p q)).take 6)).1).toNat * 1 = u5 + kk + 0; rw [hkk]; omega) rfl ?_
                  conv => whnf
                  repeat (first | (intro _; conv => whnf) | (refine br_t rfl ?_; conv => whnf) | (refine br_f rfl ?_; conv => whnf) | (refine IdxN.lit rfl rfl ?_; conv => whnf) | (refine br_t g2 ?_; conv => whnf) | (refine br_f g2 ?_; conv => whnf) | (refine br_t g3 ?_; conv => whnf) | (refine br_f g3 ?_; conv => whnf) | (refine br_t g4 ?_; conv => whnf) | (refine br_f g4 ?_; conv => whnf) | (refine br_t g5 ?_; conv => whnf) | (refine br_f g5 ?_; conv => whnf) | (refine br_t g6 ?_; conv => whnf) | (refine br_f g6 ?_; conv => whnf) | (refine br_t g7 ?_; conv => whnf) | (refine br_f g7 ?_; conv => whnf) | (refine br_t g8 ?_; conv => whnf) | (refine br_f g8 ?_; conv => whnf))
                  apply br <;> intro g9 <;> conv => whnf
                  · repeat (first | (intro _; conv => whnf) | (refine br_t rfl ?_; conv => whnf) | (refine br_f rfl ?_; conv => whnf) | (refine IdxN.lit rfl rfl ?_; conv => whnf) | (refine br_t g2 ?_; conv => whnf) | (refine br_f g2 ?_; conv => whnf) | (refine br_t g3 ?_; conv => whnf) | (refine br_f g3 ?_; conv => whnf) | (refine br_t g4 ?_; conv => whnf) | (refine br_f g4 ?_; conv => whnf) | (refine br_t g5 ?_; conv => whnf) | (refine br_f g5 ?_; conv => whnf) | (refine br_t g6 ?_; conv => whnf) | (refine br_f g6 ?_; conv => whnf) | (refine br_t g7 ?_; conv => whnf) | (refine br_f g7 ?_; conv => whnf) | (refine br_t g8 ?_; conv => whnf) | (refine br_f g8 ?_; conv => whnf))
                    exact ret_pure ⟨_, rfl⟩
                  · repeat (first | (intro _; conv => whnf) | (refine br_t rfl ?_; conv => whnf) | (refine br_f rfl ?_; conv => whnf) | (refine IdxN.lit rfl rfl ?_; conv => whnf) | (refine br_t g2 ?_; conv => whnf) | (refine br_f g2 ?_; conv => whnf) | (refine br_t g3 ?_; conv => whnf) | (refine br_f g3 ?_; conv => whnf) | (refine br_t g4 ?_; conv => whnf) | (refine br_f g4 ?_; conv => whnf) | (refine br_t g5 ?_; conv => whnf) | (refine br_f g5 ?_; conv => whnf) | (refine br_t g6 ?_; conv => whnf) | (refine br_f g6 ?_; conv => whnf) | (refine br_t g7 ?_; conv => whnf) | (refine br_f g7 ?_; conv => whnf) | (refine br_t g8 ?_; conv => whnf) | (refine br_f g8 ?_; conv => whnf))
                    have hwi := wrap_nat (i := i) (by omega)
                    refine ⟨j - 1, (i + 1, (IntKind.i64.wrap (na + 1)), np), by omega, ?_, ?_, View.le_trans hV (by repeat (first | exact View.le_refl _ | assumption | exact View.addU_le _ _ _ | refine View.le_trans ?_ (by assumption) | refine View.le_trans ?_ (View.addU_le _ _ _))), hat'.mono (by repeat (first | exact View.le_refl _ | assumption | exact View.addU_le _ _ _ | refine View.le_trans ?_ (by assumption) | refine View.le_trans ?_ (View.addU_le _ _ _))), hi1, by show _ - (i + 1) = _; omega⟩
                    · repeat' (first | exact sees_nil | refine sees_cons rfl rfl rfl ?_ | refine sees_cons rfl rfl (by rw [← hwi]; rfl) ?_)
                    · repeat' (first | exact keeps_nil | refine keeps_cons rfl ?_ | refine keeps_free ?_)
                · repeat (first | (intro _; conv => whnf) | (refine br_t rfl ?_; conv => whnf) | (refine br_f rfl ?_; conv => whnf) | (refine IdxN.lit rfl rfl ?_; conv => whnf) | (refine br_t g2 ?_; conv => whnf) | (refine br_f g2 ?_; conv => whnf) | (refine br_t g3 ?_; conv => whnf) | (refine br_f g3 ?_; conv => whnf) | (refine br_t g4 ?_; conv => whnf) | (refine br_f g4 ?_; conv => whnf) | (refine br_t g5 ?_; conv => whnf) | (refine br_f g5 ?_; conv => whnf) | (refine br_t g6 ?_; conv => whnf) | (refine br_f g6 ?_; conv => whnf) | (refine br_t g7 ?_; conv => whnf) | (refine br_f g7 ?_; conv => whnf) | (refine br_t g8 ?_; conv => whnf) | (refine br_f g8 ?_; conv => whnf))
                  have hwi := wrap_nat (i := i) (by omega)
                  refine ⟨j - 1, (i + 1, (IntKind.i64.wrap (na + 1)), np), by omega, ?_, ?_, View.le_trans hV (by repeat (first | exact View.le_refl _ | assumption | exact View.addU_le _ _ _ | refine View.le_trans ?_ (by assumption) | refine View.le_trans ?_ (View.addU_le _ _ _))), hat'.mono (by repeat (first | exact View.le_refl _ | assumption | exact View.addU_le _ _ _ | refine View.le_trans ?_ (by assumption) | refine View.le_trans ?_ (View.addU_le _ _ _))), hi1, by show _ - (i + 1) = _; omega⟩
                  · repeat' (first | exact sees_nil | refine sees_cons rfl rfl rfl ?_ | refine sees_cons rfl rfl (by rw [← hwi]; rfl) ?_)
                  · repeat' (first | exact keeps_nil | refine keeps_cons rfl ?_ | refine keeps_free ?_)
    · repeat (first | (intro _; conv => whnf) | (refine br_t rfl ?_; conv => whnf) | (refine br_f rfl ?_; conv => whnf) | (refine IdxN.lit rfl rfl ?_; conv => whnf) | (refine br_t g2 ?_; conv => whnf) | (refine br_f g2 ?_; conv => whnf) | (refine br_t g3 ?_; conv => whnf) | (refine br_f g3 ?_; conv => whnf) | (refine br_t g4 ?_; conv => whnf) | (refine br_f g4 ?_; conv => whnf) | (refine br_t g5 ?_; conv => whnf) | (refine br_f g5 ?_; conv => whnf) | (refine br_t g6 ?_; conv => whnf) | (refine br_f g6 ?_; conv => whnf) | (refine br_t g7 ?_; conv => whnf) | (refine br_f g7 ?_; conv => whnf) | (refine br_t g8 ?_; conv => whnf) | (refine br_f g8 ?_; conv => whnf))
      apply br <;> intro g2 <;> conv => whnf
      · repeat (first | (intro _; conv => whnf) | (refine br_t rfl ?_; conv => whnf) | (refine br_f rfl ?_; conv => whnf) | (refine IdxN.lit rfl rfl ?_; conv => whnf) | (refine br_t g2 ?_; conv => whnf) | (refine br_f g2 ?_; conv => whnf) | (refine br_t g3 ?_; conv => whnf) | (refine br_f g3 ?_; conv => whnf) | (refine br_t g4 ?_; conv => whnf) | (refine br_f g4 ?_; conv => whnf) | (refine br_t g5 ?_; conv => whnf) | (refine br_f g5 ?_; conv => whnf) | (refine br_t g6 ?_; conv => whnf) | (refine br_f g6 ?_; conv => whnf) | (refine br_t g7 ?_; conv => whnf) | (refine br_f g7 ?_; conv => whnf) | (refine br_t g8 ?_; conv => whnf) | (refine br_f g8 ?_; conv => whnf))
        apply br <;> intro g3 <;> conv => whnf
        · repeat (first | (intro _; conv => whnf) | (refine br_t rfl ?_; conv => whnf) | (refine br_f rfl ?_; conv => whnf) | (refine IdxN.lit rfl rfl ?_; conv => whnf) | (refine br_t g2 ?_; conv => whnf) | (refine br_f g2 ?_; conv => whnf) | (refine br_t g3 ?_; conv => whnf) | (refine br_f g3 ?_; conv => whnf) | (refine br_t g4 ?_; conv => whnf) | (refine br_f g4 ?_; conv => whnf) | (refine br_t g5 ?_; conv => whnf) | (refine br_f g5 ?_; conv => whnf) | (refine br_t g6 ?_; conv => whnf) | (refine br_f g6 ?_; conv => whnf) | (refine br_t g7 ?_; conv => whnf) | (refine br_f g7 ?_; conv => whnf) | (refine br_t g8 ?_; conv => whnf) | (refine br_f g8 ?_; conv => whnf))
          exact ret_pure ⟨_, rfl⟩
        · repeat (first | (intro _; conv => whnf) | (refine br_t rfl ?_; conv => whnf) | (refine br_f rfl ?_; conv => whnf) | (refine IdxN.lit rfl rfl ?_; conv => whnf) | (refine br_t g2 ?_; conv => whnf) | (refine br_f g2 ?_; conv => whnf) | (refine br_t g3 ?_; conv => whnf) | (refine br_f g3 ?_; conv => whnf) | (refine br_t g4 ?_; conv => whnf) | (refine br_f g4 ?_; conv => whnf) | (refine br_t g5 ?_; conv => whnf) | (refine br_f g5 ?_; conv => whnf) | (refine br_t g6 ?_; conv => whnf) | (refine br_f g6 ?_; conv => whnf) | (refine br_t g7 ?_; conv => whnf) | (refine br_f g7 ?_; conv => whnf) | (refine br_t g8 ?_; conv => whnf) | (refine br_f g8 ?_; conv => whnf))
          apply br <;> intro g4 <;> conv => whnf
          · repeat (first | (intro _; conv => whnf) | (refine br_t rfl ?_; conv => whnf) | (refine br_f rfl ?_; conv => whnf) | (refine IdxN.lit rfl rfl ?_; conv => whnf) | (refine br_t g2 ?_; conv => whnf) | (refine br_f g2 ?_; conv => whnf) | (refine br_t g3 ?_; conv => whnf) | (refine br_f g3 ?_; conv => whnf) | (refine br_t g4 ?_; conv => whnf) | (refine br_f g4 ?_; conv => whnf) | (refine br_t g5 ?_; conv => whnf) | (refine br_f g5 ?_; conv => whnf) | (refine br_t g6 ?_; conv => whnf) | (refine br_f g6 ?_; conv => whnf) | (refine br_t g7 ?_; conv => whnf) | (refine br_f g7 ?_; conv => whnf) | (refine br_t g8 ?_; conv => whnf) | (refine br_f g8 ?_; conv => whnf))
            exact ret_pure ⟨_, rfl⟩
          · repeat (first | (intro _; conv => whnf) | (refine br_t rfl ?_; conv => whnf) | (refine br_f rfl ?_; conv => whnf) | (refine IdxN.lit rfl rfl ?_; conv => whnf) | (refine br_t g2 ?_; conv => whnf) | (refine br_f g2 ?_; conv => whnf) | (refine br_t g3 ?_; conv => whnf) | (refine br_f g3 ?_; conv => whnf) | (refine br_t g4 ?_; conv => whnf) | (refine br_f g4 ?_; conv => whnf) | (refine br_t g5 ?_; conv => whnf) | (refine br_f g5 ?_; conv => whnf) | (refine br_t g6 ?_; conv => whnf) | (refine br_f g6 ?_; conv => whnf) | (refine br_t g7 ?_; conv => whnf) | (refine br_f g7 ?_; conv => whnf) | (refine br_t g8 ?_; conv => whnf) | (refine br_f g8 ?_; conv => whnf))
            refine CallN.pure (rwhere_spec (itemsOf (tU p2) ++ itemsOf (tT p q)) (kindsOf (tU p2) ++ kindsOf (tT p q)) p5 o5 ac3 q5 u5 cc3 6 6 rfl rfl swh _ (hat'.mono (by repeat (first | exact View.le_refl _ | assumption | exact View.addU_le _ _ _ | refine View.le_trans ?_ (by assumption) | refine View.le_trans ?_ (View.addU_le _ _ _)))) (hwh.mono (by repeat (first | exact View.le_refl _ | assumption | exact View.addU_le _ _ _ | refine View.le_trans ?_ (by assumption) | refine View.le_trans ?_ (View.addU_le _ _ _))))) fun v V8 _ hV8 ⟨ew, hv⟩ => ?_
            subst hv
            conv => whnf
            apply br <;> intro g5 <;> conv => whnf
            · repeat (first | (intro _; conv => whnf) | (refine br_t rfl ?_; conv => whnf) | (refine br_f rfl ?_; conv => whnf) | (refine IdxN.lit rfl rfl ?_; conv => whnf) | (refine br_t g2 ?_; conv => whnf) | (refine br_f g2 ?_; conv => whnf) | (refine br_t g3 ?_; conv => whnf) | (refine br_f g3 ?_; conv => whnf) | (refine br_t g4 ?_; conv => whnf) | (refine br_f g4 ?_; conv => whnf) | (refine br_t g5 ?_; conv => whnf) | (refine br_f g5 ?_; conv => whnf) | (refine br_t g6 ?_; conv => whnf) | (refine br_f g6 ?_; conv => whnf) | (refine br_t g7 ?_; conv => whnf) | (refine br_f g7 ?_; conv => whnf) | (refine br_t g8 ?_; conv => whnf) | (refine br_f g8 ?_; conv => whnf))
              exact ret_pure ⟨_, rfl⟩
            · repeat (first | (intro _; conv => whnf) | (refine br_t rfl ?_; conv => whnf) | (refine br_f rfl ?_; conv => whnf) | (refine IdxN.lit rfl rfl ?_; conv => whnf) | (refine br_t g2 ?_; conv => whnf) | (refine br_f g2 ?_; conv => whnf) | (refine br_t g3 ?_; conv => whnf) | (refine br_f g3 ?_; conv => whnf) | (refine br_t g4 ?_; conv => whnf) | (refine br_f g4 ?_; conv => whnf) | (refine br_t g5 ?_; conv => whnf) | (refine br_f g5 ?_; conv => whnf) | (refine br_t g6 ?_; conv => whnf) | (refine br_f g6 ?_; conv => whnf) | (refine br_t g7 ?_; conv => whnf) | (refine br_f g7 ?_; conv => whnf) | (refine br_t g8 ?_; conv => whnf) | (refine br_f g8 ?_; conv => whnf))
              apply br <;> intro g6 <;> conv => whnf
              · repeat (first | (intro _; conv => whnf) | (refine br_t rfl ?_; conv => whnf) | (refine br_f rfl ?_; conv => whnf) | (refine IdxN.lit rfl rfl ?_; conv => whnf) | (refine br_t g2 ?_; conv => whnf) | (refine br_f g2 ?_; conv => whnf) | (refine br_t g3 ?_; conv => whnf) | (refine br_f g3 ?_; conv => whnf) | (refine br_t g4 ?_; conv => whnf) | (refine br_f g4 ?_; conv => whnf) | (refine br_t g5 ?_; conv => whnf) | (refine br_f g5 ?_; conv => whnf) | (refine br_t g6 ?_; conv => whnf) | (refine br_f g6 ?_; conv => whnf) | (refine br_t g7 ?_; conv => whnf) | (refine br_f g7 ?_; conv => whnf) | (refine br_t g8 ?_; conv => whnf) | (refine br_f g8 ?_; conv => whnf))
                exact ret_pure ⟨_, rfl⟩
              · rcases hor with hor | ⟨go1, gtb, gnm, hor, hgo⟩
                · have hor : sord = (none, 0, 0) := hor
                  rw [hor] at g6
                  exact absurd g6 (by decide)
                · have hor : sord = (some ⟨go1, 0, none⟩, 1, 1) := hor
                  subst hor
                  repeat (first | (intro _; conv => whnf) | (refine br_t rfl ?_; conv => whnf) | (refine br_f rfl ?_; conv => whnf) | (refine IdxN.lit rfl rfl ?_; conv => whnf) | (refine br_t g2 ?_; conv => whnf) | (refine br_f g2 ?_; conv => whnf) | (refine br_t g3 ?_; conv => whnf) | (refine br_f g3 ?_; conv => whnf) | (refine br_t g4 ?_; conv => whnf) | (refine br_f g4 ?_; conv => whnf) | (refine br_t g5 ?_; conv => whnf) | (refine br_f g5 ?_; conv => whnf) | (refine br_t g6 ?_; conv => whnf) | (refine br_f g6 ?_; conv => whnf) | (refine br_t g7 ?_; conv => whnf) | (refine br_f g7 ?_; conv => whnf) | (refine br_t g8 ?_; conv => whnf) | (refine br_f g8 ?_; conv => whnf))
                  refine LoadN.of (hgo.mono (by repeat (first | exact View.le_refl _ | assumption | exact View.addU_le _ _ _ | refine View.le_trans ?_ (by assumption) | refine View.le_trans ?_ (View.addU_le _ _ _)))) 0 rfl rfl ?_
                  conv => whnf
                  repeat (first | (intro _; conv => whnf) | (refine br_t rfl ?_; conv => whnf) | (refine br_f rfl ?_; conv => whnf) | (refine IdxN.lit rfl rfl ?_; conv => whnf) | (refine br_t g2 ?_; conv => whnf) | (refine br_f g2 ?_; conv => whnf) | (refine br_t g3 ?_; conv => whnf) | (refine br_f g3 ?_; conv => whnf) | (refine br_t g4 ?_; conv => whnf) | (refine br_f g4 ?_; conv => whnf) | (refine br_t g5 ?_; conv => whnf) | (refine br_f g5 ?_; conv => whnf) | (refine br_t g6 ?_; conv => whnf) | (refine br_f g6 ?_; conv => whnf) | (refine br_t g7 ?_; conv => whnf) | (refine br_f g7 ?_; conv => whnf) | (refine br_t g8 ?_; conv => whnf) | (refine br_f g8 ?_; conv => whnf))
                  refine CallN.pure (at_spec (itemsOf (tU p2) ++ itemsOf (tT p q)) 6 p5 ac3 o5 (colN gtb gnm) _ (hat'.hasI.mono (by repeat (first | exact View.le_refl _ | assumption | exact View.addU_le _ _ _ | refine View.le_trans ?_ (by assumption) | refine View.le_trans ?_ (View.addU_le _ _ _)))) (by show 6 ≤ 1000000; decide) (by decide)) fun v V9 _ hV9 hv => ?_
                  subst hv
                  conv => whnf
                  repeat (first | (intro _; conv => whnf) | (refine br_t rfl ?_; conv => whnf) | (refine br_f rfl ?_; conv => whnf) | (refine IdxN.lit rfl rfl ?_; conv => whnf) | (refine br_t g2 ?_; conv => whnf) | (refine br_f g2 ?_; conv => whnf) | (refine br_t g3 ?_; conv => whnf) | (refine br_f g3 ?_; conv => whnf) | (refine br_t g4 ?_; conv => whnf) | (refine br_f g4 ?_; conv => whnf) | (refine br_t g5 ?_; conv => whnf) | (refine br_f g5 ?_; conv => whnf) | (refine br_t g6 ?_; conv => whnf) | (refine br_f g6 ?_; conv => whnf) | (refine br_t g7 ?_; conv => whnf) | (refine br_f g7 ?_; conv => whnf) | (refine br_t g8 ?_; conv => whnf) | (refine br_f g8 ?_; conv => whnf))
                  exact ret_pure ⟨_, rfl⟩
      · repeat (first | (intro _; conv => whnf) | (refine br_t rfl ?_; conv => whnf) | (refine br_f rfl ?_; conv => whnf) | (refine IdxN.lit rfl rfl ?_; conv => whnf) | (refine br_t g2 ?_; conv => whnf) | (refine br_f g2 ?_; conv => whnf) | (refine br_t g3 ?_; conv => whnf) | (refine br_f g3 ?_; conv => whnf) | (refine br_t g4 ?_; conv => whnf) | (refine br_f g4 ?_; conv => whnf) | (refine br_t g5 ?_; conv => whnf) | (refine br_f g5 ?_; conv => whnf) | (refine br_t g6 ?_; conv => whnf) | (refine br_f g6 ?_; conv => whnf) | (refine br_t g7 ?_; conv => whnf) | (refine br_f g7 ?_; conv => whnf) | (refine br_t g8 ?_; conv => whnf) | (refine br_f g8 ?_; conv => whnf))
        refine CallN.pure (rwhere_spec (itemsOf (tU p2) ++ itemsOf (tT p q)) (kindsOf (tU p2) ++ kindsOf (tT p q)) p5 o5 ac3 q5 u5 cc3 6 6 rfl rfl swh _ (hat'.mono (by repeat (first | exact View.le_refl _ | assumption | exact View.addU_le _ _ _ | refine View.le_trans ?_ (by assumption) | refine View.le_trans ?_ (View.addU_le _ _ _)))) (hwh.mono (by repeat (first | exact View.le_refl _ | assumption | exact View.addU_le _ _ _ | refine View.le_trans ?_ (by assumption) | refine View.le_trans ?_ (View.addU_le _ _ _))))) fun v V8 _ hV8 ⟨ew, hv⟩ => ?_
        subst hv
        conv => whnf
        apply br <;> intro g5 <;> conv => whnf
        · repeat (first | (intro _; conv => whnf) | (refine br_t rfl ?_; conv => whnf) | (refine br_f rfl ?_; conv => whnf) | (refine IdxN.lit rfl rfl ?_; conv => whnf) | (refine br_t g2 ?_; conv => whnf) | (refine br_f g2 ?_; conv => whnf) | (refine br_t g3 ?_; conv => whnf) | (refine br_f g3 ?_; conv => whnf) | (refine br_t g4 ?_; conv => whnf) | (refine br_f g4 ?_; conv => whnf) | (refine br_t g5 ?_; conv => whnf) | (refine br_f g5 ?_; conv => whnf) | (refine br_t g6 ?_; conv => whnf) | (refine br_f g6 ?_; conv => whnf) | (refine br_t g7 ?_; conv => whnf) | (refine br_f g7 ?_; conv => whnf) | (refine br_t g8 ?_; conv => whnf) | (refine br_f g8 ?_; conv => whnf))
          exact ret_pure ⟨_, rfl⟩
        · repeat (first | (intro _; conv => whnf) | (refine br_t rfl ?_; conv => whnf) | (refine br_f rfl ?_; conv => whnf) | (refine IdxN.lit rfl rfl ?_; conv => whnf) | (refine br_t g2 ?_; conv => whnf) | (refine br_f g2 ?_; conv => whnf) | (refine br_t g3 ?_; conv => whnf) | (refine br_f g3 ?_; conv => whnf) | (refine br_t g4 ?_; conv => whnf) | (refine br_f g4 ?_; conv => whnf) | (refine br_t g5 ?_; conv => whnf) | (refine br_f g5 ?_; conv => whnf) | (refine br_t g6 ?_; conv => whnf) | (refine br_f g6 ?_; conv => whnf) | (refine br_t g7 ?_; conv => whnf) | (refine br_f g7 ?_; conv => whnf) | (refine br_t g8 ?_; conv => whnf) | (refine br_f g8 ?_; conv => whnf))
          apply br <;> intro g6 <;> conv => whnf
          · repeat (first | (intro _; conv => whnf) | (refine br_t rfl ?_; conv => whnf) | (refine br_f rfl ?_; conv => whnf) | (refine IdxN.lit rfl rfl ?_; conv => whnf) | (refine br_t g2 ?_; conv => whnf) | (refine br_f g2 ?_; conv => whnf) | (refine br_t g3 ?_; conv => whnf) | (refine br_f g3 ?_; conv => whnf) | (refine br_t g4 ?_; conv => whnf) | (refine br_f g4 ?_; conv => whnf) | (refine br_t g5 ?_; conv => whnf) | (refine br_f g5 ?_; conv => whnf) | (refine br_t g6 ?_; conv => whnf) | (refine br_f g6 ?_; conv => whnf) | (refine br_t g7 ?_; conv => whnf) | (refine br_f g7 ?_; conv => whnf) | (refine br_t g8 ?_; conv => whnf) | (refine br_f g8 ?_; conv => whnf))
            exact ret_pure ⟨_, rfl⟩
          · rcases hor with hor | ⟨go1, gtb, gnm, hor, hgo⟩
            · have hor : sord = (none, 0, 0) := hor
              rw [hor] at g6
              exact absurd g6 (by decide)
            · have hor : sord = (some ⟨go1, 0, none⟩, 1, 1) := hor
              subst hor
              repeat (first | (intro _; conv => whnf) | (refine br_t rfl ?_; conv => whnf) | (refine br_f rfl ?_; conv => whnf) | (refine IdxN.lit rfl rfl ?_; conv => whnf) | (refine br_t g2 ?_; conv => whnf) | (refine br_f g2 ?_; conv => whnf) | (refine br_t g3 ?_; conv => whnf) | (refine br_f g3 ?_; conv => whnf) | (refine br_t g4 ?_; conv => whnf) | (refine br_f g4 ?_; conv => whnf) | (refine br_t g5 ?_; conv => whnf) | (refine br_f g5 ?_; conv => whnf) | (refine br_t g6 ?_; conv => whnf) | (refine br_f g6 ?_; conv => whnf) | (refine br_t g7 ?_; conv => whnf) | (refine br_f g7 ?_; conv => whnf) | (refine br_t g8 ?_; conv => whnf) | (refine br_f g8 ?_; conv => whnf))
              refine LoadN.of (hgo.mono (by repeat (first | exact View.le_refl _ | assumption | exact View.addU_le _ _ _ | refine View.le_trans ?_ (by assumption) | refine View.le_trans ?_ (View.addU_le _ _ _)))) 0 rfl rfl ?_
              conv => whnf
              repeat (first | (intro _; conv => whnf) | (refine br_t rfl ?_; conv => whnf) | (refine br_f rfl ?_; conv => whnf) | (refine IdxN.lit rfl rfl ?_; conv => whnf) | (refine br_t g2 ?_; conv => whnf) | (refine br_f g2 ?_; conv => whnf) | (refine br_t g3 ?_; conv => whnf) | (refine br_f g3 ?_; conv => whnf) | (refine br_t g4 ?_; conv => whnf) | (refine br_f g4 ?_; conv => whnf) | (refine br_t g5 ?_; conv => whnf) | (refine br_f g5 ?_; conv => whnf) | (refine br_t g6 ?_; conv => whnf) | (refine br_f g6 ?_; conv => whnf) | (refine br_t g7 ?_; conv => whnf) | (refine br_f g7 ?_; conv => whnf) | (refine br_t g8 ?_; conv => whnf) | (refine br_f g8 ?_; conv => whnf))
              refine CallN.pure (at_spec (itemsOf (tU p2) ++ itemsOf (tT p q)) 6 p5 ac3 o5 (colN gtb gnm) _ (hat'.hasI.mono (by repeat (first | exact View.le_refl _ | assumption | exact View.addU_le _ _ _ | refine View.le_trans ?_ (by assumption) | refine View.le_trans ?_ (View.addU_le _ _ _)))) (by show 6 ≤ 1000000; decide) (by decide)) fun v V9 _ hV9 hv => ?_
              subst hv
              conv => whnf
              repeat (first | (intro _; conv => whnf) | (refine br_t rfl ?_; conv => whnf) | (refine br_f rfl ?_; conv => whnf) | (refine IdxN.lit rfl rfl ?_; conv => whnf) | (refine br_t g2 ?_; conv => whnf) | (refine br_f g2 ?_; conv => whnf) | (refine br_t g3 ?_; conv => whnf) | (refine br_f g3 ?_; conv => whnf) | (refine br_t g4 ?_; conv => whnf) | (refine br_f g4 ?_; conv => whnf) | (refine br_t g5 ?_; conv => whnf) | (refine br_f g5 ?_; conv => whnf) | (refine br_t g6 ?_; conv => whnf) | (refine br_f g6 ?_; conv => whnf) | (refine br_t g7 ?_; conv => whnf) | (refine br_f g7 ?_; conv => whnf) | (refine br_t g8 ?_; conv => whnf) | (refine br_f g8 ?_; conv => whnf))
              exact ret_pure ⟨_, rfl⟩
end Go.Proofs.Ytenpginanhnkbaa
end

section
set_option linter.unusedSimpArgs false
set_option linter.unusedVariables false
namespace Go.Proofs.Ytenpginanhnkbaa
open Go.X
set_option maxRecDepth 100000

theorem checkT_spec (s : StV) (r p q p2 : Nat) (V : View) (hr : V.has r 0 (tvcells (tT p q) ++ tvcells (tU p2))) (ht : TabOk V (tT p q)) (ho : TabOk V (tU p2)) (hsel : SelAt V (tT p q) (tU p2) s) :
    PSpec 57 [tv3 r, stv s] V (fun v _ => ∃ e, v = .int .i64 e) := by
  have hk : s.kind = 6 := hsel.1
  have hl := hsel.lists
  have h2 : s.tb = (tT p q).nm := hsel.2.1
  have hls := fun V1 (hV : V.le V1) => lists_spec s V1 hk (hl.1.mono hV) (hl.2.mono hV)
  have hss := fun V1 (hV : V.le V1) => rselT_spec s r p q p2 V1 (hr.mono hV) (ht.mono hV) (ho.mono hV) (hsel.mono hV)
  obtain ⟨skind, stb, snm, s3, s4, s5, sit, sjoin, son, swh, sord, sdesc, sinn⟩ := s
  have hk : skind = 6 := hk
  have h2 : stb = (tT p q).nm := h2
  subst hk; subst h2
  refine does_of_zfun [(6, [(0, []), (1, []), (2, []), (3, []), (4, []), (5, []), (6, [])])] mixed (args := [.v _, .v _]) (ms := []) Try.func57 (by kernel_rfl) rfl ?_
  conv => whnf
  repeat' first
    | (refine br_t rfl ?_; conv => whnf)
    | (refine br_f rfl ?_; conv => whnf)
    | (refine IdxN.lit rfl rfl ?_; conv => whnf)
    | (intro _; conv => whnf)
  refine CallN.pure (hls _ (by repeat (first | exact View.le_refl _ | assumption | exact View.addU_le _ _ _ | refine View.le_trans ?_ (by assumption) | refine View.le_trans ?_ (View.addU_le _ _ _)))) fun v V1 _ hV1 ⟨b1, hv⟩ => ?_
  subst hv
  conv => whnf
  apply br <;> intro g1 <;> conv => whnf
  · repeat' first
      | (refine br_t rfl ?_; conv => whnf)
      | (refine br_f rfl ?_; conv => whnf)
      | (refine IdxN.lit rfl rfl ?_; conv => whnf)
      | (intro _; conv => whnf)
    exact ret_pure ⟨_, rfl⟩
  repeat' first
    | (refine br_t rfl ?_; conv => whnf)
    | (refine br_f rfl ?_; conv => whnf)
    | (refine IdxN.lit rfl rfl ?_; conv => whnf)
    | (intro _; conv => whnf)
  refine CallN.pure (tableT_spec r p q p2 _ (hr.mono (by repeat (first | exact View.le_refl _ | assumption | exact View.addU_le _ _ _ | refine View.le_trans ?_ (by assumption) | refine View.le_trans ?_ (View.addU_le _ _ _))))) fun v V2 _ hV2 hv => ?_
  subst hv
  conv => whnf
  repeat' first
    | (refine br_t rfl ?_; conv => whnf)
    | (refine br_f rfl ?_; conv => whnf)
    | (refine IdxN.lit rfl rfl ?_; conv => whnf)
    | (intro _; conv => whnf)
  refine CallN.pure (hss _ (by repeat (first | exact View.le_refl _ | assumption | exact View.addU_le _ _ _ | refine View.le_trans ?_ (by assumption) | refine View.le_trans ?_ (View.addU_le _ _ _)))) fun v V3 _ hV3 ⟨e, hv⟩ => ?_
  subst hv
  conv => whnf
  repeat' first
    | (refine br_t rfl ?_; conv => whnf)
    | (refine br_f rfl ?_; conv => whnf)
    | (refine IdxN.lit rfl rfl ?_; conv => whnf)
    | (intro _; conv => whnf)
  exact ret_pure ⟨_, rfl⟩
theorem checkU_spec (s : StV) (r p q p2 : Nat) (V : View) (hr : V.has r 0 (tvcells (tT p q) ++ tvcells (tU p2))) (ht : TabOk V (tU p2)) (ho : TabOk V (tT p q)) (hsel : SelAt V (tU p2) (tT p q) s) :
    PSpec 57 [tv3 r, stv s] V (fun v _ => ∃ e, v = .int .i64 e) := by
  have hk : s.kind = 6 := hsel.1
  have hl := hsel.lists
  have h2 : s.tb = (tU p2).nm := hsel.2.1
  have hls := fun V1 (hV : V.le V1) => lists_spec s V1 hk (hl.1.mono hV) (hl.2.mono hV)
  have hss := fun V1 (hV : V.le V1) => rselU_spec s r p q p2 V1 (hr.mono hV) (ht.mono hV) (ho.mono hV) (hsel.mono hV)
  obtain ⟨skind, stb, snm, s3, s4, s5, sit, sjoin, son, swh, sord, sdesc, sinn⟩ := s
  have hk : skind = 6 := hk
  have h2 : stb = (tU p2).nm := h2
  subst hk; subst h2
  refine does_of_zfun [(6, [(0, []), (1, []), (2, []), (3, []), (4, []), (5, []), (6, [])])] mixed (args := [.v _, .v _]) (ms := []) Try.func57 (by kernel_rfl) rfl ?_
  conv => whnf
  repeat' first
    | (refine br_t rfl ?_; conv => whnf)
    | (refine br_f rfl ?_; conv => whnf)
    | (refine IdxN.lit rfl rfl ?_; conv => whnf)
    | (intro _; conv => whnf)
  refine CallN.pure (hls _ (by repeat (first | exact View.le_refl _ | assumption | exact View.addU_le _ _ _ | refine View.le_trans ?_ (by assumption) | refine View.le_trans ?_ (View.addU_le _ _ _)))) fun v V1 _ hV1 ⟨b1, hv⟩ => ?_
  subst hv
  conv => whnf
  apply br <;> intro g1 <;> conv => whnf
  · repeat' first
      | (refine br_t rfl ?_; conv => whnf)
      | (refine br_f rfl ?_; conv => whnf)
      | (refine IdxN.lit rfl rfl ?_; conv => whnf)
      | (intro _; conv => whnf)
    exact ret_pure ⟨_, rfl⟩
  repeat' first
    | (refine br_t rfl ?_; conv => whnf)
    | (refine br_f rfl ?_; conv => whnf)
    | (refine IdxN.lit rfl rfl ?_; conv => whnf)
    | (intro _; conv => whnf)
  refine CallN.pure (tableU_spec r p q p2 _ (hr.mono (by repeat (first | exact View.le_refl _ | assumption | exact View.addU_le _ _ _ | refine View.le_trans ?_ (by assumption) | refine View.le_trans ?_ (View.addU_le _ _ _))))) fun v V2 _ hV2 hv => ?_
  subst hv
  conv => whnf
  repeat' first
    | (refine br_t rfl ?_; conv => whnf)
    | (refine br_f rfl ?_; conv => whnf)
    | (refine IdxN.lit rfl rfl ?_; conv => whnf)
    | (intro _; conv => whnf)
  refine CallN.pure (hss _ (by repeat (first | exact View.le_refl _ | assumption | exact View.addU_le _ _ _ | refine View.le_trans ?_ (by assumption) | refine View.le_trans ?_ (View.addU_le _ _ _)))) fun v V3 _ hV3 ⟨e, hv⟩ => ?_
  subst hv
  conv => whnf
  repeat' first
    | (refine br_t rfl ?_; conv => whnf)
    | (refine br_f rfl ?_; conv => whnf)
    | (refine IdxN.lit rfl rfl ?_; conv => whnf)
    | (intro _; conv => whnf)
  exact ret_pure ⟨_, rfl⟩
end Go.Proofs.Ytenpginanhnkbaa
end
