/- One part of a proof: an evaluator of the model, shown right, and contracts that it yields. No condition beyond those that each theorem names. -/
import Derived.Test.YtenpginanhnkbaaCZ
section
set_option linter.unusedSimpArgs false
set_option linter.unusedVariables false
namespace Go.Proofs.Ytenpginanhnkbaa
open Go.X
set_option maxRecDepth 100000

theorem ne_T (p q : Nat) : ∀ kd, kd = 1 ∨ kd = 2 → colsOf kd (itemsOf (tT p q)) (kindsOf (tT p q)) ≠ [] := by
  rintro kd (rfl | rfl) h <;> cases h
theorem ne_U (p : Nat) : ∀ kd, kd = 1 ∨ kd = 2 → colsOf kd (itemsOf (tU p)) (kindsOf (tU p)) ≠ [] := by
  rintro kd (rfl | rfl) h <;> cases h
theorem ne_TU (p q p2 : Nat) : ∀ kd, kd = 1 ∨ kd = 2 → colsOf kd (itemsOf (tT p q) ++ itemsOf (tU p2)) (kindsOf (tT p q) ++ kindsOf (tU p2)) ≠ [] := by
  rintro kd (rfl | rfl) h <;> cases h
theorem ne_UT (p q p2 : Nat) : ∀ kd, kd = 1 ∨ kd = 2 → colsOf kd (itemsOf (tU p2) ++ itemsOf (tT p q)) (kindsOf (tU p2) ++ kindsOf (tT p q)) ≠ [] := by
  rintro kd (rfl | rfl) h <;> cases h
/-- of either table first -/
def SelE (V : View) (s : StV) : Prop := ∃ p q p2, SelAt V (tT p q) (tU p2) s ∨ SelAt V (tU p2) (tT p q) s
theorem data_spec (b : Nat) (s : Src) (x : Int) (h0 : s.l[0]? = some x) (h1 : s.l[1]? = some 5) (V : View) (hs : s.ok V) :
    Does Try.prog 56 [.pointer (some ⟨b, 0, none⟩)] V [picks b s 0] (fun v V' bs => ∃ st k', v = stv st ∧ SelE V' st ∧ FarOk s k' ∧ bs = [picks b s k']) := by
  have hx := hs.num x (List.mem_of_getElem? h0)
  have hlen : 2 ≤ s.l.length := (List.getElem?_eq_some_iff.1 h1).1
  refine does_of_zfun [(2, [(0, []), (1, []), (2, []), (3, [6]), (4, []), (5, []), (6, []), (7, [])]), (12, [(0, []), (1, []), (2, []), (3, []), (4, []), (5, []), (6, []), (7, []), (8, []), (9, []), (10, []), (11, []), (12, []), (13, []), (14, [])]), (15, [(0, []), (1, []), (2, []), (3, []), (4, []), (5, [8]), (6, [8]), (7, []), (8, []), (9, [])]), (21, [(0, []), (1, []), (2, []), (3, []), (4, []), (5, []), (6, []), (7, [])])] mixed (args := [.own 0 0]) (ms := [(0, picks b s 0)]) Try.func56 (by kernel_rfl) rfl ?_
  conv => whnf
  repeat' first
    | (refine br_t rfl ?_; conv => whnf)
    | (refine br_f rfl ?_; conv => whnf)
    | (refine IdxN.lit rfl rfl ?_; conv => whnf)
    | (intro _; conv => whnf)
  rename_i b2
  refine CallN.pure (schema_spec _) fun v V2 _ hV2 ⟨r, p, q, p2, hv, t1, t2, t3⟩ => ?_
  subst hv
  conv => whnf
  repeat' first
    | (refine br_t rfl ?_; conv => whnf)
    | (refine br_f rfl ?_; conv => whnf)
    | (refine IdxN.lit rfl rfl ?_; conv => whnf)
    | (intro _; conv => whnf)
  refine CallN.box 0 rfl (num_at b s 0 2 x h0 (by omega) _ (hs.mono (by repeat (first | exact View.le_refl _ | assumption | exact View.addU_le _ _ _ | refine View.le_trans ?_ (by assumption) | refine View.le_trans ?_ (View.addU_le _ _ _))))) fun v V3 bs hV3 ⟨hv, hb3⟩ => ⟨85, picksC s ((0 + 1 : Nat) : Int), hb3, ?_⟩
  subst hv
  refine Prot.box rfl rfl ?_
  conv => whnf
  have hM : x.tmod 2 = 0 ∨ x.tmod 2 = 1 := by rw [Int.tmod_eq_emod_of_nonneg hx.1]; omega
  generalize x.tmod 2 = M at *
  have hlT : TabOk V2 (tT p q) := colsLie_T t2
  have hlU : TabOk V2 (tU p2) := colsLie_U t3
  rcases hM with hM | hM
  · subst hM
    repeat' first
      | (refine br_t rfl ?_; conv => whnf)
      | (refine br_f rfl ?_; conv => whnf)
      | (refine IdxN.lit rfl rfl ?_; conv => whnf)
      | (intro _; conv => whnf)
    refine LoadN.of (t1.mono (by repeat (first | exact View.le_refl _ | assumption | exact View.addU_le _ _ _ | refine View.le_trans ?_ (by assumption) | refine View.le_trans ?_ (View.addU_le _ _ _)))) 0 rfl rfl ?_
    conv => whnf
    repeat' first
      | (refine br_t rfl ?_; conv => whnf)
      | (refine br_f rfl ?_; conv => whnf)
      | (refine IdxN.lit rfl rfl ?_; conv => whnf)
      | (intro _; conv => whnf)
    rename_i b4
    refine CallN.news (colsP_spec (tT p q) _ (by first | exact hlT.mono (by repeat (first | exact View.le_refl _ | assumption | exact View.addU_le _ _ _ | refine View.le_trans ?_ (by assumption) | refine View.le_trans ?_ (View.addU_le _ _ _))) | exact hlU.mono (by repeat (first | exact View.le_refl _ | assumption | exact View.addU_le _ _ _ | refine View.le_trans ?_ (by assumption) | refine View.le_trans ?_ (View.addU_le _ _ _))))) fun v Vc bs hVc ⟨a, ac, c, cc, hv, hA, hC, hb⟩ => ⟨[(300, .row (.slice a 3 ac) 61 3 3), (301, .row (.slice c 3 cc) 3 1 3)], by rw [hb]; rfl, by simp, fun x hx => by (simp only [List.mem_cons, List.not_mem_nil, or_false] at hx; rcases hx with rfl | rfl <;> rfl), ?_⟩
    subst hv
    conv => whnf
    repeat' first
      | (refine br_t rfl ?_; conv => whnf)
      | (refine br_f rfl ?_; conv => whnf)
      | (refine IdxN.lit rfl rfl ?_; conv => whnf)
      | (intro _; conv => whnf)
    refine CallN.box 0 rfl (num_at b s 1 7 5 h1 (by omega) _ (hs.mono (by repeat (first | exact View.le_refl _ | assumption | exact View.addU_le _ _ _ | refine View.le_trans ?_ (by assumption) | refine View.le_trans ?_ (View.addU_le _ _ _))))) fun v V4 bs hV4 ⟨hv, hb4⟩ => ⟨85, picksC s ((1 + 1 : Nat) : Int), hb4, ?_⟩
    subst hv
    conv => whnf
    repeat' first
      | (refine br_t rfl ?_; conv => whnf)
      | (refine br_f rfl ?_; conv => whnf)
      | (refine IdxN.lit rfl rfl ?_; conv => whnf)
      | (intro _; conv => whnf)
    refine CallN.box 0 rfl (selected_spec b s 2 ⟨by decide, by omega⟩ r (tT p q) (tU p2) (tT p q) (tU p2) _ (hs.mono (by repeat (first | exact View.le_refl _ | assumption | exact View.addU_le _ _ _ | refine View.le_trans ?_ (by assumption) | refine View.le_trans ?_ (View.addU_le _ _ _)))) (show View.has _ r 0 (tvcells (tT p q) ++ tvcells (tU p2)) from (t1.mono (by repeat (first | exact View.le_refl _ | assumption | exact View.addU_le _ _ _ | refine View.le_trans ?_ (by assumption) | refine View.le_trans ?_ (View.addU_le _ _ _))))) (by first | exact hlT.mono (by repeat (first | exact View.le_refl _ | assumption | exact View.addU_le _ _ _ | refine View.le_trans ?_ (by assumption) | refine View.le_trans ?_ (View.addU_le _ _ _))) | exact hlU.mono (by repeat (first | exact View.le_refl _ | assumption | exact View.addU_le _ _ _ | refine View.le_trans ?_ (by assumption) | refine View.le_trans ?_ (View.addU_le _ _ _)))) (by first | exact hlU.mono (by repeat (first | exact View.le_refl _ | assumption | exact View.addU_le _ _ _ | refine View.le_trans ?_ (by assumption) | refine View.le_trans ?_ (View.addU_le _ _ _))) | exact hlT.mono (by repeat (first | exact View.le_refl _ | assumption | exact View.addU_le _ _ _ | refine View.le_trans ?_ (by assumption) | refine View.le_trans ?_ (View.addU_le _ _ _)))) (.inl ⟨rfl, rfl⟩) rfl rfl (ne_T p q) (ne_TU p q p2)) fun v V5 bs hV5 ⟨st, k', hv, hst, hf, hb5⟩ => ⟨85, picksC s k', hb5, ?_⟩
    subst hv
    obtain ⟨skind, stb, snm, s3, s4, s5, sit, sjoin, son, swh, sord, sdesc, sinn⟩ := st
    conv => whnf
    repeat' first
      | (refine br_t rfl ?_; conv => whnf)
      | (refine br_f rfl ?_; conv => whnf)
      | (refine IdxN.lit rfl rfl ?_; conv => whnf)
      | (intro _; conv => whnf)
    exact ⟨[0], by simp, [picks b s k'], rfl, ⟨skind, stb, snm, s3, s4, s5, sit, sjoin, son, swh, sord, sdesc, sinn⟩, k', rfl, ⟨p, q, p2, .inl hst⟩, hf, rfl⟩
  · subst hM
    repeat' first
      | (refine br_t rfl ?_; conv => whnf)
      | (refine br_f rfl ?_; conv => whnf)
      | (refine IdxN.lit rfl rfl ?_; conv => whnf)
      | (intro _; conv => whnf)
    refine LoadN.of (t1.mono (by repeat (first | exact View.le_refl _ | assumption | exact View.addU_le _ _ _ | refine View.le_trans ?_ (by assumption) | refine View.le_trans ?_ (View.addU_le _ _ _)))) 3 rfl rfl ?_
    conv => whnf
    repeat' first
      | (refine br_t rfl ?_; conv => whnf)
      | (refine br_f rfl ?_; conv => whnf)
      | (refine IdxN.lit rfl rfl ?_; conv => whnf)
      | (intro _; conv => whnf)
    rename_i b4
    refine CallN.news (colsP_spec (tU p2) _ (by first | exact hlT.mono (by repeat (first | exact View.le_refl _ | assumption | exact View.addU_le _ _ _ | refine View.le_trans ?_ (by assumption) | refine View.le_trans ?_ (View.addU_le _ _ _))) | exact hlU.mono (by repeat (first | exact View.le_refl _ | assumption | exact View.addU_le _ _ _ | refine View.le_trans ?_ (by assumption) | refine View.le_trans ?_ (View.addU_le _ _ _))))) fun v Vc bs hVc ⟨a, ac, c, cc, hv, hA, hC, hb⟩ => ⟨[(300, .row (.slice a 3 ac) 61 3 3), (301, .row (.slice c 3 cc) 3 1 3)], by rw [hb]; rfl, by simp, fun x hx => by (simp only [List.mem_cons, List.not_mem_nil, or_false] at hx; rcases hx with rfl | rfl <;> rfl), ?_⟩
    subst hv
    conv => whnf
    repeat' first
      | (refine br_t rfl ?_; conv => whnf)
      | (refine br_f rfl ?_; conv => whnf)
      | (refine IdxN.lit rfl rfl ?_; conv => whnf)
      | (intro _; conv => whnf)
    refine CallN.box 0 rfl (num_at b s 1 7 5 h1 (by omega) _ (hs.mono (by repeat (first | exact View.le_refl _ | assumption | exact View.addU_le _ _ _ | refine View.le_trans ?_ (by assumption) | refine View.le_trans ?_ (View.addU_le _ _ _))))) fun v V4 bs hV4 ⟨hv, hb4⟩ => ⟨85, picksC s ((1 + 1 : Nat) : Int), hb4, ?_⟩
    subst hv
    conv => whnf
    repeat' first
      | (refine br_t rfl ?_; conv => whnf)
      | (refine br_f rfl ?_; conv => whnf)
      | (refine IdxN.lit rfl rfl ?_; conv => whnf)
      | (intro _; conv => whnf)
    refine CallN.box 0 rfl (selected_spec b s 2 ⟨by decide, by omega⟩ r (tU p2) (tT p q) (tT p q) (tU p2) _ (hs.mono (by repeat (first | exact View.le_refl _ | assumption | exact View.addU_le _ _ _ | refine View.le_trans ?_ (by assumption) | refine View.le_trans ?_ (View.addU_le _ _ _)))) (show View.has _ r 0 (tvcells (tT p q) ++ tvcells (tU p2)) from (t1.mono (by repeat (first | exact View.le_refl _ | assumption | exact View.addU_le _ _ _ | refine View.le_trans ?_ (by assumption) | refine View.le_trans ?_ (View.addU_le _ _ _))))) (by first | exact hlT.mono (by repeat (first | exact View.le_refl _ | assumption | exact View.addU_le _ _ _ | refine View.le_trans ?_ (by assumption) | refine View.le_trans ?_ (View.addU_le _ _ _))) | exact hlU.mono (by repeat (first | exact View.le_refl _ | assumption | exact View.addU_le _ _ _ | refine View.le_trans ?_ (by assumption) | refine View.le_trans ?_ (View.addU_le _ _ _)))) (by first | exact hlU.mono (by repeat (first | exact View.le_refl _ | assumption | exact View.addU_le _ _ _ | refine View.le_trans ?_ (by assumption) | refine View.le_trans ?_ (View.addU_le _ _ _))) | exact hlT.mono (by repeat (first | exact View.le_refl _ | assumption | exact View.addU_le _ _ _ | refine View.le_trans ?_ (by assumption) | refine View.le_trans ?_ (View.addU_le _ _ _)))) (.inr ⟨rfl, rfl⟩) rfl rfl (ne_U p2) (ne_UT p q p2)) fun v V5 bs hV5 ⟨st, k', hv, hst, hf, hb5⟩ => ⟨85, picksC s k', hb5, ?_⟩
    subst hv
    obtain ⟨skind, stb, snm, s3, s4, s5, sit, sjoin, son, swh, sord, sdesc, sinn⟩ := st
    conv => whnf
    repeat' first
      | (refine br_t rfl ?_; conv => whnf)
      | (refine br_f rfl ?_; conv => whnf)
      | (refine IdxN.lit rfl rfl ?_; conv => whnf)
      | (intro _; conv => whnf)
    exact ⟨[0], by simp, [picks b s k'], rfl, ⟨skind, stb, snm, s3, s4, s5, sit, sjoin, son, swh, sord, sdesc, sinn⟩, k', rfl, ⟨p, q, p2, .inr hst⟩, hf, rfl⟩
end Go.Proofs.Ytenpginanhnkbaa
end

section
set_option linter.unusedSimpArgs false
set_option linter.unusedVariables false
namespace Go.Proofs.Ytenpginanhnkbaa
open Go.X
set_option maxRecDepth 100000

/-- what is chosen: a select and its tables -/
def Chose (V : View) (s : StV) (a b : Value) : Prop := ∃ t o : TabV, SelAt V t o s ∧ TabOk V t ∧ TabOk V o ∧ a = tabv t ∧ ((s.join = noText ∧ b = tE) ∨ (s.join = o.nm ∧ b = tabv o)) ∧ ((∃ p q p2, t = tT p q ∧ o = tU p2) ∨ ∃ p q p2, t = tU p2 ∧ o = tT p q)
theorem SelAt.change {V : View} {p q p2 p' q' p2' : Nat} {s : StV} (h : SelAt V (tT p q) (tU p2) s) : SelAt V (tT p' q') (tU p2') s := h
theorem SelAt.change2 {V : View} {p q p2 p' q' p2' : Nat} {s : StV} (h : SelAt V (tU p2) (tT p q) s) : SelAt V (tU p2') (tT p' q') s := h
theorem chosen_spec (s : Src) (V : View) (hs : s.ok V) (hl : s.l.length ≤ 80) :
    PSpec 30 [s.slice] V (fun v V' => (∃ st, v = .tuple #[stv st, tE, tE, .bool false]) ∨ ∃ st a b, v = .tuple #[stv st, a, b, .bool true] ∧ Chose V' st a b) := by
  obtain ⟨sb, sc, sl⟩ := s
  have hnum := hs.num
  have hhas := hs.has
  have hl0 : sl.length ≤ 80 := hl
  refine does_of_zfun [(7, [(0, []), (1, []), (2, []), (3, []), (4, []), (5, []), (6, [])])] mixed (args := [.v _]) (ms := []) Try.func30 (by kernel_rfl) rfl ?_
  conv => whnf
  repeat' first
    | (refine br_t rfl ?_; conv => whnf)
    | (refine br_f rfl ?_; conv => whnf)
    | (refine IdxN.lit rfl rfl ?_; conv => whnf)
    | (intro _; conv => whnf)
  rename_i b2 b3 b4
  refine CallN.pure (schema_spec _) fun v V2 _ hV2 ⟨r, p, q, p2, hv, t1, t2, t3⟩ => ?_
  subst hv
  conv => whnf
  repeat' first
    | (refine br_t rfl ?_; conv => whnf)
    | (refine br_f rfl ?_; conv => whnf)
    | (refine IdxN.lit rfl rfl ?_; conv => whnf)
    | (intro _; conv => whnf)
  rename_i b6
  have hlT : TabOk V2 (tT p q) := colsLie_T t2
  have hlU : TabOk V2 (tU p2) := colsLie_U t3
  refine CallN.pure (picks1_spec ⟨sb, sc, sl⟩ _ (hs.mono (by repeat (first | exact View.le_refl _ | assumption | exact View.addU_le _ _ _ | refine View.le_trans ?_ (by assumption) | refine View.le_trans ?_ (View.addU_le _ _ _))))) fun v V3 _ hV3 ⟨x, hv, hx0, hx1⟩ => ?_
  subst hv
  conv => whnf
  intro lb Vl hVl lk
  conv => whnf
  rcases sl with _ | ⟨y, l'⟩
  · refine AppVN.zero 9999 rfl (by decide) (by decide) ?_
    conv => whnf
    have hok : (⟨some ⟨lb, 0, none⟩, 2, [x, 5]⟩ : Src).ok Vl := ⟨fun _ => lk, fun z hz => by
      simp only [List.mem_cons, List.not_mem_nil, or_false] at hz
      rcases hz with rfl | rfl
      · exact ⟨hx0, hx1⟩
      · decide, by show 2 ≤ 1000000; decide⟩
    refine CallN.new 18 rfl (made_spec ((⟨some ⟨lb, 0, none⟩, 2, [x, 5]⟩ : Src)) _) fun v V5 bs hV5 ⟨bp, hv, hb⟩ => ⟨picks bp ((⟨some ⟨lb, 0, none⟩, 2, [x, 5]⟩ : Src)) 0, .own 18 0, hb, by subst hv; rfl, ?_⟩
    subst hv
    conv => whnf
    refine CallN.box 18 rfl (data_spec bp ((⟨some ⟨lb, 0, none⟩, 2, [x, 5]⟩ : Src)) x rfl rfl _ (hok.mono (by repeat (first | exact View.le_refl _ | assumption | exact View.addU_le _ _ _ | refine View.le_trans ?_ (by assumption) | refine View.le_trans ?_ (View.addU_le _ _ _))))) fun v V5b bs hV5b ⟨st, k', hv, ⟨p', q', p2', hsel⟩, hf, hb5⟩ => ⟨85, picksC ((⟨some ⟨lb, 0, none⟩, 2, [x, 5]⟩ : Src)) k', hb5, ?_⟩
    subst hv
    obtain ⟨skind, stb, snm, s3, s4, s5, sit, sjoin, son, swh, sord, sdesc, sinn⟩ := st
    rcases hsel with hsel | hsel
    · have hsel : SelAt V5b (tT p q) (tU p2) _ := hsel.change
      have hsel : SelAt _ (tT p q) (tU p2) _ := hsel
      have hlT' : TabOk V2 (tT p q) := by first | exact hlT | exact hlU
      have hlO' : TabOk V2 (tU p2) := by first | exact hlU | exact hlT
      have hk6 : skind = 6 := hsel.1
      have htb : stb = (tT p q).nm := hsel.2.1
      subst hk6; subst htb
      conv => whnf
      repeat' first
        | (refine br_t rfl ?_; conv => whnf)
        | (refine br_f rfl ?_; conv => whnf)
        | (refine IdxN.lit rfl rfl ?_; conv => whnf)
        | (intro _; conv => whnf)
      refine CallN.pure (checkT_spec ⟨6, _, snm, s3, s4, s5, sit, sjoin, son, swh, sord, sdesc, sinn⟩ r p q p2 _ (show View.has _ r 0 (tvcells (tT p q) ++ tvcells (tU p2)) from (t1.mono (by repeat (first | exact View.le_refl _ | assumption | exact View.addU_le _ _ _ | refine View.le_trans ?_ (by assumption) | refine View.le_trans ?_ (View.addU_le _ _ _))))) (hlT'.mono (by repeat (first | exact View.le_refl _ | assumption | exact View.addU_le _ _ _ | refine View.le_trans ?_ (by assumption) | refine View.le_trans ?_ (View.addU_le _ _ _)))) (hlO'.mono (by repeat (first | exact View.le_refl _ | assumption | exact View.addU_le _ _ _ | refine View.le_trans ?_ (by assumption) | refine View.le_trans ?_ (View.addU_le _ _ _)))) (hsel.mono (by repeat (first | exact View.le_refl _ | assumption | exact View.addU_le _ _ _ | refine View.le_trans ?_ (by assumption) | refine View.le_trans ?_ (View.addU_le _ _ _))))) fun v V6 _ hV6 ⟨e, hv⟩ => ?_
      subst hv
      conv => whnf
      repeat' first
        | (refine br_t rfl ?_; conv => whnf)
        | (refine br_f rfl ?_; conv => whnf)
        | (refine IdxN.lit rfl rfl ?_; conv => whnf)
        | (intro _; conv => whnf)
      apply br <;> intro g1 <;> conv => whnf
      · repeat' first
          | (refine br_t rfl ?_; conv => whnf)
          | (refine br_f rfl ?_; conv => whnf)
          | (refine IdxN.lit rfl rfl ?_; conv => whnf)
          | (intro _; conv => whnf)
        exact ret_pure (.inl ⟨⟨6, _, snm, s3, s4, s5, sit, sjoin, son, swh, sord, sdesc, sinn⟩, rfl⟩)
      repeat' first
        | (refine br_t rfl ?_; conv => whnf)
        | (refine br_f rfl ?_; conv => whnf)
        | (refine IdxN.lit rfl rfl ?_; conv => whnf)
        | (intro _; conv => whnf)
      refine CallN.pure (tableT_spec r p q p2 _ (t1.mono (by repeat (first | exact View.le_refl _ | assumption | exact View.addU_le _ _ _ | refine View.le_trans ?_ (by assumption) | refine View.le_trans ?_ (View.addU_le _ _ _))))) fun v V7 _ hV7 hv => ?_
      subst hv
      conv => whnf
      repeat' first
        | (refine br_t rfl ?_; conv => whnf)
        | (refine br_f rfl ?_; conv => whnf)
        | (refine IdxN.lit rfl rfl ?_; conv => whnf)
        | (intro _; conv => whnf)
      rcases hsel with ⟨_, _, hj⟩
      rcases hj with ⟨hj, hrest⟩ | ⟨hj, hrest⟩
      · have hj : sjoin = noText := hj
        subst hj
        refine CallN.pure (tableN_spec r p q p2 _ (t1.mono (by repeat (first | exact View.le_refl _ | assumption | exact View.addU_le _ _ _ | refine View.le_trans ?_ (by assumption) | refine View.le_trans ?_ (View.addU_le _ _ _))))) fun v V8 _ hV8 hv => ?_
        subst hv
        conv => whnf
        repeat' first
          | (refine br_t rfl ?_; conv => whnf)
          | (refine br_f rfl ?_; conv => whnf)
          | (refine IdxN.lit rfl rfl ?_; conv => whnf)
          | (intro _; conv => whnf)
        exact ret_pure (.inr ⟨⟨6, _, snm, s3, s4, s5, sit, noText, son, swh, sord, sdesc, sinn⟩, tabv (tT p q), tE, rfl, tT p q, tU p2, (show SelAt _ (tT p q) (tU p2) _ from ⟨rfl, rfl, .inl ⟨rfl, hrest⟩⟩).mono (by repeat (first | exact View.le_refl _ | assumption | exact View.addU_le _ _ _ | refine View.le_trans ?_ (by assumption) | refine View.le_trans ?_ (View.addU_le _ _ _))), hlT'.mono (by repeat (first | exact View.le_refl _ | assumption | exact View.addU_le _ _ _ | refine View.le_trans ?_ (by assumption) | refine View.le_trans ?_ (View.addU_le _ _ _))), hlO'.mono (by repeat (first | exact View.le_refl _ | assumption | exact View.addU_le _ _ _ | refine View.le_trans ?_ (by assumption) | refine View.le_trans ?_ (View.addU_le _ _ _))), rfl, .inl ⟨rfl, rfl⟩, .inl ⟨p, q, p2, rfl, rfl⟩⟩)
      · have hj : sjoin = (tU p2).nm := hj
        subst hj
        refine CallN.pure (tableU_spec r p q p2 _ (t1.mono (by repeat (first | exact View.le_refl _ | assumption | exact View.addU_le _ _ _ | refine View.le_trans ?_ (by assumption) | refine View.le_trans ?_ (View.addU_le _ _ _))))) fun v V8 _ hV8 hv => ?_
        subst hv
        conv => whnf
        repeat' first
          | (refine br_t rfl ?_; conv => whnf)
          | (refine br_f rfl ?_; conv => whnf)
          | (refine IdxN.lit rfl rfl ?_; conv => whnf)
          | (intro _; conv => whnf)
        exact ret_pure (.inr ⟨⟨6, _, snm, s3, s4, s5, sit, (tU p2).nm, son, swh, sord, sdesc, sinn⟩, tabv (tT p q), tabv (tU p2), rfl, tT p q, tU p2, (show SelAt _ (tT p q) (tU p2) _ from ⟨rfl, rfl, .inr ⟨rfl, hrest⟩⟩).mono (by repeat (first | exact View.le_refl _ | assumption | exact View.addU_le _ _ _ | refine View.le_trans ?_ (by assumption) | refine View.le_trans ?_ (View.addU_le _ _ _))), hlT'.mono (by repeat (first | exact View.le_refl _ | assumption | exact View.addU_le _ _ _ | refine View.le_trans ?_ (by assumption) | refine View.le_trans ?_ (View.addU_le _ _ _))), hlO'.mono (by repeat (first | exact View.le_refl _ | assumption | exact View.addU_le _ _ _ | refine View.le_trans ?_ (by assumption) | refine View.le_trans ?_ (View.addU_le _ _ _))), rfl, .inr ⟨rfl, rfl⟩, .inl ⟨p, q, p2, rfl, rfl⟩⟩)
    · have hsel : SelAt V5b (tU p2) (tT p q) _ := hsel.change2
      have hsel : SelAt _ (tU p2) (tT p q) _ := hsel
      have hlT' : TabOk V2 (tU p2) := by first | exact hlT | exact hlU
      have hlO' : TabOk V2 (tT p q) := by first | exact hlU | exact hlT
      have hk6 : skind = 6 := hsel.1
      have htb : stb = (tU p2).nm := hsel.2.1
      subst hk6; subst htb
      conv => whnf
      repeat' first
        | (refine br_t rfl ?_; conv => whnf)
        | (refine br_f rfl ?_; conv => whnf)
        | (refine IdxN.lit rfl rfl ?_; conv => whnf)
        | (intro _; conv => whnf)
      refine CallN.pure (checkU_spec ⟨6, _, snm, s3, s4, s5, sit, sjoin, son, swh, sord, sdesc, sinn⟩ r p q p2 _ (show View.has _ r 0 (tvcells (tT p q) ++ tvcells (tU p2)) from (t1.mono (by repeat (first | exact View.le_refl _ | assumption | exact View.addU_le _ _ _ | refine View.le_trans ?_ (by assumption) | refine View.le_trans ?_ (View.addU_le _ _ _))))) (hlT'.mono (by repeat (first | exact View.le_refl _ | assumption | exact View.addU_le _ _ _ | refine View.le_trans ?_ (by assumption) | refine View.le_trans ?_ (View.addU_le _ _ _)))) (hlO'.mono (by repeat (first | exact View.le_refl _ | assumption | exact View.addU_le _ _ _ | refine View.le_trans ?_ (by assumption) | refine View.le_trans ?_ (View.addU_le _ _ _)))) (hsel.mono (by repeat (first | exact View.le_refl _ | assumption | exact View.addU_le _ _ _ | refine View.le_trans ?_ (by assumption) | refine View.le_trans ?_ (View.addU_le _ _ _))))) fun v V6 _ hV6 ⟨e, hv⟩ => ?_
      subst hv
      conv => whnf
      repeat' first
        | (refine br_t rfl ?_; conv => whnf)
        | (refine br_f rfl ?_; conv => whnf)
        | (refine IdxN.lit rfl rfl ?_; conv => whnf)
        | (intro _; conv => whnf)
      apply br <;> intro g1 <;> conv => whnf
      · repeat' first
          | (refine br_t rfl ?_; conv => whnf)
          | (refine br_f rfl ?_; conv => whnf)
          | (refine IdxN.lit rfl rfl ?_; conv => whnf)
          | (intro _; conv => whnf)
        exact ret_pure (.inl ⟨⟨6, _, snm, s3, s4, s5, sit, sjoin, son, swh, sord, sdesc, sinn⟩, rfl⟩)
      repeat' first
        | (refine br_t rfl ?_; conv => whnf)
        | (refine br_f rfl ?_; conv => whnf)
        | (refine IdxN.lit rfl rfl ?_; conv => whnf)
        | (intro _; conv => whnf)
      refine CallN.pure (tableU_spec r p q p2 _ (t1.mono (by repeat (first | exact View.le_refl _ | assumption | exact View.addU_le _ _ _ | refine View.le_trans ?_ (by assumption) | refine View.le_trans ?_ (View.addU_le _ _ _))))) fun v V7 _ hV7 hv => ?_
      subst hv
      conv => whnf
      repeat' first
        | (refine br_t rfl ?_; conv => whnf)
        | (refine br_f rfl ?_; conv => whnf)
        | (refine IdxN.lit rfl rfl ?_; conv => whnf)
        | (intro _; conv => whnf)
      rcases hsel with ⟨_, _, hj⟩
      rcases hj with ⟨hj, hrest⟩ | ⟨hj, hrest⟩
      · have hj : sjoin = noText := hj
        subst hj
        refine CallN.pure (tableN_spec r p q p2 _ (t1.mono (by repeat (first | exact View.le_refl _ | assumption | exact View.addU_le _ _ _ | refine View.le_trans ?_ (by assumption) | refine View.le_trans ?_ (View.addU_le _ _ _))))) fun v V8 _ hV8 hv => ?_
        subst hv
        conv => whnf
        repeat' first
          | (refine br_t rfl ?_; conv => whnf)
          | (refine br_f rfl ?_; conv => whnf)
          | (refine IdxN.lit rfl rfl ?_; conv => whnf)
          | (intro _; conv => whnf)
        exact ret_pure (.inr ⟨⟨6, _, snm, s3, s4, s5, sit, noText, son, swh, sord, sdesc, sinn⟩, tabv (tU p2), tE, rfl, tU p2, tT p q, (show SelAt _ (tU p2) (tT p q) _ from ⟨rfl, rfl, .inl ⟨rfl, hrest⟩⟩).mono (by repeat (first | exact View.le_refl _ | assumption | exact View.addU_le _ _ _ | refine View.le_trans ?_ (by assumption) | refine View.le_trans ?_ (View.addU_le _ _ _))), hlT'.mono (by repeat (first | exact View.le_refl _ | assumption | exact View.addU_le _ _ _ | refine View.le_trans ?_ (by assumption) | refine View.le_trans ?_ (View.addU_le _ _ _))), hlO'.mono (by repeat (first | exact View.le_refl _ | assumption | exact View.addU_le _ _ _ | refine View.le_trans ?_ (by assumption) | refine View.le_trans ?_ (View.addU_le _ _ _))), rfl, .inl ⟨rfl, rfl⟩, .inr ⟨p, q, p2, rfl, rfl⟩⟩)
      · have hj : sjoin = (tT p q).nm := hj
        subst hj
        refine CallN.pure (tableT_spec r p q p2 _ (t1.mono (by repeat (first | exact View.le_refl _ | assumption | exact View.addU_le _ _ _ | refine View.le_trans ?_ (by assumption) | refine View.le_trans ?_ (View.addU_le _ _ _))))) fun v V8 _ hV8 hv => ?_
        subst hv
        conv => whnf
        repeat' first
          | (refine br_t rfl ?_; conv => whnf)
          | (refine br_f rfl ?_; conv => whnf)
          | (refine IdxN.lit rfl rfl ?_; conv => whnf)
          | (intro _; conv => whnf)
        exact ret_pure (.inr ⟨⟨6, _, snm, s3, s4, s5, sit, (tT p q).nm, son, swh, sord, sdesc, sinn⟩, tabv (tU p2), tabv (tT p q), rfl, tU p2, tT p q, (show SelAt _ (tU p2) (tT p q) _ from ⟨rfl, rfl, .inr ⟨rfl, hrest⟩⟩).mono (by repeat (first | exact View.le_refl _ | assumption | exact View.addU_le _ _ _ | refine View.le_trans ?_ (by assumption) | refine View.le_trans ?_ (View.addU_le _ _ _))), hlT'.mono (by repeat (first | exact View.le_refl _ | assumption | exact View.addU_le _ _ _ | refine View.le_trans ?_ (by assumption) | refine View.le_trans ?_ (View.addU_le _ _ _))), hlO'.mono (by repeat (first | exact View.le_refl _ | assumption | exact View.addU_le _ _ _ | refine View.le_trans ?_ (by assumption) | refine View.le_trans ?_ (View.addU_le _ _ _))), rfl, .inr ⟨rfl, rfl⟩, .inr ⟨p, q, p2, rfl, rfl⟩⟩)
  · have hlen : l'.length + 1 ≤ 80 := hl0
    refine AppVN.full 9999 rfl ?_
    refine AppF.to (x :: 5 :: y :: l').length (by simp only [List.length_cons]; omega) [.int .u8 x, .int .u8 5] ((y :: l').map fun z => Value.int .u8 z) lk rfl (.inr ((hhas (List.cons_ne_nil _ _)).mono (by repeat (first | exact View.le_refl _ | assumption | exact View.addU_le _ _ _ | refine View.le_trans ?_ (by assumption) | refine View.le_trans ?_ (View.addU_le _ _ _))))) (by rw [List.length_map]; exact (Nat.mul_one _).symm) (allOne_of fun v hv => by obtain ⟨z, _, rfl⟩ := List.mem_map.1 hv; rfl) (by simp only [List.length_cons]; omega) (by decide) fun base' cap' V4 hV4 hc4 _ => ?_
    conv => whnf
    have hok : (⟨base', cap', x :: 5 :: y :: l'⟩ : Src).ok V4 := ⟨fun _ => hc4, fun z hz => by
      rcases List.mem_cons.1 hz with rfl | hz
      · exact ⟨hx0, hx1⟩
      rcases List.mem_cons.1 hz with rfl | hz
      · decide
      exact hnum z hz, by show l'.length + 1 + 1 + 1 ≤ 1000000; omega⟩
    refine CallN.new 18 rfl (made_spec ((⟨base', cap', x :: 5 :: y :: l'⟩ : Src)) _) fun v V5 bs hV5 ⟨bp, hv, hb⟩ => ⟨picks bp ((⟨base', cap', x :: 5 :: y :: l'⟩ : Src)) 0, .own 18 0, hb, by subst hv; rfl, ?_⟩
    subst hv
    conv => whnf
    refine CallN.box 18 rfl (data_spec bp ((⟨base', cap', x :: 5 :: y :: l'⟩ : Src)) x rfl rfl _ (hok.mono (by repeat (first | exact View.le_refl _ | assumption | exact View.addU_le _ _ _ | refine View.le_trans ?_ (by assumption) | refine View.le_trans ?_ (View.addU_le _ _ _))))) fun v V5b bs hV5b ⟨st, k', hv, ⟨p', q', p2', hsel⟩, hf, hb5⟩ => ⟨85, picksC ((⟨base', cap', x :: 5 :: y :: l'⟩ : Src)) k', hb5, ?_⟩
    subst hv
    obtain ⟨skind, stb, snm, s3, s4, s5, sit, sjoin, son, swh, sord, sdesc, sinn⟩ := st
    rcases hsel with hsel | hsel
    · have hsel : SelAt V5b (tT p q) (tU p2) _ := hsel.change
      have hsel : SelAt _ (tT p q) (tU p2) _ := hsel
      have hlT' : TabOk V2 (tT p q) := by first | exact hlT | exact hlU
      have hlO' : TabOk V2 (tU p2) := by first | exact hlU | exact hlT
      have hk6 : skind = 6 := hsel.1
      have htb : stb = (tT p q).nm := hsel.2.1
      subst hk6; subst htb
      conv => whnf
      repeat' first
        | (refine br_t rfl ?_; conv => whnf)
        | (refine br_f rfl ?_; conv => whnf)
        | (refine IdxN.lit rfl rfl ?_; conv => whnf)
        | (intro _; conv => whnf)
      refine CallN.pure (checkT_spec ⟨6, _, snm, s3, s4, s5, sit, sjoin, son, swh, sord, sdesc, sinn⟩ r p q p2 _ (show View.has _ r 0 (tvcells (tT p q) ++ tvcells (tU p2)) from (t1.mono (by repeat (first | exact View.le_refl _ | assumption | exact View.addU_le _ _ _ | refine View.le_trans ?_ (by assumption) | refine View.le_trans ?_ (View.addU_le _ _ _))))) (hlT'.mono (by repeat (first | exact View.le_refl _ | assumption | exact View.addU_le _ _ _ | refine View.le_trans ?_ (by assumption) | refine View.le_trans ?_ (View.addU_le _ _ _)))) (hlO'.mono (by repeat (first | exact View.le_refl _ | assumption | exact View.addU_le _ _ _ | refine View.le_trans ?_ (by assumption) | refine View.le_trans ?_ (View.addU_le _ _ _)))) (hsel.mono (by repeat (first | exact View.le_refl _ | assumption | exact View.addU_le _ _ _ | refine View.le_trans ?_ (by assumption) | refine View.le_trans ?_ (View.addU_le _ _ _))))) fun v V6 _ hV6 ⟨e, hv⟩ => ?_
      subst hv
      conv => whnf
      repeat' first
        | (refine br_t rfl ?_; conv => whnf)
        | (refine br_f rfl ?_; conv => whnf)
        | (refine IdxN.lit rfl rfl ?_; conv => whnf)
        | (intro _; conv => whnf)
      apply br <;> intro g1 <;> conv => whnf
      · repeat' first
          | (refine br_t rfl ?_; conv => whnf)
          | (refine br_f rfl ?_; conv => whnf)
          | (refine IdxN.lit rfl rfl ?_; conv => whnf)
          | (intro _; conv => whnf)
        exact ret_pure (.inl ⟨⟨6, _, snm, s3, s4, s5, sit, sjoin, son, swh, sord, sdesc, sinn⟩, rfl⟩)
      repeat' first
        | (refine br_t rfl ?_; conv => whnf)
        | (refine br_f rfl ?_; conv => whnf)
        | (refine IdxN.lit rfl rfl ?_; conv => whnf)
        | (intro _; conv => whnf)
      refine CallN.pure (tableT_spec r p q p2 _ (t1.mono (by repeat (first | exact View.le_refl _ | assumption | exact View.addU_le _ _ _ | refine View.le_trans ?_ (by assumption) | refine View.le_trans ?_ (View.addU_le _ _ _))))) fun v V7 _ hV7 hv => ?_
      subst hv
      conv => whnf
      repeat' first
        | (refine br_t rfl ?_; conv => whnf)
        | (refine br_f rfl ?_; conv => whnf)
        | (refine IdxN.lit rfl rfl ?_; conv => whnf)
        | (intro _; conv => whnf)
      rcases hsel with ⟨_, _, hj⟩
      rcases hj with ⟨hj, hrest⟩ | ⟨hj, hrest⟩
      · have hj : sjoin = noText := hj
        subst hj
        refine CallN.pure (tableN_spec r p q p2 _ (t1.mono (by repeat (first | exact View.le_refl _ | assumption | exact View.addU_le _ _ _ | refine View.le_trans ?_ (by assumption) | refine View.le_trans ?_ (View.addU_le _ _ _))))) fun v V8 _ hV8 hv => ?_
        subst hv
        conv => whnf
        repeat' first
          | (refine br_t rfl ?_; conv => whnf)
          | (refine br_f rfl ?_; conv => whnf)
          | (refine IdxN.lit rfl rfl ?_; conv => whnf)
          | (intro _; conv => whnf)
        exact ret_pure (.inr ⟨⟨6, _, snm, s3, s4, s5, sit, noText, son, swh, sord, sdesc, sinn⟩, tabv (tT p q), tE, rfl, tT p q, tU p2, (show SelAt _ (tT p q) (tU p2) _ from ⟨rfl, rfl, .inl ⟨rfl, hrest⟩⟩).mono (by repeat (first | exact View.le_refl _ | assumption | exact View.addU_le _ _ _ | refine View.le_trans ?_ (by assumption) | refine View.le_trans ?_ (View.addU_le _ _ _))), hlT'.mono (by repeat (first | exact View.le_refl _ | assumption | exact View.addU_le _ _ _ | refine View.le_trans ?_ (by assumption) | refine View.le_trans ?_ (View.addU_le _ _ _))), hlO'.mono (by repeat (first | exact View.le_refl _ | assumption | exact View.addU_le _ _ _ | refine View.le_trans ?_ (by assumption) | refine View.le_trans ?_ (View.addU_le _ _ _))), rfl, .inl ⟨rfl, rfl⟩, .inl ⟨p, q, p2, rfl, rfl⟩⟩)
      · have hj : sjoin = (tU p2).nm := hj
        subst hj
        refine CallN.pure (tableU_spec r p q p2 _ (t1.mono (by repeat (first | exact View.le_refl _ | assumption | exact View.addU_le _ _ _ | refine View.le_trans ?_ (by assumption) | refine View.le_trans ?_ (View.addU_le _ _ _))))) fun v V8 _ hV8 hv => ?_
        subst hv
        conv => whnf
        repeat' first
          | (refine br_t rfl ?_; conv => whnf)
          | (refine br_f rfl ?_; conv => whnf)
          | (refine IdxN.lit rfl rfl ?_; conv => whnf)
          | (intro _; conv => whnf)
        exact ret_pure (.inr ⟨⟨6, _, snm, s3, s4, s5, sit, (tU p2).nm, son, swh, sord, sdesc, sinn⟩, tabv (tT p q), tabv (tU p2), rfl, tT p q, tU p2, (show SelAt _ (tT p q) (tU p2) _ from ⟨rfl, rfl, .inr ⟨rfl, hrest⟩⟩).mono (by repeat (first | exact View.le_refl _ | assumption | exact View.addU_le _ _ _ | refine View.le_trans ?_ (by assumption) | refine View.le_trans ?_ (View.addU_le _ _ _))), hlT'.mono (by repeat (first | exact View.le_refl _ | assumption | exact View.addU_le _ _ _ | refine View.le_trans ?_ (by assumption) | refine View.le_trans ?_ (View.addU_le _ _ _))), hlO'.mono (by repeat (first | exact View.le_refl _ | assumption | exact View.addU_le _ _ _ | refine View.le_trans ?_ (by assumption) | refine View.le_trans ?_ (View.addU_le _ _ _))), rfl, .inr ⟨rfl, rfl⟩, .inl ⟨p, q, p2, rfl, rfl⟩⟩)
    · have hsel : SelAt V5b (tU p2) (tT p q) _ := hsel.change2
      have hsel : SelAt _ (tU p2) (tT p q) _ := hsel
      have hlT' : TabOk V2 (tU p2) := by first | exact hlT | exact hlU
      have hlO' : TabOk V2 (tT p q) := by first | exact hlU | exact hlT
      have hk6 : skind = 6 := hsel.1
      have htb : stb = (tU p2).nm := hsel.2.1
      subst hk6; subst htb
      conv => whnf
      repeat' first
        | (refine br_t rfl ?_; conv => whnf)
        | (refine br_f rfl ?_; conv => whnf)
        | (refine IdxN.lit rfl rfl ?_; conv => whnf)
        | (intro _; conv => whnf)
      refine CallN.pure (checkU_spec ⟨6, _, snm, s3, s4, s5, sit, sjoin, son, swh, sord, sdesc, sinn⟩ r p q p2 _ (show View.has _ r 0 (tvcells (tT p q) ++ tvcells (tU p2)) from (t1.mono (by repeat (first | exact View.le_refl _ | assumption | exact View.addU_le _ _ _ | refine View.le_trans ?_ (by assumption) | refine View.le_trans ?_ (View.addU_le _ _ _))))) (hlT'.mono (by repeat (first | exact View.le_refl _ | assumption | exact View.addU_le _ _ _ | refine View.le_trans ?_ (by assumption) | refine View.le_trans ?_ (View.addU_le _ _ _)))) (hlO'.mono (by repeat (first | exact View.le_refl _ | assumption | exact View.addU_le _ _ _ | refine View.le_trans ?_ (by assumption) | refine View.le_trans ?_ (View.addU_le _ _ _)))) (hsel.mono (by repeat (first | exact View.le_refl _ | assumption | exact View.addU_le _ _ _ | refine View.le_trans ?_ (by assumption) | refine View.le_trans ?_ (View.addU_le _ _ _))))) fun v V6 _ hV6 ⟨e, hv⟩ => ?_
      subst hv
      conv => whnf
      repeat' first
        | (refine br_t rfl ?_; conv => whnf)
        | (refine br_f rfl ?_; conv => whnf)
        | (refine IdxN.lit rfl rfl ?_; conv => whnf)
        | (intro _; conv => whnf)
      apply br <;> intro g1 <;> conv => whnf
      · repeat' first
          | (refine br_t rfl ?_; conv => whnf)
          | (refine br_f rfl ?_; conv => whnf)
          | (refine IdxN.lit rfl rfl ?_; conv => whnf)
          | (intro _; conv => whnf)
        exact ret_pure (.inl ⟨⟨6, _, snm, s3, s4, s5, sit, sjoin, son, swh, sord, sdesc, sinn⟩, rfl⟩)
      repeat' first
        | (refine br_t rfl ?_; conv => whnf)
        | (refine br_f rfl ?_; conv => whnf)
        | (refine IdxN.lit rfl rfl ?_; conv => whnf)
        | (intro _; conv => whnf)
      refine CallN.pure (tableU_spec r p q p2 _ (t1.mono (by repeat (first | exact View.le_refl _ | assumption | exact View.addU_le _ _ _ | refine View.le_trans ?_ (by assumption) | refine View.le_trans ?_ (View.addU_le _ _ _))))) fun v V7 _ hV7 hv => ?_
      subst hv
      conv => whnf
      repeat' first
        | (refine br_t rfl ?_; conv => whnf)
        | (refine br_f rfl ?_; conv => whnf)
        | (refine IdxN.lit rfl rfl ?_; conv => whnf)
        | (intro _; conv => whnf)
      rcases hsel with ⟨_, _, hj⟩
      rcases hj with ⟨hj, hrest⟩ | ⟨hj, hrest⟩
      · have hj : sjoin = noText := hj
        subst hj
        refine CallN.pure (tableN_spec r p q p2 _ (t1.mono (by repeat (first | exact View.le_refl _ | assumption | exact View.addU_le _ _ _ | refine View.le_trans ?_ (by assumption) | refine View.le_trans ?_ (View.addU_le _ _ _))))) fun v V8 _ hV8 hv => ?_
        subst hv
        conv => whnf
        repeat' first
          | (refine br_t rfl ?_; conv => whnf)
          | (refine br_f rfl ?_; conv => whnf)
          | (refine IdxN.lit rfl rfl ?_; conv => whnf)
          | (intro _; conv => whnf)
        exact ret_pure (.inr ⟨⟨6, _, snm, s3, s4, s5, sit, noText, son, swh, sord, sdesc, sinn⟩, tabv (tU p2), tE, rfl, tU p2, tT p q, (show SelAt _ (tU p2) (tT p q) _ from ⟨rfl, rfl, .inl ⟨rfl, hrest⟩⟩).mono (by repeat (first | exact View.le_refl _ | assumption | exact View.addU_le _ _ _ | refine View.le_trans ?_ (by assumption) | refine View.le_trans ?_ (View.addU_le _ _ _))), hlT'.mono (by repeat (first | exact View.le_refl _ | assumption | exact View.addU_le _ _ _ | refine View.le_trans ?_ (by assumption) | refine View.le_trans ?_ (View.addU_le _ _ _))), hlO'.mono (by repeat (first | exact View.le_refl _ | assumption | exact View.addU_le _ _ _ | refine View.le_trans ?_ (by assumption) | refine View.le_trans ?_ (View.addU_le _ _ _))), rfl, .inl ⟨rfl, rfl⟩, .inr ⟨p, q, p2, rfl, rfl⟩⟩)
      · have hj : sjoin = (tT p q).nm := hj
        subst hj
        refine CallN.pure (tableT_spec r p q p2 _ (t1.mono (by repeat (first | exact View.le_refl _ | assumption | exact View.addU_le _ _ _ | refine View.le_trans ?_ (by assumption) | refine View.le_trans ?_ (View.addU_le _ _ _))))) fun v V8 _ hV8 hv => ?_
        subst hv
        conv => whnf
        repeat' first
          | (refine br_t rfl ?_; conv => whnf)
          | (refine br_f rfl ?_; conv => whnf)
          | (refine IdxN.lit rfl rfl ?_; conv => whnf)
          | (intro _; conv => whnf)
        exact ret_pure (.inr ⟨⟨6, _, snm, s3, s4, s5, sit, (tT p q).nm, son, swh, sord, sdesc, sinn⟩, tabv (tU p2), tabv (tT p q), rfl, tU p2, tT p q, (show SelAt _ (tU p2) (tT p q) _ from ⟨rfl, rfl, .inr ⟨rfl, hrest⟩⟩).mono (by repeat (first | exact View.le_refl _ | assumption | exact View.addU_le _ _ _ | refine View.le_trans ?_ (by assumption) | refine View.le_trans ?_ (View.addU_le _ _ _))), hlT'.mono (by repeat (first | exact View.le_refl _ | assumption | exact View.addU_le _ _ _ | refine View.le_trans ?_ (by assumption) | refine View.le_trans ?_ (View.addU_le _ _ _))), hlO'.mono (by repeat (first | exact View.le_refl _ | assumption | exact View.addU_le _ _ _ | refine View.le_trans ?_ (by assumption) | refine View.le_trans ?_ (View.addU_le _ _ _))), rfl, .inr ⟨rfl, rfl⟩, .inr ⟨p, q, p2, rfl, rfl⟩⟩)
end Go.Proofs.Ytenpginanhnkbaa
end
