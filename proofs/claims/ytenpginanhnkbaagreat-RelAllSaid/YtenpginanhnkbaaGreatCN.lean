/- One part of a proof: an evaluator of the model, shown right, and contracts that it yields. No condition beyond those that each theorem names. -/
import Derived.Test.YtenpginanhnkbaaGreatCM
import Derived.Test.YtenpginanhnkbaaGreatCD
import Derived.Test.YtenpginanhnkbaaGreatCG
import Derived.Test.YtenpginanhnkbaaGreatCL
section
set_option linter.unusedSimpArgs false
set_option linter.unusedVariables false
namespace Go.Proofs.YtenpginanhnkbaaGreat
open Go.X
set_option maxRecDepth 100000
theorem checkT_spec (s : StV) (r p q p2 : Nat) (V : View) (hr : V.has r 0 (tvcells (tT p q) ++ tvcells (tU p2))) (ht : TabOk V (tT p q)) (ho : TabOk V (tU p2)) (hsel : SelAt V (tT p q) (tU p2) s) :
  PSpec 15 [tv3 r, stv s] V (fun v V' => ∃ e, v = .int .i64 e ∧ (e = 0 → SelOk V' (if s.join = noText then itemsOf (tT p q) else itemsOf (tT p q) ++ itemsOf (tU p2)) s)) := by
 have hk : s.kind = 6 := hsel.1
 have hl := hsel.lists
 have h2 : s.tb = (tT p q).nm := hsel.2.1
 have hls := fun V1 (hV : V.le V1) => lists_spec s V1 hk (hl.1.mono hV) (hl.2.mono hV)
 have hss := fun V1 (hV : V.le V1) => rselT_spec s r p q p2 V1 (hr.mono hV) (ht.mono hV) (ho.mono hV) (hsel.mono hV)
 obtain ⟨skind, stb, snm, s3, s4, s5, sit, sjoin, son, swh, sord, sdesc, sinn⟩ := s
 have hk : skind = 6 := hk
 have h2 : stb = (tT p q).nm := h2
 subst hk; subst h2
 refine does_of_zfun [(6, [(0, []), (1, []), (2, []), (3, []), (4, []), (5, []), (6, [])])] mixed (args := [.v _, .v _]) (ms := []) Tryz.func15 (by kernel_rfl) rfl ?_; conv => whnf
 repeat' ((first | refine br_t rfl ?_ | refine br_f rfl ?_ | refine IdxN.lit rfl rfl ?_ | intro _); conv => whnf)
 refine CallN.pure (hls _ le_auto) fun v V1 _ hV1 ⟨b1, hv⟩ => ?_
 subst hv; conv => whnf
 apply br <;> intro g1 <;> conv => whnf
 ·repeat' ((first | refine br_t rfl ?_ | refine br_f rfl ?_ | refine IdxN.lit rfl rfl ?_ | intro _); conv => whnf)
  exact ret_pure ⟨_, rfl, fun h => absurd h (by decide)⟩
 repeat' ((first | refine br_t rfl ?_ | refine br_f rfl ?_ | refine IdxN.lit rfl rfl ?_ | intro _); conv => whnf)
 refine CallN.pure (tableT_spec r p q p2 _ (hr.mono le_auto)) fun v V2 _ hV2 hv => ?_
 subst hv; conv => whnf
 repeat' ((first | refine br_t rfl ?_ | refine br_f rfl ?_ | refine IdxN.lit rfl rfl ?_ | intro _); conv => whnf)
 refine CallN.pure (hss _ le_auto) fun v V3 _ hV3 ⟨e, hv, hok⟩ => ?_
 subst hv; conv => whnf
 repeat' ((first | refine br_t rfl ?_ | refine br_f rfl ?_ | refine IdxN.lit rfl rfl ?_ | intro _); conv => whnf)
 exact ret_pure ⟨_, rfl, hok⟩
theorem checkU_spec (s : StV) (r p q p2 : Nat) (V : View) (hr : V.has r 0 (tvcells (tT p q) ++ tvcells (tU p2))) (ht : TabOk V (tU p2)) (ho : TabOk V (tT p q)) (hsel : SelAt V (tU p2) (tT p q) s) :
  PSpec 15 [tv3 r, stv s] V (fun v V' => ∃ e, v = .int .i64 e ∧ (e = 0 → SelOk V' (if s.join = noText then itemsOf (tU p2) else itemsOf (tU p2) ++ itemsOf (tT p q)) s)) := by
 have hk : s.kind = 6 := hsel.1
 have hl := hsel.lists
 have h2 : s.tb = (tU p2).nm := hsel.2.1
 have hls := fun V1 (hV : V.le V1) => lists_spec s V1 hk (hl.1.mono hV) (hl.2.mono hV)
 have hss := fun V1 (hV : V.le V1) => rselU_spec s r p q p2 V1 (hr.mono hV) (ht.mono hV) (ho.mono hV) (hsel.mono hV)
 obtain ⟨skind, stb, snm, s3, s4, s5, sit, sjoin, son, swh, sord, sdesc, sinn⟩ := s
 have hk : skind = 6 := hk
 have h2 : stb = (tU p2).nm := h2
 subst hk; subst h2
 refine does_of_zfun [(6, [(0, []), (1, []), (2, []), (3, []), (4, []), (5, []), (6, [])])] mixed (args := [.v _, .v _]) (ms := []) Tryz.func15 (by kernel_rfl) rfl ?_; conv => whnf
 repeat' ((first | refine br_t rfl ?_ | refine br_f rfl ?_ | refine IdxN.lit rfl rfl ?_ | intro _); conv => whnf)
 refine CallN.pure (hls _ le_auto) fun v V1 _ hV1 ⟨b1, hv⟩ => ?_
 subst hv; conv => whnf
 apply br <;> intro g1 <;> conv => whnf
 ·repeat' ((first | refine br_t rfl ?_ | refine br_f rfl ?_ | refine IdxN.lit rfl rfl ?_ | intro _); conv => whnf)
  exact ret_pure ⟨_, rfl, fun h => absurd h (by decide)⟩
 repeat' ((first | refine br_t rfl ?_ | refine br_f rfl ?_ | refine IdxN.lit rfl rfl ?_ | intro _); conv => whnf)
 refine CallN.pure (tableU_spec r p q p2 _ (hr.mono le_auto)) fun v V2 _ hV2 hv => ?_
 subst hv; conv => whnf
 repeat' ((first | refine br_t rfl ?_ | refine br_f rfl ?_ | refine IdxN.lit rfl rfl ?_ | intro _); conv => whnf)
 refine CallN.pure (hss _ le_auto) fun v V3 _ hV3 ⟨e, hv, hok⟩ => ?_
 subst hv; conv => whnf
 repeat' ((first | refine br_t rfl ?_ | refine br_f rfl ?_ | refine IdxN.lit rfl rfl ?_ | intro _); conv => whnf)
 exact ret_pure ⟨_, rfl, hok⟩
theorem ne_T (p q : Nat) : ∀ kd, kd = 1 ∨ kd = 2 → colsOf kd (itemsOf (tT p q)) (kindsOf (tT p q)) ≠ [] := by
 rintro kd (rfl | rfl) h <;> cases h
theorem ne_U (p : Nat) : ∀ kd, kd = 1 ∨ kd = 2 → colsOf kd (itemsOf (tU p)) (kindsOf (tU p)) ≠ [] := by
 rintro kd (rfl | rfl) h <;> cases h
theorem ne_TU (p q p2 : Nat) : ∀ kd, kd = 1 ∨ kd = 2 → colsOf kd (itemsOf (tT p q) ++ itemsOf (tU p2)) (kindsOf (tT p q) ++ kindsOf (tU p2)) ≠ [] := by
 rintro kd (rfl | rfl) h <;> cases h
theorem ne_UT (p q p2 : Nat) : ∀ kd, kd = 1 ∨ kd = 2 → colsOf kd (itemsOf (tU p2) ++ itemsOf (tT p q)) (kindsOf (tU p2) ++ kindsOf (tT p q)) ≠ [] := by
 rintro kd (rfl | rfl) h <;> cases h
/-- of either table first -/
def SelE (V : View) (s : StV) : Prop := ∃ p q p2, SelAt V (tT p q) (tU p2) s ∨ SelAt V (tU p2) (tT p q) s
set_option maxHeartbeats 4000000 in
theorem data_spec (b : Nat) (s : Src) (x : Int) (h0 : s.l[0]? = some x) (h1 : s.l[1]? = some 5) (V : View) (hs : s.ok V) :
  Does Tryz.prog 14 [.pointer (some ⟨b, 0, none⟩)] V [picks b s 0] (fun v V' bs => ∃ st k', v = stv st ∧ SelE V' st ∧ FarOk s k' ∧ bs = [picks b s k']) := by
 have hx := hs.num x (List.mem_of_getElem? h0)
 have hlen : 2 ≤ s.l.length := (List.getElem?_eq_some_iff.1 h1).1
 refine does_of_zfun [(2, [(0, []), (1, []), (2, []), (3, [6]), (4, []), (5, []), (6, []), (7, [])]), (12, [(0, []), (1, []), (2, []), (3, []), (4, []), (5, []), (6, []), (7, []), (8, []), (9, []), (10, []), (11, []), (12, []), (13, []), (14, [])]), (15, [(0, []), (1, []), (2, []), (3, []), (4, []), (5, [8]), (6, [8]), (7, []), (8, []), (9, [])]), (21, [(0, []), (1, []), (2, []), (3, []), (4, []), (5, []), (6, []), (7, [])])] mixed (args := [.own 0 0]) (ms := [(0, picks b s 0)]) Tryz.func14 (by kernel_rfl) rfl ?_; conv => whnf
 repeat' ((first | refine br_t rfl ?_ | refine br_f rfl ?_ | refine IdxN.lit rfl rfl ?_ | intro _); conv => whnf)
 rename_i b2
 refine CallN.pure (schema_spec _) fun v V2 _ hV2 ⟨r, p, q, p2, hv, t1, t2, t3⟩ => ?_
 subst hv; conv => whnf
 repeat' ((first | refine br_t rfl ?_ | refine br_f rfl ?_ | refine IdxN.lit rfl rfl ?_ | intro _); conv => whnf)
 refine CallN.box 0 rfl (num_at b s 0 2 x h0 (by omega) _ (hs.mono le_auto)) fun v V3 bs hV3 ⟨hv, hb3⟩ => ⟨92, picksC s ((0 + 1 : Nat) : Int), hb3, ?_⟩
 subst hv
 refine Prot.box rfl rfl ?_; conv => whnf
 have hM : x.tmod 2 = 0 ∨ x.tmod 2 = 1 := by rw [Int.tmod_eq_emod_of_nonneg hx.1]; omega
 generalize x.tmod 2 = M at *
 have hlT : TabOk V2 (tT p q) := colsLie_T t2
 have hlU : TabOk V2 (tU p2) := colsLie_U t3
 rcases hM with hM | hM
 ·subst hM
  repeat' ((first | refine br_t rfl ?_ | refine br_f rfl ?_ | refine IdxN.lit rfl rfl ?_ | intro _); conv => whnf)
  refine LoadN.of (t1.mono le_auto) 0 rfl rfl ?_; conv => whnf
  repeat' ((first | refine br_t rfl ?_ | refine br_f rfl ?_ | refine IdxN.lit rfl rfl ?_ | intro _); conv => whnf)
  rename_i b4
  refine CallN.news (colsP_spec (tT p q) _ (by first | exact hlT.mono le_auto | exact hlU.mono le_auto)) fun v Vc bs hVc ⟨a, ac, c, cc, hv, hA, hC, hb⟩ => ⟨[(300, .row (.slice a 3 ac) 68 3 3), (301, .row (.slice c 3 cc) 3 1 3)], by rw [hb]; rfl, by simp, fun x hx => by (simp only [List.mem_cons, List.not_mem_nil, or_false] at hx; rcases hx with rfl | rfl <;> rfl), ?_⟩
  subst hv; conv => whnf
  repeat' ((first | refine br_t rfl ?_ | refine br_f rfl ?_ | refine IdxN.lit rfl rfl ?_ | intro _); conv => whnf)
  refine CallN.box 0 rfl (num_at b s 1 7 5 h1 (by omega) _ (hs.mono le_auto)) fun v V4 bs hV4 ⟨hv, hb4⟩ => ⟨92, picksC s ((1 + 1 : Nat) : Int), hb4, ?_⟩
  subst hv; conv => whnf
  repeat' ((first | refine br_t rfl ?_ | refine br_f rfl ?_ | refine IdxN.lit rfl rfl ?_ | intro _); conv => whnf)
  refine CallN.box 0 rfl (selected_spec b s 2 ⟨by decide, by omega⟩ r (tT p q) (tU p2) (tT p q) (tU p2) _ (hs.mono le_auto) (show View.has _ r 0 (tvcells (tT p q) ++ tvcells (tU p2)) from (t1.mono le_auto)) (by first | exact hlT.mono le_auto | exact hlU.mono le_auto) (by first | exact hlU.mono le_auto | exact hlT.mono le_auto) (.inl ⟨rfl, rfl⟩) rfl rfl (ne_T p q) (ne_TU p q p2)) fun v V5 bs hV5 ⟨st, k', hv, hst, hf, hb5⟩ => ⟨92, picksC s k', hb5, ?_⟩
  subst hv
  obtain ⟨skind, stb, snm, s3, s4, s5, sit, sjoin, son, swh, sord, sdesc, sinn⟩ := st
  conv => whnf
  repeat' ((first | refine br_t rfl ?_ | refine br_f rfl ?_ | refine IdxN.lit rfl rfl ?_ | intro _); conv => whnf)
  exact ⟨[0], by simp, [picks b s k'], rfl, ⟨skind, stb, snm, s3, s4, s5, sit, sjoin, son, swh, sord, sdesc, sinn⟩, k', rfl, ⟨p, q, p2, .inl hst⟩, hf, rfl⟩
 ·subst hM
  repeat' ((first | refine br_t rfl ?_ | refine br_f rfl ?_ | refine IdxN.lit rfl rfl ?_ | intro _); conv => whnf)
  refine LoadN.of (t1.mono le_auto) 3 rfl rfl ?_; conv => whnf
  repeat' ((first | refine br_t rfl ?_ | refine br_f rfl ?_ | refine IdxN.lit rfl rfl ?_ | intro _); conv => whnf)
  rename_i b4
  refine CallN.news (colsP_spec (tU p2) _ (by first | exact hlT.mono le_auto | exact hlU.mono le_auto)) fun v Vc bs hVc ⟨a, ac, c, cc, hv, hA, hC, hb⟩ => ⟨[(300, .row (.slice a 3 ac) 68 3 3), (301, .row (.slice c 3 cc) 3 1 3)], by rw [hb]; rfl, by simp, fun x hx => by (simp only [List.mem_cons, List.not_mem_nil, or_false] at hx; rcases hx with rfl | rfl <;> rfl), ?_⟩
  subst hv; conv => whnf
  repeat' ((first | refine br_t rfl ?_ | refine br_f rfl ?_ | refine IdxN.lit rfl rfl ?_ | intro _); conv => whnf)
  refine CallN.box 0 rfl (num_at b s 1 7 5 h1 (by omega) _ (hs.mono le_auto)) fun v V4 bs hV4 ⟨hv, hb4⟩ => ⟨92, picksC s ((1 + 1 : Nat) : Int), hb4, ?_⟩
  subst hv; conv => whnf
  repeat' ((first | refine br_t rfl ?_ | refine br_f rfl ?_ | refine IdxN.lit rfl rfl ?_ | intro _); conv => whnf)
  refine CallN.box 0 rfl (selected_spec b s 2 ⟨by decide, by omega⟩ r (tU p2) (tT p q) (tT p q) (tU p2) _ (hs.mono le_auto) (show View.has _ r 0 (tvcells (tT p q) ++ tvcells (tU p2)) from (t1.mono le_auto)) (by first | exact hlT.mono le_auto | exact hlU.mono le_auto) (by first | exact hlU.mono le_auto | exact hlT.mono le_auto) (.inr ⟨rfl, rfl⟩) rfl rfl (ne_U p2) (ne_UT p q p2)) fun v V5 bs hV5 ⟨st, k', hv, hst, hf, hb5⟩ => ⟨92, picksC s k', hb5, ?_⟩
  subst hv
  obtain ⟨skind, stb, snm, s3, s4, s5, sit, sjoin, son, swh, sord, sdesc, sinn⟩ := st
  conv => whnf
  repeat' ((first | refine br_t rfl ?_ | refine br_f rfl ?_ | refine IdxN.lit rfl rfl ?_ | intro _); conv => whnf)
  exact ⟨[0], by simp, [picks b s k'], rfl, ⟨skind, stb, snm, s3, s4, s5, sit, sjoin, son, swh, sord, sdesc, sinn⟩, k', rfl, ⟨p, q, p2, .inr hst⟩, hf, rfl⟩
/-- what is chosen: a select and its tables -/
def Chose (V : View) (s : StV) (a b : Value) : Prop := ∃ t o : TabV, SelAt V t o s ∧ TabOk V t ∧ TabOk V o ∧ a = tabv t ∧ ((s.join = noText ∧ b = tE) ∨ (s.join = o.nm ∧ b = tabv o)) ∧ SelOk V (if s.join = noText then itemsOf t else itemsOf t ++ itemsOf o) s ∧ ((∃ p q p2, t = tT p q ∧ o = tU p2) ∨ ∃ p q p2, t = tU p2 ∧ o = tT p q)
theorem SelAt.change {V : View} {p q p2 p' q' p2' : Nat} {s : StV} (h : SelAt V (tT p q) (tU p2) s) : SelAt V (tT p' q') (tU p2') s := h
theorem SelAt.change2 {V : View} {p q p2 p' q' p2' : Nat} {s : StV} (h : SelAt V (tU p2) (tT p q) s) : SelAt V (tU p2') (tT p' q') s := h
set_option maxHeartbeats 4000000 in
theorem chosen_spec (s : Src) (V : View) (hs : s.ok V) (hl : s.l.length ≤ 80) :
  PSpec 5 [s.slice] V (fun v V' => (∃ st, v = .tuple #[stv st, tE, tE, .bool false]) ∨ ∃ st a b, v = .tuple #[stv st, a, b, .bool true] ∧ Chose V' st a b) := by
 obtain ⟨sb, sc, sl⟩ := s
 have hnum := hs.num
 have hhas := hs.has
 have hl0 : sl.length ≤ 80 := hl
 refine does_of_zfun [(7, [(0, []), (1, []), (2, []), (3, []), (4, []), (5, []), (6, [])])] mixed (args := [.v _]) (ms := []) Tryz.func5 (by kernel_rfl) rfl ?_; conv => whnf
 repeat' ((first | refine br_t rfl ?_ | refine br_f rfl ?_ | refine IdxN.lit rfl rfl ?_ | intro _); conv => whnf)
 rename_i b2 b3 b4
 refine CallN.pure (schema_spec _) fun v V2 _ hV2 ⟨r, p, q, p2, hv, t1, t2, t3⟩ => ?_
 subst hv; conv => whnf
 repeat' ((first | refine br_t rfl ?_ | refine br_f rfl ?_ | refine IdxN.lit rfl rfl ?_ | intro _); conv => whnf)
 rename_i b6
 have hlT : TabOk V2 (tT p q) := colsLie_T t2
 have hlU : TabOk V2 (tU p2) := colsLie_U t3
 refine CallN.pure (picks1_spec ⟨sb, sc, sl⟩ _ (hs.mono le_auto)) fun v V3 _ hV3 ⟨x, hv, hx0, hx1⟩ => ?_
 subst hv; conv => whnf
 intro lb Vl hVl lk
 conv => whnf
 rcases sl with _ | ⟨y, l'⟩
 ·refine AppVN.zero 9999 rfl (by decide) (by decide) ?_; conv => whnf
  have hok : (⟨some ⟨lb, 0, none⟩, 2, [x, 5]⟩ : Src).ok Vl := ⟨fun _ => lk, fun z hz => by
   simp only [List.mem_cons, List.not_mem_nil, or_false] at hz
   rcases hz with rfl | rfl
   ·exact ⟨hx0, hx1⟩
   ·decide, by show 2 ≤ 1000000; decide⟩
  refine CallN.new 18 rfl (made_spec ((⟨some ⟨lb, 0, none⟩, 2, [x, 5]⟩ : Src)) _) fun v V5 bs hV5 ⟨bp, hv, hb⟩ => ⟨picks bp ((⟨some ⟨lb, 0, none⟩, 2, [x, 5]⟩ : Src)) 0, .own 18 0, hb, by subst hv; rfl, ?_⟩
  subst hv; conv => whnf
  refine CallN.box 18 rfl (data_spec bp ((⟨some ⟨lb, 0, none⟩, 2, [x, 5]⟩ : Src)) x rfl rfl _ (hok.mono le_auto)) fun v V5b bs hV5b ⟨st, k', hv, ⟨p', q', p2', hsel⟩, hf, hb5⟩ => ⟨92, picksC ((⟨some ⟨lb, 0, none⟩, 2, [x, 5]⟩ : Src)) k', hb5, ?_⟩
  subst hv
  obtain ⟨skind, stb, snm, s3, s4, s5, sit, sjoin, son, swh, sord, sdesc, sinn⟩ := st
  rcases hsel with hsel | hsel
  ·have hsel : SelAt V5b (tT p q) (tU p2) _ := hsel.change
   have hsel : SelAt _ (tT p q) (tU p2) _ := hsel
   have hlT' : TabOk V2 (tT p q) := by first | exact hlT | exact hlU
   have hlO' : TabOk V2 (tU p2) := by first | exact hlU | exact hlT
   have hk6 : skind = 6 := hsel.1
   have htb : stb = (tT p q).nm := hsel.2.1
   subst hk6; subst htb
   conv => whnf
   repeat' ((first | refine br_t rfl ?_ | refine br_f rfl ?_ | refine IdxN.lit rfl rfl ?_ | intro _); conv => whnf)
   refine CallN.pure (checkT_spec ⟨6, _, snm, s3, s4, s5, sit, sjoin, son, swh, sord, sdesc, sinn⟩ r p q p2 _ (show View.has _ r 0 (tvcells (tT p q) ++ tvcells (tU p2)) from (t1.mono le_auto)) (hlT'.mono le_auto) (hlO'.mono le_auto) (hsel.mono le_auto)) fun v V6 _ hV6 ⟨e, hv, hsok⟩ => ?_
   subst hv; conv => whnf
   repeat' ((first | refine br_t rfl ?_ | refine br_f rfl ?_ | refine IdxN.lit rfl rfl ?_ | intro _); conv => whnf)
   apply br <;> intro g1 <;> conv => whnf
   ·repeat' ((first | refine br_t rfl ?_ | refine br_f rfl ?_ | refine IdxN.lit rfl rfl ?_ | intro _); conv => whnf)
    exact ret_pure (.inl ⟨⟨6, _, snm, s3, s4, s5, sit, sjoin, son, swh, sord, sdesc, sinn⟩, rfl⟩)
   repeat' ((first | refine br_t rfl ?_ | refine br_f rfl ?_ | refine IdxN.lit rfl rfl ?_ | intro _); conv => whnf)
   refine CallN.pure (tableT_spec r p q p2 _ (t1.mono le_auto)) fun v V7 _ hV7 hv => ?_
   subst hv; conv => whnf
   repeat' ((first | refine br_t rfl ?_ | refine br_f rfl ?_ | refine IdxN.lit rfl rfl ?_ | intro _); conv => whnf)
   rcases hsel with ⟨_, _, hj⟩
   rcases hj with ⟨hj, hrest⟩ | ⟨hj, hrest⟩
   ·have hj : sjoin = noText := hj
    subst hj
    refine CallN.pure (tableN_spec r p q p2 _ (t1.mono le_auto)) fun v V8 _ hV8 hv => ?_
    subst hv; conv => whnf
    repeat' ((first | refine br_t rfl ?_ | refine br_f rfl ?_ | refine IdxN.lit rfl rfl ?_ | intro _); conv => whnf)
    exact ret_pure (.inr ⟨⟨6, _, snm, s3, s4, s5, sit, noText, son, swh, sord, sdesc, sinn⟩, tabv (tT p q), tE, rfl, tT p q, tU p2, (show SelAt _ (tT p q) (tU p2) _ from ⟨rfl, rfl, .inl ⟨rfl, hrest⟩⟩).mono le_auto, hlT'.mono le_auto, hlO'.mono le_auto, rfl, .inl ⟨rfl, rfl⟩, (hsok (by simpa using g1)).mono le_auto, .inl ⟨p, q, p2, rfl, rfl⟩⟩)
   ·have hj : sjoin = (tU p2).nm := hj
    subst hj
    refine CallN.pure (tableU_spec r p q p2 _ (t1.mono le_auto)) fun v V8 _ hV8 hv => ?_
    subst hv; conv => whnf
    repeat' ((first | refine br_t rfl ?_ | refine br_f rfl ?_ | refine IdxN.lit rfl rfl ?_ | intro _); conv => whnf)
    exact ret_pure (.inr ⟨⟨6, _, snm, s3, s4, s5, sit, (tU p2).nm, son, swh, sord, sdesc, sinn⟩, tabv (tT p q), tabv (tU p2), rfl, tT p q, tU p2, (show SelAt _ (tT p q) (tU p2) _ from ⟨rfl, rfl, .inr ⟨rfl, hrest⟩⟩).mono le_auto, hlT'.mono le_auto, hlO'.mono le_auto, rfl, .inr ⟨rfl, rfl⟩, (hsok (by simpa using g1)).mono le_auto, .inl ⟨p, q, p2, rfl, rfl⟩⟩)
  ·have hsel : SelAt V5b (tU p2) (tT p q) _ := hsel.change2
   have hsel : SelAt _ (tU p2) (tT p q) _ := hsel
   have hlT' : TabOk V2 (tU p2) := by first | exact hlT | exact hlU
   have hlO' : TabOk V2 (tT p q) := by first | exact hlU | exact hlT
   have hk6 : skind = 6 := hsel.1
   have htb : stb = (tU p2).nm := hsel.2.1
   subst hk6; subst htb
   conv => whnf
   repeat' ((first | refine br_t rfl ?_ | refine br_f rfl ?_ | refine IdxN.lit rfl rfl ?_ | intro _); conv => whnf)
   refine CallN.pure (checkU_spec ⟨6, _, snm, s3, s4, s5, sit, sjoin, son, swh, sord, sdesc, sinn⟩ r p q p2 _ (show View.has _ r 0 (tvcells (tT p q) ++ tvcells (tU p2)) from (t1.mono le_auto)) (hlT'.mono le_auto) (hlO'.mono le_auto) (hsel.mono le_auto)) fun v V6 _ hV6 ⟨e, hv, hsok⟩ => ?_
   subst hv; conv => whnf
   repeat' ((first | refine br_t rfl ?_ | refine br_f rfl ?_ | refine IdxN.lit rfl rfl ?_ | intro _); conv => whnf)
   apply br <;> intro g1 <;> conv => whnf
   ·repeat' ((first | refine br_t rfl ?_ | refine br_f rfl ?_ | refine IdxN.lit rfl rfl ?_ | intro _); conv => whnf)
    exact ret_pure (.inl ⟨⟨6, _, snm, s3, s4, s5, sit, sjoin, son, swh, sord, sdesc, sinn⟩, rfl⟩)
   repeat' ((first | refine br_t rfl ?_ | refine br_f rfl ?_ | refine IdxN.lit rfl rfl ?_ | intro _); conv => whnf)
   refine CallN.pure (tableU_spec r p q p2 _ (t1.mono le_auto)) fun v V7 _ hV7 hv => ?_
   subst hv; conv => whnf
   repeat' ((first | refine br_t rfl ?_ | refine br_f rfl ?_ | refine IdxN.lit rfl rfl ?_ | intro _); conv => whnf)
   rcases hsel with ⟨_, _, hj⟩
   rcases hj with ⟨hj, hrest⟩ | ⟨hj, hrest⟩
   ·have hj : sjoin = noText := hj
    subst hj
    refine CallN.pure (tableN_spec r p q p2 _ (t1.mono le_auto)) fun v V8 _ hV8 hv => ?_
    subst hv; conv => whnf
    repeat' ((first | refine br_t rfl ?_ | refine br_f rfl ?_ | refine IdxN.lit rfl rfl ?_ | intro _); conv => whnf)
    exact ret_pure (.inr ⟨⟨6, _, snm, s3, s4, s5, sit, noText, son, swh, sord, sdesc, sinn⟩, tabv (tU p2), tE, rfl, tU p2, tT p q, (show SelAt _ (tU p2) (tT p q) _ from ⟨rfl, rfl, .inl ⟨rfl, hrest⟩⟩).mono le_auto, hlT'.mono le_auto, hlO'.mono le_auto, rfl, .inl ⟨rfl, rfl⟩, (hsok (by simpa using g1)).mono le_auto, .inr ⟨p, q, p2, rfl, rfl⟩⟩)
   ·have hj : sjoin = (tT p q).nm := hj
    subst hj
    refine CallN.pure (tableT_spec r p q p2 _ (t1.mono le_auto)) fun v V8 _ hV8 hv => ?_
    subst hv; conv => whnf
    repeat' ((first | refine br_t rfl ?_ | refine br_f rfl ?_ | refine IdxN.lit rfl rfl ?_ | intro _); conv => whnf)
    exact ret_pure (.inr ⟨⟨6, _, snm, s3, s4, s5, sit, (tT p q).nm, son, swh, sord, sdesc, sinn⟩, tabv (tU p2), tabv (tT p q), rfl, tU p2, tT p q, (show SelAt _ (tU p2) (tT p q) _ from ⟨rfl, rfl, .inr ⟨rfl, hrest⟩⟩).mono le_auto, hlT'.mono le_auto, hlO'.mono le_auto, rfl, .inr ⟨rfl, rfl⟩, (hsok (by simpa using g1)).mono le_auto, .inr ⟨p, q, p2, rfl, rfl⟩⟩)
 ·have hlen : l'.length + 1 ≤ 80 := hl0
  refine AppVN.full 9999 rfl ?_
  refine AppF.to (x :: 5 :: y :: l').length (by simp only [List.length_cons]; omega) [.int .u8 x, .int .u8 5] ((y :: l').map fun z => Value.int .u8 z) lk rfl (.inr ((hhas (List.cons_ne_nil _ _)).mono le_auto)) (by rw [List.length_map]; exact (Nat.mul_one _).symm) (allOne_of fun v hv => by obtain ⟨z, _, rfl⟩ := List.mem_map.1 hv; rfl) (by simp only [List.length_cons]; omega) (by decide) fun base' cap' V4 hV4 hc4 _ => ?_; conv => whnf
  have hok : (⟨base', cap', x :: 5 :: y :: l'⟩ : Src).ok V4 := ⟨fun _ => hc4, fun z hz => by
   rcases List.mem_cons.1 hz with rfl | hz
   ·exact ⟨hx0, hx1⟩
   rcases List.mem_cons.1 hz with rfl | hz
   ·decide
   exact hnum z hz, by show l'.length + 1 + 1 + 1 ≤ 1000000; omega⟩
  refine CallN.new 18 rfl (made_spec ((⟨base', cap', x :: 5 :: y :: l'⟩ : Src)) _) fun v V5 bs hV5 ⟨bp, hv, hb⟩ => ⟨picks bp ((⟨base', cap', x :: 5 :: y :: l'⟩ : Src)) 0, .own 18 0, hb, by subst hv; rfl, ?_⟩
  subst hv; conv => whnf
  refine CallN.box 18 rfl (data_spec bp ((⟨base', cap', x :: 5 :: y :: l'⟩ : Src)) x rfl rfl _ (hok.mono le_auto)) fun v V5b bs hV5b ⟨st, k', hv, ⟨p', q', p2', hsel⟩, hf, hb5⟩ => ⟨92, picksC ((⟨base', cap', x :: 5 :: y :: l'⟩ : Src)) k', hb5, ?_⟩
  subst hv
  obtain ⟨skind, stb, snm, s3, s4, s5, sit, sjoin, son, swh, sord, sdesc, sinn⟩ := st
  rcases hsel with hsel | hsel
  ·have hsel : SelAt V5b (tT p q) (tU p2) _ := hsel.change
   have hsel : SelAt _ (tT p q) (tU p2) _ := hsel
   have hlT' : TabOk V2 (tT p q) := by first | exact hlT | exact hlU
   have hlO' : TabOk V2 (tU p2) := by first | exact hlU | exact hlT
   have hk6 : skind = 6 := hsel.1
   have htb : stb = (tT p q).nm := hsel.2.1
   subst hk6; subst htb
   conv => whnf
   repeat' ((first | refine br_t rfl ?_ | refine br_f rfl ?_ | refine IdxN.lit rfl rfl ?_ | intro _); conv => whnf)
   refine CallN.pure (checkT_spec ⟨6, _, snm, s3, s4, s5, sit, sjoin, son, swh, sord, sdesc, sinn⟩ r p q p2 _ (show View.has _ r 0 (tvcells (tT p q) ++ tvcells (tU p2)) from (t1.mono le_auto)) (hlT'.mono le_auto) (hlO'.mono le_auto) (hsel.mono le_auto)) fun v V6 _ hV6 ⟨e, hv, hsok⟩ => ?_
   subst hv; conv => whnf
   repeat' ((first | refine br_t rfl ?_ | refine br_f rfl ?_ | refine IdxN.lit rfl rfl ?_ | intro _); conv => whnf)
   apply br <;> intro g1 <;> conv => whnf
   ·repeat' ((first | refine br_t rfl ?_ | refine br_f rfl ?_ | refine IdxN.lit rfl rfl ?_ | intro _); conv => whnf)
    exact ret_pure (.inl ⟨⟨6, _, snm, s3, s4, s5, sit, sjoin, son, swh, sord, sdesc, sinn⟩, rfl⟩)
   repeat' ((first | refine br_t rfl ?_ | refine br_f rfl ?_ | refine IdxN.lit rfl rfl ?_ | intro _); conv => whnf)
   refine CallN.pure (tableT_spec r p q p2 _ (t1.mono le_auto)) fun v V7 _ hV7 hv => ?_
   subst hv; conv => whnf
   repeat' ((first | refine br_t rfl ?_ | refine br_f rfl ?_ | refine IdxN.lit rfl rfl ?_ | intro _); conv => whnf)
   rcases hsel with ⟨_, _, hj⟩
   rcases hj with ⟨hj, hrest⟩ | ⟨hj, hrest⟩
   ·have hj : sjoin = noText := hj
    subst hj
    refine CallN.pure (tableN_spec r p q p2 _ (t1.mono le_auto)) fun v V8 _ hV8 hv => ?_
    subst hv; conv => whnf
    repeat' ((first | refine br_t rfl ?_ | refine br_f rfl ?_ | refine IdxN.lit rfl rfl ?_ | intro _); conv => whnf)
    exact ret_pure (.inr ⟨⟨6, _, snm, s3, s4, s5, sit, noText, son, swh, sord, sdesc, sinn⟩, tabv (tT p q), tE, rfl, tT p q, tU p2, (show SelAt _ (tT p q) (tU p2) _ from ⟨rfl, rfl, .inl ⟨rfl, hrest⟩⟩).mono le_auto, hlT'.mono le_auto, hlO'.mono le_auto, rfl, .inl ⟨rfl, rfl⟩, (hsok (by simpa using g1)).mono le_auto, .inl ⟨p, q, p2, rfl, rfl⟩⟩)
   ·have hj : sjoin = (tU p2).nm := hj
    subst hj
    refine CallN.pure (tableU_spec r p q p2 _ (t1.mono le_auto)) fun v V8 _ hV8 hv => ?_
    subst hv; conv => whnf
    repeat' ((first | refine br_t rfl ?_ | refine br_f rfl ?_ | refine IdxN.lit rfl rfl ?_ | intro _); conv => whnf)
    exact ret_pure (.inr ⟨⟨6, _, snm, s3, s4, s5, sit, (tU p2).nm, son, swh, sord, sdesc, sinn⟩, tabv (tT p q), tabv (tU p2), rfl, tT p q, tU p2, (show SelAt _ (tT p q) (tU p2) _ from ⟨rfl, rfl, .inr ⟨rfl, hrest⟩⟩).mono le_auto, hlT'.mono le_auto, hlO'.mono le_auto, rfl, .inr ⟨rfl, rfl⟩, (hsok (by simpa using g1)).mono le_auto, .inl ⟨p, q, p2, rfl, rfl⟩⟩)
  ·have hsel : SelAt V5b (tU p2) (tT p q) _ := hsel.change2
   have hsel : SelAt _ (tU p2) (tT p q) _ := hsel
   have hlT' : TabOk V2 (tU p2) := by first | exact hlT | exact hlU
   have hlO' : TabOk V2 (tT p q) := by first | exact hlU | exact hlT
   have hk6 : skind = 6 := hsel.1
   have htb : stb = (tU p2).nm := hsel.2.1
   subst hk6; subst htb
   conv => whnf
   repeat' ((first | refine br_t rfl ?_ | refine br_f rfl ?_ | refine IdxN.lit rfl rfl ?_ | intro _); conv => whnf)
   refine CallN.pure (checkU_spec ⟨6, _, snm, s3, s4, s5, sit, sjoin, son, swh, sord, sdesc, sinn⟩ r p q p2 _ (show View.has _ r 0 (tvcells (tT p q) ++ tvcells (tU p2)) from (t1.mono le_auto)) (hlT'.mono le_auto) (hlO'.mono le_auto) (hsel.mono le_auto)) fun v V6 _ hV6 ⟨e, hv, hsok⟩ => ?_
   subst hv; conv => whnf
   repeat' ((first | refine br_t rfl ?_ | refine br_f rfl ?_ | refine IdxN.lit rfl rfl ?_ | intro _); conv => whnf)
   apply br <;> intro g1 <;> conv => whnf
   ·repeat' ((first | refine br_t rfl ?_ | refine br_f rfl ?_ | refine IdxN.lit rfl rfl ?_ | intro _); conv => whnf)
    exact ret_pure (.inl ⟨⟨6, _, snm, s3, s4, s5, sit, sjoin, son, swh, sord, sdesc, sinn⟩, rfl⟩)
   repeat' ((first | refine br_t rfl ?_ | refine br_f rfl ?_ | refine IdxN.lit rfl rfl ?_ | intro _); conv => whnf)
   refine CallN.pure (tableU_spec r p q p2 _ (t1.mono le_auto)) fun v V7 _ hV7 hv => ?_
   subst hv; conv => whnf
   repeat' ((first | refine br_t rfl ?_ | refine br_f rfl ?_ | refine IdxN.lit rfl rfl ?_ | intro _); conv => whnf)
   rcases hsel with ⟨_, _, hj⟩
   rcases hj with ⟨hj, hrest⟩ | ⟨hj, hrest⟩
   ·have hj : sjoin = noText := hj
    subst hj
    refine CallN.pure (tableN_spec r p q p2 _ (t1.mono le_auto)) fun v V8 _ hV8 hv => ?_
    subst hv; conv => whnf
    repeat' ((first | refine br_t rfl ?_ | refine br_f rfl ?_ | refine IdxN.lit rfl rfl ?_ | intro _); conv => whnf)
    exact ret_pure (.inr ⟨⟨6, _, snm, s3, s4, s5, sit, noText, son, swh, sord, sdesc, sinn⟩, tabv (tU p2), tE, rfl, tU p2, tT p q, (show SelAt _ (tU p2) (tT p q) _ from ⟨rfl, rfl, .inl ⟨rfl, hrest⟩⟩).mono le_auto, hlT'.mono le_auto, hlO'.mono le_auto, rfl, .inl ⟨rfl, rfl⟩, (hsok (by simpa using g1)).mono le_auto, .inr ⟨p, q, p2, rfl, rfl⟩⟩)
   ·have hj : sjoin = (tT p q).nm := hj
    subst hj
    refine CallN.pure (tableT_spec r p q p2 _ (t1.mono le_auto)) fun v V8 _ hV8 hv => ?_
    subst hv; conv => whnf
    repeat' ((first | refine br_t rfl ?_ | refine br_f rfl ?_ | refine IdxN.lit rfl rfl ?_ | intro _); conv => whnf)
    exact ret_pure (.inr ⟨⟨6, _, snm, s3, s4, s5, sit, (tT p q).nm, son, swh, sord, sdesc, sinn⟩, tabv (tU p2), tabv (tT p q), rfl, tU p2, tT p q, (show SelAt _ (tU p2) (tT p q) _ from ⟨rfl, rfl, .inr ⟨rfl, hrest⟩⟩).mono le_auto, hlT'.mono le_auto, hlO'.mono le_auto, rfl, .inr ⟨rfl, rfl⟩, (hsok (by simpa using g1)).mono le_auto, .inr ⟨p, q, p2, rfl, rfl⟩⟩)
theorem names_of {its : List Item} (hn : (its.map keyC).Nodup) (hne : ∀ x ∈ its, x.tb.toList ≠ []) : Names its := by
 refine ⟨fun i j x y hx hy h1 h2 => ?_, hne⟩
 have e1 : (its.map keyC)[i]? = some (keyC x) := by rw [List.getElem?_map, hx]; rfl
 have e2 : (its.map keyC)[j]? = some (keyC y) := by rw [List.getElem?_map, hy]; rfl
 have e3 : keyC x = keyC y := by unfold keyC; rw [h1, h2]
 rw [e3] at e1
 have hlt := (List.getElem?_eq_some_iff.1 e1).1
 exact (List.getElem?_inj hlt hn).1 (e1.trans e2.symm)
theorem names_UT : Names (itemsU ++ itemsT) := names_of (by simp [itemsT, itemsU, keyC, txt, ByteArray.toList_eq]) (fun x hx => by
 simp only [itemsT, itemsU, List.cons_append, List.nil_append, List.mem_cons, List.not_mem_nil, or_false] at hx
 rcases hx with rfl | rfl | rfl | rfl | rfl | rfl <;> simp [txt, ByteArray.toList_eq])
section
variable {V : View} {s : StV} {a b yv : Value} {X : List (List Val)} {its : List Item} {g : List Val → List (List Val)} {hold : List Val → Bool × Int}
end
theorem rholds0_spec (cs vs : Value) (ob : Option Addr) (oc : Nat) (V : View) : PSpec 27 [cs, vs, .slice ob 0 oc] V (fun v _ => v = .tuple #[.bool true, .int .i64 0]) := by
 refine does_of_zfun [] mixed (args := [.v _, .v _, .v _]) (ms := []) Tryz.func27 (by kernel_rfl) rfl ?_; conv => whnf
 repeat' ((first | refine br_t rfl ?_ | refine br_f rfl ?_ | refine IdxN.lit rfl rfl ?_ | intro _); conv => whnf)
 exact ret_pure rfl
theorem RowOk.inR {kinds : List Int} {r : List Val} (h : RowOk kinds r) : ∀ v ∈ r, InR v.n := fun v hv => by
 obtain ⟨i, hi, he⟩ := List.getElem_of_mem hv
 have hl := h.len
 exact (h.kind i kinds[i] v (List.getElem?_eq_getElem (by omega)) (by rw [List.getElem?_eq_getElem hi, he])).n
theorem RowOk.at {kinds : List Int} {r : List Val} (h : RowOk kinds r) {v : Val} (hv : v ∈ r) : ∃ k ∈ kinds, KindV k v := by
 obtain ⟨i, hi, he⟩ := List.getElem_of_mem hv
 have hl := h.len
 exact ⟨kinds[i], List.getElem_mem _, h.kind i kinds[i] v (List.getElem?_eq_getElem (by omega)) (by rw [List.getElem?_eq_getElem hi, he])⟩
theorem RowOk.append {k1 k2 : List Int} {a b : List Val} (h1 : RowOk k1 a) (h2 : RowOk k2 b) : RowOk (k1 ++ k2) (a ++ b) := by
 refine ⟨by rw [List.length_append, List.length_append, h1.len, h2.len], fun i k v hk hv => ?_⟩
 by_cases hi : i < k1.length
 ·rw [List.getElem?_append_left hi] at hk
  rw [List.getElem?_append_left (by rw [h1.len]; exact hi)] at hv
  exact h1.kind i k v hk hv
 ·rw [List.getElem?_append_right (by omega)] at hk
  rw [List.getElem?_append_right (by rw [h1.len]; omega), h1.len] at hv
  exact h2.kind _ k v hk hv
theorem RowC.ok {t : TabV} {r : List Val} (h : RowC t.cols r) : RowOk (kindsOf t) r := by
 refine ⟨by rw [h.len, kindsOf_len], fun i k v hk hv => ?_⟩
 rw [kindsOf, List.getElem?_map] at hk
 cases hc : t.cols[i]? with
 | none => rw [hc] at hk; cases hk
 | some c =>
  rw [hc] at hk
  simp only [Option.map_some, Option.some.injEq] at hk
  subst hk
  exact h.kind i c v hc hv
/-- the document's value of an expression, over a row of the columns' kinds -/
theorem ref_gen {its : List Item} {kinds : List Int} {r : List Val} (hN : Names its) (hk : kinds.length = its.length) (hits : its.length ≤ 20) (hr : RowOk kinds r) (p o1 c q o2 d n m : Nat) (V : View) (hn : n = its.length) (hm : m = r.length) (h1 : V.has p o1 (its.flatMap icells)) (h2 : V.has q o2 (r.flatMap vcells)) {kind : Int} {e : E} (he : WT its kinds kind e) {xe : XC} (hrep : RepE V e xe) :
  PSpec 25 [.slice (some ⟨p, o1, none⟩) n c, .slice (some ⟨q, o2, none⟩) m d, xagg xe] V (fun v _ => v = pairX (evalX (fun tb nm => colAt tb nm its r) e)) := by
 subst hn; subst hm
 have ag := agree (cX := fun tb nm => colAt tb nm its r) (fun kind tb nm h => col_agree hN hk hr h) he
 rw [ag.eq]
 have hl := hr.len
 exact ref_spec _ _ okT cmpR (refCol its r) (fun tb nm => refCol_inR hr.inR) (fun a b V' h => rcmpv_spec a b (by have : a.t.size ≤ 100 := h; omega) V') e xe V he.ok ag.fine hrep
  (fun x' V' hV hop => rcol_spec its r p q c d o1 o2 x' hop V' (h1.mono hV) (h2.mono hV) (by omega) (by omega))
theorem where_both {its : List Item} {kinds : List Int} {V : View} {w : Option Addr × Nat × Nat} (h : WhereAt V its kinds w) (hN : Names its) (hk : kinds.length = its.length) (hits : its.length ≤ 20) (hne : its ≠ []) : ∃ hold : List Val → Bool × Int, ∀ (cb : Option Addr) (cc : Nat) (V1 : View), V.le V1 → V1.cells (.slice cb its.length cc) (its.flatMap icells) →
  ∀ (r : List Val), RowOk kinds r → ∀ v V', V1.le V' → RowAt V' r v →
   PSpec 51 [.slice cb its.length cc, v, .slice w.1 w.2.1 w.2.2] V' (fun v _ => v = .tuple #[.bool (hold r).1, .int .i64 (hold r).2]) ∧
   PSpec 27 [.slice cb its.length cc, v, .slice w.1 w.2.1 w.2.2] V' (fun v _ => v = .tuple #[.bool (hold r).1, .int .i64 (hold r).2]) := by
 rcases h with rfl | ⟨g, e, x, rfl, hx, hr, hwt, _⟩
 ·refine ⟨fun _ => (true, 0), fun cb cc V1 hV1 hc r _ v V' hV' hra => ?_⟩
  obtain ⟨qb, qc, hqv⟩ := row_shape hra
  subst hqv
  exact ⟨holdsN_spec _ _ _ _ _ _ _, rholds0_spec _ _ _ _ _⟩
 ·refine ⟨fun r => holdsX (evalX (fun tb nm => colAt tb nm its r) e), fun cb cc V1 hV1 hc r hro v V' hV' hra => ?_⟩
  have hrl := hro.len
  have hr0 : r ≠ [] := fun e => by
   rw [e] at hrl
   exact hne (List.eq_nil_of_length_eq_zero (by rw [← hk, ← hrl]; rfl))
  obtain ⟨p9, o9, hcb, hc9⟩ := cells_some hc (by
   obtain ⟨y, l, rfl⟩ := List.exists_cons_of_ne_nil hne
   intro h; cases h)
  obtain ⟨qb, qc, hqv, _, hqva⟩ := hra
  obtain ⟨d9, dof, hqb, hrow⟩ := hqva.has hr0
  subst hcb; subst hqv; subst hqb
  exact ⟨holds_gen its r _ _ p9 o9 cc d9 dof qc g 0 1 V' rfl rfl (by omega) (by omega) hro.inR (hc9.mono hV') hrow hwt.ok ((hr.mono hV1).mono hV').re ((hx.mono hV1).mono hV'),
   rholds_spec _ _ g 0 1 x _ V' ((hx.mono hV1).mono hV') fun V2 hV2 => ref_gen hN hk hits hro p9 o9 cc d9 dof qc _ _ V2 rfl rfl ((hc9.mono hV').mono hV2) (hrow.mono hV2) hwt (((hr.mono hV1).mono hV').mono hV2).re⟩
theorem kindV_tidy {k : Int} {v : Val} (h : KindV k v) (hk : k = 1 ∨ k = 2) : Tidy v := by
 refine ⟨fun h1 => h.empty (by rw [← h.k]; exact h1), fun h1 => h.zero ?_⟩
 rcases hk with rfl | rfl
 ·exact absurd h.k h1
 ·rfl
/-- the select of the program and the document's come to the same -/
def Both (V : View) (st : StV) (a b xv yv : Value) : Prop := ∃ S : List (List Val) × Int, S.1.length ≤ 1000 ∧ ∀ V1, V.le V1 →
 PSpec 7 [stv st, a, b, xv, yv] V1 (fun v V' => ∃ x, v = .tuple #[x, .int .i64 S.2] ∧ (S.2 = 0 → NewV V1 S.1 x V') ∧ (S.2 ≠ 0 → x = .slice none 0 0)) ∧
 PSpec 8 [stv st, a, b, xv, yv] V1 (fun v V' => ∃ x, v = .tuple #[x, .int .i64 S.2] ∧ (S.2 = 0 → RowsV V' S.1 x) ∧ (S.2 ≠ 0 → x = .slice none 0 0))
theorem selX_len {its : List Item} {hold : List Val → Bool × Int} {rows : List (List Val)} {l : List Item} {o : Option (ByteArray × ByteArray)} {d : Bool} (h : rows.length ≤ 999) : (selX its hold rows l o d).1.length ≤ 1000 := by
 have h1 := whereX_len hold rows
 unfold selX
 split
 ·simp
 ·split
  ·split <;> simp
  ·simp only
   rw [ofX_map, List.length_map]
   unfold orderX
   split
   ·omega
   ·rw [sortX_len]; omega
theorem SelOk.pl {V : View} {its : List Item} {s : StV} {l : List Item} (hok : ∀ x ∈ l, ItemOk its x) (hmix : (∃ x ∈ l, x.agg ≠ 0) → ∀ x ∈ l, x.agg ≠ 0) :
  (foldsL l = true → ∀ x ∈ l, x.agg = 1 ∨ ((x.agg = 2 ∨ x.agg = 3 ∨ x.agg = 4) ∧ (atA x.tb x.nm its).2 = 0)) ∧ (foldsL l = false → ∀ x ∈ l, (atA x.tb x.nm its).2 = 0) := by
 cases l with
 | nil => exact ⟨fun h => (by simp [foldsL] at h), fun _ x hx => (by cases hx)⟩
 | cons y l =>
  refine ⟨fun h x hx => ?_, fun h x hx => ?_⟩
  ·have hy : y.agg ≠ 0 := of_decide_eq_true h
   have hn := hmix ⟨y, List.mem_cons_self, hy⟩ x hx
   rcases hok x hx with h1 | ⟨h1, h2, h3⟩
   ·exact .inl h1
   ·by_cases h4 : x.agg = 1
    ·exact .inl h4
    ·exact .inr ⟨by omega, h3⟩
  ·have hy : ¬ y.agg ≠ 0 := of_decide_eq_false h
   rcases hok x hx with h1 | ⟨_, _, h3⟩
   ·exact absurd (hmix ⟨x, hx, by omega⟩ y List.mem_cons_self) hy
   ·exact h3
theorem rsel_of {V V1 : View} {st : StV} {its : List Item} {kinds : List Int} {rows : List (List Val)} {l : List Item} {o : Option (ByteArray × ByteArray)} {hold : List Val → Bool × Int} (hV1 : V.le V1) (hk : kinds.length = its.length) (hkk : ∀ k ∈ kinds, k = 1 ∨ k = 2) (hits : its.length ≤ 20) (hne : its ≠ [])
  (h1 : st.items.2.1 = l.length) (h2 : l.length ≤ 4) (h3 : V.cells (.slice st.items.1 st.items.2.1 st.items.2.2) (l.flatMap icells)) (h4 : OrdAt V st.order o) (h5 : ∀ x ∈ l, ItemOk its x) (h6 : (∃ x ∈ l, x.agg ≠ 0) → ∀ x ∈ l, x.agg ≠ 0) (h7 : ∀ tb nm, o = some (tb, nm) → (atA tb nm its).2 = 0) (hr : ∀ r ∈ rows, RowOk kinds r) (hs : rows.length ≤ 1000)
  (hh : ∀ (cb : Option Addr) (cc : Nat) (V1 : View), V.le V1 → V1.cells (.slice cb its.length cc) (its.flatMap icells) → ∀ (r : List Val), RowOk kinds r → ∀ v V', V1.le V' → RowAt V' r v →
   PSpec 51 [.slice cb its.length cc, v, .slice st.wh.1 st.wh.2.1 st.wh.2.2] V' (fun v _ => v = .tuple #[.bool (hold r).1, .int .i64 (hold r).2]) ∧
   PSpec 27 [.slice cb its.length cc, v, .slice st.wh.1 st.wh.2.1 st.wh.2.2] V' (fun v _ => v = .tuple #[.bool (hold r).1, .int .i64 (hold r).2])) : RSel V1 st its rows hold l o :=
 ⟨h1, View.cells.mono h3 hV1, by omega, (SelOk.pl (V := V) (s := st) h5 h6).1, (SelOk.pl (V := V) (s := st) h5 h6).2, h4.elim (fun h => .inl h) (fun ⟨g, tb, nm, a, b, c⟩ => .inr ⟨g, tb, nm, a, b.mono hV1, c⟩), h7, by omega, hne, hs, fun r h => (hr r h).inR, fun r h => by rw [(hr r h).len, hk], fun r h v hv => by
  obtain ⟨k, h1, h2⟩ := (hr r h).at hv
  exact kindV_tidy h2 (hkk k h1), fun r h v hv => by
  obtain ⟨k, h1, h2⟩ := (hr r h).at hv
  have := h2.t
  omega, fun cb cc V2 h1 h2 r h v V' h3 h4 => (hh cb cc V2 (View.le_trans hV1 h1) h2 r (hr r h) v V' h3 h4).2⟩
theorem both1 (V : View) (st : StV) (t o : TabV) (hsel : SelAt V t o st) (hok : SelOk V (itemsOf t) st) (hj : st.join = noText) (ht : TabOk V t) (ht3 : t.cols.length = 3) (hN : Names (itemsOf t)) (hon : o.nm.toList ≠ []) (X : List (List Val)) (hX : ∀ r ∈ X, RowC t.cols r) (xb : Option Addr) (xc : Nat) (hXr : RowsAt V X xb) (hXl : X.length ≤ 12) (ob : Option Addr) (n oc : Nat) :
  Both V st (tabv t) tE (.slice xb X.length xc) (.slice ob n oc) := by
 obtain ⟨l, od, h1, h2, h3, h4, h5, h6, h7⟩ := hok
 have hit : (itemsOf t).length = 3 := by rw [itemsOf_len, ht3]
 have hne : itemsOf t ≠ [] := fun e => by rw [e] at hit; cases hit
 have hkl : (kindsOf t).length = (itemsOf t).length := by rw [kindsOf_len, itemsOf_len]
 have hkk : ∀ k ∈ kindsOf t, k = 1 ∨ k = 2 := fun k hk => by
  obtain ⟨c, hc, rfl⟩ := List.mem_map.1 hk
  exact ht.kinds c hc
 obtain ⟨_, _, hs⟩ := hsel
 rcases hs with ⟨_, _, hp⟩ | ⟨h, _⟩
 rotate_left
 ·rw [hj] at h
  exact absurd (by rw [← h]; exact noText_list) hon
 obtain ⟨hold, hh⟩ := where_both hp.wh hN hkl (by omega) hne
 have hro : ∀ r ∈ X, RowOk (kindsOf t) r := fun r h => (hX r h).ok
 have hjl : st.join.toList = [] := by rw [hj]; exact noText_list
 refine ⟨selX (itemsOf t) hold X l od st.desc, selX_len (by omega), fun V1 hV1 => ⟨?_, ?_⟩⟩
 ·exact select_new st t.nm noText (some ⟨t.p, 0, none⟩, t.cols.length, t.cap) (t.q, t.ql, t.qc) (none, 0, 0) (none, 0, 0) _ _ (itemsOf t) X hold l od V1
   (fun V2 hV2 => (rows1_new st t ⟨noText, 0, [], 0, none, 0, 0⟩ tE rfl X xb ob xc n oc V2 hjl ((ht.mono hV1).mono hV2) ((hXr.mono hV1).mono hV2) (by omega) (fun r h => by have := (hX r h).len; omega)).mono fun v V' _ _ h => h.weak hV2)
   h1 (View.cells.mono h3 hV1) (by omega) (h4.elim (fun h => .inl h) (fun ⟨g, tb, nm, a, b, c⟩ => .inr ⟨g, tb, nm, a, b.mono hV1, c⟩)) (fun tb nm h => by
    obtain ⟨k, e1, _, e3⟩ := place_at (h7 tb nm h)
    exact ⟨k, e1, fun r hr => by have := (hX r hr).len; omega⟩) (by omega) (by omega) (fun r h => (hro r h).inR) (fun r h => by have := (hX r h).len; omega)
   (fun cb cc V2 hV2 hc r hr v V' hV' hra => (hh cb cc V2 (View.le_trans hV1 hV2) hc r (hro r hr) v V' hV' hra).1)
 ·exact rsel1_spec st t tE noText rfl X xb ob xc n oc hold l od V1 hjl (ht.mono hV1) (hXr.mono hV1) (rsel_of hV1 hkl hkk (by omega) hne h1 h2 h3 h4 h5 h6 h7 hro (by omega) hh)
set_option maxHeartbeats 4000000 in
theorem both2 (V : View) (st : StV) (t o : TabV) (hsel : SelAt V t o st) (hok : SelOk V (itemsOf t ++ itemsOf o) st) (hj : st.join = o.nm) (ht : TabOk V t) (ho : TabOk V o) (ht3 : t.cols.length = 3) (ho3 : o.cols.length = 3) (hN : Names (itemsOf t ++ itemsOf o)) (hon : o.nm.toList ≠ []) (X Y : List (List Val)) (hX : ∀ r ∈ X, RowC t.cols r) (hY : ∀ r ∈ Y, RowC o.cols r) (xb yb : Option Addr) (xc yc : Nat) (hXr : RowsAt V X xb) (hYr : RowsAt V Y yb) (hXl : X.length ≤ 12) (hYl : Y.length ≤ 12) :
  Both V st (tabv t) (tabv o) (.slice xb X.length xc) (.slice yb Y.length yc) := by
 obtain ⟨l, od, h1, h2, h3, h4, h5, h6, h7⟩ := hok
 have hit : (itemsOf t).length = 3 := by rw [itemsOf_len, ht3]
 have hio : (itemsOf o).length = 3 := by rw [itemsOf_len, ho3]
 obtain ⟨_, _, hs⟩ := hsel
 rcases hs with ⟨h, _⟩ | ⟨_, ⟨gb, kd, x1, x2, tb1, tb2, hon1, hon2, hc1, hc2, hkd⟩, hp⟩
 ·rw [hj] at h
  exact absurd (by rw [h]; exact noText_list) hon
 have hlj : (itemsOf t ++ itemsOf o).length = 6 := by rw [List.length_append, hit, hio]
 have hne : itemsOf t ++ itemsOf o ≠ [] := fun e => by rw [e] at hlj; cases hlj
 have hkl : (kindsOf t ++ kindsOf o).length = (itemsOf t ++ itemsOf o).length := by rw [List.length_append, List.length_append, kindsOf_len, kindsOf_len, itemsOf_len, itemsOf_len]
 have hkk : ∀ k ∈ kindsOf t ++ kindsOf o, k = 1 ∨ k = 2 := fun k hk => by
  rcases List.mem_append.1 hk with hk | hk
  ·obtain ⟨c, hc, rfl⟩ := List.mem_map.1 hk
   exact ht.kinds c hc
  ·obtain ⟨c, hc, rfl⟩ := List.mem_map.1 hk
   exact ho.kinds c hc
 obtain ⟨hold, hh⟩ := where_both hp.wh hN hkl (by omega) hne
 have hjl : st.join.toList ≠ [] := by rw [hj]; exact hon
 have hXl3 : ∀ r ∈ X, r.length = 3 := fun r h => by rw [(hX r h).len, ht3]
 have hYl3 : ∀ r ∈ Y, r.length = 3 := fun r h => by rw [(hY r h).len, ho3]
 have hab : ∀ x ∈ X, ∀ y ∈ Y, RowOk (kindsOf t ++ kindsOf o) (x ++ y) := fun x hx y hy => (hX x hx).ok.append (hY y hy).ok
 -- the columns that are compared
 have hcol : ∀ x ∈ X, ∀ y ∈ Y, ∃ v1 v2, KindV kd v1 ∧ KindV kd v2 ∧ colAt tb1 x1.nm (itemsOf t ++ itemsOf o) (x ++ y) = (v1, 0) ∧ colAt tb2 x2.nm (itemsOf t ++ itemsOf o) (x ++ y) = (v2, 0) ∧ refCol (itemsOf t ++ itemsOf o) (x ++ y) tb1 x1.nm = (v1, 0) ∧ refCol (itemsOf t ++ itemsOf o) (x ++ y) tb2 x2.nm = (v2, 0) := fun x hx y hy => by
  have hro := hab x hx y hy
  have hlen : (x ++ y).length = (itemsOf t ++ itemsOf o).length := by rw [hro.len, hkl]
  have key : ∀ (z : Item) (tb : ByteArray), ColOk (itemsOf t ++ itemsOf o) (kindsOf t ++ kindsOf o) kd z tb → ∃ v, KindV kd v ∧ colAt tb z.nm (itemsOf t ++ itemsOf o) (x ++ y) = (v, 0) ∧ refCol (itemsOf t ++ itemsOf o) (x ++ y) tb z.nm = (v, 0) := fun z tb hz => by
   obtain ⟨i, hi, hik⟩ := colsOf_mem _ _ _ _ hz.1
   obtain ⟨v, hv⟩ : ∃ v, (x ++ y)[i]? = some v := ⟨_, List.getElem?_eq_getElem (by rw [hlen]; exact (List.getElem?_eq_some_iff.1 hi).1)⟩
   have c1 := colAt_one (oneHit_of hN hi hz.2) hv
   exact ⟨v, hro.kind i kd v hik hv, c1, by rw [← (col_agree hN hkl hro (.col hkd hz.1 hz.2)).1]; exact c1⟩
  obtain ⟨v1, a1, a2, a3⟩ := key x1 tb1 hc1
  obtain ⟨v2, b1, b2, b3⟩ := key x2 tb2 hc2
  exact ⟨v1, v2, a1, b1, a2, b2, a3, b3⟩
 have honx : ∀ x ∈ X, ∀ y ∈ Y, ∀ v1 v2, colAt tb1 x1.nm (itemsOf t ++ itemsOf o) (x ++ y) = (v1, 0) → colAt tb2 x2.nm (itemsOf t ++ itemsOf o) (x ++ y) = (v2, 0) → (holdsX (evalX (fun tb nm => colAt tb nm (itemsOf t ++ itemsOf o) (x ++ y)) (.bin 8 (.col tb1 x1.nm) (.col tb2 x2.nm)))) = (cmpV v1 v2 == 0, 0) := fun x _ y _ v1 v2 e1 e2 => by
  rw [evalX, if_neg (by decide), evalX, evalX, e1, e2]
  show holdsX (truthV (cmpV v1 v2 == 0), (0 : Int)) = _
  cases cmpV v1 v2 == 0 <;> rfl
 have hjlen : (joinX (fun x y => (holdsX (evalX (fun tb nm => colAt tb nm (itemsOf t ++ itemsOf o) (x ++ y)) (.bin 8 (.col tb1 x1.nm) (.col tb2 x2.nm)))).1) X Y).length ≤ 144 := Nat.le_trans (joinX_len _ _) (Nat.le_trans (Nat.mul_le_mul hXl hYl) (by decide))
 have hro : ∀ r ∈ joinX (fun x y => (holdsX (evalX (fun tb nm => colAt tb nm (itemsOf t ++ itemsOf o) (x ++ y)) (.bin 8 (.col tb1 x1.nm) (.col tb2 x2.nm)))).1) X Y, RowOk (kindsOf t ++ kindsOf o) r := fun r hr => by
  obtain ⟨x, hx, hr⟩ := List.mem_flatMap.1 hr
  obtain ⟨y, hy, rfl⟩ := List.mem_map.1 hr
  exact hab x hx y (List.mem_filter.1 hy).1
 generalize hO : (fun x y => (holdsX (evalX (fun tb nm => colAt tb nm (itemsOf t ++ itemsOf o) (x ++ y)) (.bin 8 (.col tb1 x1.nm) (.col tb2 x2.nm)))).1) = O at *
 refine ⟨selX (itemsOf t ++ itemsOf o) hold (joinX O X Y) l od st.desc, selX_len (by omega), fun V1 hV1 => ⟨?_, ?_⟩⟩
 ·refine select_new st t.nm o.nm (some ⟨t.p, 0, none⟩, t.cols.length, t.cap) (t.q, t.ql, t.qc) (some ⟨o.p, 0, none⟩, o.cols.length, o.cap) (o.q, o.ql, o.qc) _ _ (itemsOf t ++ itemsOf o) (joinX O X Y) hold l od V1
   (fun V2 hV2 => rows2_new st t o X Y xb yb xc yc _ V2 hjl ((ht.mono hV1).mono hV2) ((hXr.mono hV1).mono hV2) (by omega) (fun r h => by have := hXl3 r h; omega) (fun V3 hV3 => (joined_new st t o X Y xb yb xc yc O V3 (((ht.mono hV1).mono hV2).mono hV3) (((ho.mono hV1).mono hV2).mono hV3) (((hXr.mono hV1).mono hV2).mono hV3) (((hYr.mono hV1).mono hV2).mono hV3) (by omega) (by omega) (fun r h => by
    have := hXl3 r h
    exact ⟨fun e => (by rw [e] at this; cases this), by omega⟩) (fun r h => by have := hYl3 r h; omega) fun cb cc V4 hV4 hc x hx y hy v V5 hV5 hra lz hlz => ?_).mono fun v V' _ _ h => h.weak (View.le_trans hV2 hV3)) fun v V' ⟨cb, cc, rb', rc', cells, h, _⟩ => ⟨_, _, _, _, _, _, h⟩)
   h1 (View.cells.mono h3 hV1) (by omega) (h4.elim (fun h => .inl h) (fun ⟨g, tb, nm, a, b, c⟩ => .inr ⟨g, tb, nm, a, b.mono hV1, c⟩)) (fun tb nm h => by
    obtain ⟨k, e1, _, e3⟩ := place_at (h7 tb nm h)
    exact ⟨k, e1, fun r hr => by have := (hro r hr).len; omega⟩) (by omega) (by omega) (fun r h => (hro r h).inR) (fun r h => by have := (hro r h).len; omega)
   (fun cb cc V2 hV2 hc r hr v V' hV' hra => (hh cb cc V2 (View.le_trans hV1 hV2) hc r (hro r hr) v V' hV' hra).1)
  have lx := hXl3 x hx
  have ly := hYl3 y hy
  have hlen : (x ++ y).length = 6 := by rw [List.length_append, lx, ly]
  obtain ⟨p9, o9, hcb, hc9⟩ := cells_some hc (by
   obtain ⟨z, l, hz⟩ := List.exists_cons_of_ne_nil hne
   rw [hz]; intro h; cases h)
  obtain ⟨qb, qc, hqv, _, hqva⟩ := hra
  obtain ⟨d9, dof, hqb, hrow⟩ := hqva.has (by intro h; rw [h] at hlen; cases hlen)
  subst hcb; subst hqv; subst hqb
  rw [hon1] at hlz
  have hg := holds_gen (itemsOf t ++ itemsOf o) (x ++ y) _ _ p9 o9 cc d9 dof qc lz 0 1 V5 rfl rfl (by omega) (by omega) (hab x hx y hy).inR (hc9.mono hV5) hrow (e := .bin 8 (.col tb1 x1.nm) (.col tb2 x2.nm)) ⟨trivial, trivial⟩
   (xe := ⟨8, v0, noText, noText, some ⟨gb, 0, none⟩, 2, 2⟩) ⟨rfl, by decide, rfl, gb, 0, colN tb1 x1.nm, colN tb2 x2.nm, rfl, (((((hon2.mono hV1).mono hV2).mono hV3).mono hV4).mono hV5), ⟨rfl, rfl, rfl⟩, ⟨rfl, rfl, rfl⟩⟩ hlz
  obtain ⟨v1, v2, _, _, e1, e2, _⟩ := hcol x hx y hy
  have e3 := honx x hx y hy v1 v2 e1 e2
  have e4 : O x y = (cmpV v1 v2 == 0) := by rw [← hO]; exact congrArg Prod.fst e3
  rw [e3] at hg
  rw [e4]
  exact hg
 ·refine rsel2_spec st t o X Y xb yb xc yc O hold l od V1 hjl (ht.mono hV1) (ho.mono hV1) ht3 ho3 (hXr.mono hV1) (hYr.mono hV1) (by omega) (by omega) (fun r h => by have := hXl3 r h; omega) (fun r h => by have := hYl3 r h; omega) (colN tb1 x1.nm) (colN tb2 x2.nm) gb 2 hon1 (hon2.mono hV1)
   (fun r => refCol (itemsOf t ++ itemsOf o) r tb1 x1.nm) (fun r => refCol (itemsOf t ++ itemsOf o) r tb2 x2.nm) (fun cb cc V2 hV2 hc x hx y hy v V' hV' hra => ?_) (fun x hx y hy => ?_) (fun x hx y hy => ?_) (rsel_of hV1 hkl hkk (by omega) hne h1 h2 h3 h4 h5 h6 h7 hro (by omega) hh)
  ·have lx := hXl3 x hx
   have ly := hYl3 y hy
   have hlen : (x ++ y).length = 6 := by rw [List.length_append, lx, ly]
   obtain ⟨p9, o9, hcb, hc9⟩ := cells_some hc (by
    obtain ⟨z, l, hz⟩ := List.exists_cons_of_ne_nil hne
    rw [hz]; intro h; cases h)
   obtain ⟨qb, qc, hqv, _, hqva⟩ := hra
   obtain ⟨d9, dof, hqb, hrow⟩ := hqva.has (by intro h; rw [h] at hlen; cases hlen)
   subst hcb; subst hqv; subst hqb
   exact ⟨rcol_spec (itemsOf t ++ itemsOf o) (x ++ y) p9 d9 cc qc o9 dof (colN tb1 x1.nm) rfl V' (hc9.mono hV') hrow (by omega) (by omega), rcol_spec (itemsOf t ++ itemsOf o) (x ++ y) p9 d9 cc qc o9 dof (colN tb2 x2.nm) rfl V' (hc9.mono hV') hrow (by omega) (by omega)⟩
  ·obtain ⟨v1, v2, k1, k2, e1, e2, e5, e6⟩ := hcol x hx y hy
   have e3 := honx x hx y hy v1 v2 e1 e2
   have e4 : O x y = (cmpV v1 v2 == 0) := by rw [← hO]; exact congrArg Prod.fst e3
   rw [e4, e5, e6]
   simp only
   rw [cmpV_eq hkd k1 k2]
   by_cases h : cmpR v1 v2 = 0
   ·rw [decide_eq_true h]; simp [h]
   ·rw [decide_eq_false h]; simp [h]
  ·obtain ⟨v1, v2, k1, k2, e1, e2, e5, e6⟩ := hcol x hx y hy
   rw [e5]
   have := k1.t
   show (v1.t.size : Int) ≤ _
   omega
theorem rowE_spec (b : Nat) (s : Src) (k : Int) (V : View) : Does Tryz.prog 18 [.pointer (some ⟨b, 0, none⟩), tE] V [picks b s k] (fun v _ bs => v = .slice none 0 0 ∧ bs = [picks b s k]) := by
 refine does_of_zfun [] mixed (args := [.own 0 0, .v _]) (ms := [(0, picks b s k)]) Tryz.func18 (by kernel_rfl) rfl ?_; conv => whnf
 repeat' ((first | refine br_t rfl ?_ | refine br_f rfl ?_ | refine IdxN.lit rfl rfl ?_ | intro _); conv => whnf)
 refine unrollz 1 ?_; conv => whnf
 repeat' ((first | refine br_t rfl ?_ | refine br_f rfl ?_ | refine IdxN.lit rfl rfl ?_ | intro _); conv => whnf)
 exact ⟨[0], by simp, [picks b s k], rfl, rfl, rfl⟩
theorem rowsE_spec (s : Src) (most : Nat) (V : View) (hs : s.ok V) (hm : most ≤ 100) : PSpec 6 [s.slice, tE, .int .i64 most] V (fun v _ => ∃ b n c, v = .slice b n c) := by
 refine does_of_zfun [] mixed (args := [.v _, .v _, .v _]) (ms := []) Tryz.func6 (by kernel_rfl) rfl ?_; conv => whnf
 repeat' ((first | refine br_t rfl ?_ | refine br_f rfl ?_ | refine IdxN.lit rfl rfl ?_ | intro _); conv => whnf)
 rename_i blk
 refine CallN.new 10 rfl (made_spec s _) fun v V1 bs hV1 ⟨b, hv, hb⟩ => ⟨picks b s 0, .own 10 0, hb, by subst hv; rfl, ?_⟩
 subst hv; conv => whnf
 have far : FarOk s 0 := ⟨by decide, by omega⟩
 refine loopz (σ := Option Addr × Nat × List Value)
  (fun x => [(2, .v (.int .i64 most)), (4, .own 4 0), (7, .own 10 0), (8, .row 25)])
  (fun x => [(4, .box blk 33 [.string noText, .slice none 0 0, .slice none 0 0]), (10, picks b s 0), (25, .row (.slice x.1 x.2.2.length x.2.1) 42 1 x.2.2.length)])
  (fun j x V' => V1.le V' ∧ x.2.2.length ≤ most ∧ most - x.2.2.length = j ∧ V'.cells (.slice x.1 x.2.2.length x.2.1) x.2.2)
  most (none, 0, []) ?_ ?_ ?_ ?_
 ·repeat' (first | exact sees_nil | refine sees_cons rfl rfl rfl ?_)
 ·repeat' (first | exact keeps_nil | refine keeps_cons rfl ?_ | refine keeps_free ?_)
 ·exact ⟨View.le_refl _, Nat.zero_le _, rfl, rfl⟩
 rintro j ⟨base, cp, cells⟩ V' ⟨hV, hi, hj, hcl⟩
 simp only at hi hj hcl
 conv => whnf
 refine CallN.box 10 rfl (over_spec b s 0 far _) fun v V2 bs hV2 ⟨hv, hb2⟩ => ⟨92, picksC s 0, hb2, ?_⟩
 subst hv; conv => whnf
 apply br <;> intro h3 <;> conv => whnf
 ·repeat (refine br_t h3 ?_; conv => whnf)
  apply br <;> intro h4 <;> conv => whnf
  ·have hi0 : (cells.length : Int) < most := of_decide_eq_true h4
   refine CallN.box 10 rfl (rowE_spec b s 0 _) fun v V3 bs hV3 ⟨hv, hb3⟩ => ⟨92, picksC s 0, hb3, ?_⟩
   subst hv; conv => whnf
   intro b4 V4 hV4 h5
   conv => whnf
   refine AppN.to (cells ++ [Value.slice none 0 0]).length (by simp) cells [.slice none 0 0] (hcl.mono le_auto) (Nat.mul_one _).symm h5 rfl rfl (by simp; omega) (by decide) fun base' cap' V5 hV5 hc5 => ?_; conv => whnf
   refine ⟨j - 1, (base', cap', cells ++ [.slice none 0 0]), by omega, ?_, ?_, ?_⟩
   ·repeat' (first | exact sees_nil | refine sees_cons rfl rfl rfl ?_)
   ·repeat' (first | exact keeps_nil | refine keeps_cons rfl ?_ | refine keeps_free ?_)
   ·exact ⟨View.le_trans hV le_auto, by simp; omega, by simp; omega, hc5⟩
  ·exact ret_pure ⟨_, _, _, rfl⟩
 ·repeat (refine br_f h3 ?_; conv => whnf)
  exact ret_pure ⟨_, _, _, rfl⟩
def hdBlk : Value → Option Nat
 | .slice (some a) (_ + 1) _ => some a.block
 | _ => none
theorem memOf_mem : ∀ {l : List (Nat × Res)}, (l.map (·.1)).Nodup → ∀ x ∈ l, memOf l x.1 = some x.2
 | (i, r) :: l, hnd, x, hx => by
  obtain ⟨h1, h2⟩ := List.nodup_cons.1 (show (i :: l.map (·.1)).Nodup from hnd)
  show upd (memOf l) i r x.1 = _
  rcases List.mem_cons.1 hx with rfl | hx
  ·rw [upd_same]
  ·rw [upd_ne _ _ (fun e => h1 (List.mem_map.2 ⟨x, hx, e⟩))]
   exact memOf_mem h2 x hx
set_option maxHeartbeats 4000000 in
theorem CallN.thawRows {f : FuncId} {args : List Value} {V : View} {mem : Nat → Option Res} {K : SV → View → (Nat → Option Res) → Prop} {S : List (List Val) × Int}
  (h : PSpec f args V (fun v V' => ∃ x, v = .tuple #[x, .int .i64 S.2] ∧ (S.2 = 0 → NewV V S.1 x V') ∧ (S.2 ≠ 0 → x = .slice none 0 0))) (hd : ∀ k, mem (k + 1000) = none)
  (k : ∀ (P : List (List Val)) (base : Option Addr) (cap : Nat) (cells : List Value) (V2 : View) (l : List (Nat × Res)), P = (if S.2 = 0 then S.1 else []) → V.le V2 → V2.cells (.slice base P.length cap) cells → cells.length = P.length → (l.map (·.1)).Nodup → (∀ x ∈ l, 1000 ≤ x.1 ∧ ∃ g t cs, x.2 = .box g t cs) →
   (∀ W, V2.le W → (∀ x ∈ l, ∀ g t cs, x.2 = .box g t cs → W.has g 0 cs) → CellsAt W P cells) →
   (∀ (i : Nat) (r : List Val) (c : Value), P[i]? = some r → cells[i]? = some c → ∃ b cp, c = .slice b r.length cp ∧ (r ≠ [] → ∃ g off, b = some ⟨g, off, none⟩ ∧ ∃ x ∈ l, ∃ t cs, x.2 = .box g t cs ∧ off + r.length * 3 ≤ cs.length)) →
   K (.v (.tuple #[.slice base P.length cap, .int .i64 S.2])) V2 (joinT mem l)) : CallN Tryz.prog f args V mem K := by
 refine CallN.thaw h (fun i r hi => ?_) fun v V' bs hle ⟨x, hv, hok, hbad⟩ => ?_
 ·rcases Nat.lt_or_ge i 1000 with h1 | h1
  ·exact h1
  ·have := hd (i - 1000)
   rw [show i - 1000 + 1000 = i by omega, hi] at this
   cases this
 have hN : NewV V (if S.2 = 0 then S.1 else []) x V' := by
  by_cases h0 : S.2 = 0
  ·rw [if_pos h0]; exact hok h0
  ·rw [if_neg h0, hbad h0]; exact NewV.nil hle (.inl rfl)
 generalize hP : (if S.2 = 0 then S.1 else []) = P at hN
 obtain ⟨base, cap, cells, W, hx, hVW, hWV, hWc, hc⟩ := hN
 subst hx; subst hv
 -- a row that is not empty
 have hrow : ∀ (i : Nat) (r : List Val) (c : Value), P[i]? = some r → cells[i]? = some c → ∃ b cp, c = .slice b r.length cp ∧ PlainR r b ∧ (r.length ≤ 9223372036854775807) ∧ (r ≠ [] → ∃ g off, b = some ⟨g, off, none⟩ ∧ (∀ k, W g k = none) ∧ V'.has g off (r.flatMap vcells)) := fun i r c h1 h2 => by
  obtain ⟨b, cp, hcv, hp, hva⟩ := hc.at' i r c h1 h2
  refine ⟨b, cp, hcv, hp, hva.len, fun hr => ?_⟩
  obtain ⟨g, off, hb, hh⟩ := hva.has hr
  obtain ⟨y, l', hy⟩ := List.exists_cons_of_ne_nil hr
  exact ⟨g, off, hb, (View.new_some (hh 0 (.int .i64 y.k) (by rw [hy]; rfl))).1, hh.mono View.new_le⟩
 have hgs : ∀ g ∈ cells.filterMap hdBlk, (∀ k, W g k = none) ∧ ∃ o u, V' g o = some u := fun g hg => by
  obtain ⟨c, hcm, hcg⟩ := List.mem_filterMap.1 hg
  obtain ⟨i, hi⟩ := List.mem_iff_getElem?.1 hcm
  obtain ⟨r, hr⟩ : ∃ r, P[i]? = some r := ⟨_, List.getElem?_eq_getElem (by rw [← hc.len]; exact (List.getElem?_eq_some_iff.1 hi).1)⟩
  obtain ⟨b, cp, hcv, _, _, hne⟩ := hrow i r c hr hi
  have hrn : r ≠ [] := fun e => by
   subst e; subst hcv
   cases b <;> simp [hdBlk] at hcg
  obtain ⟨g', off, hb, hw, hh⟩ := hne hrn
  subst hb; subst hcv
  obtain ⟨y, l', hy⟩ := List.exists_cons_of_ne_nil hrn
  subst hy
  simp only [hdBlk, List.length_cons, Option.some.injEq] at hcg
  subst hcg
  exact ⟨hw, _, _, hh 0 (.int .i64 y.k) rfl⟩
 refine ⟨cells.filterMap hdBlk, fun g hg => ⟨View.none_of hVW (hgs g hg).1, (hgs g hg).2⟩, fun hV2 l hnd hl hall => ?_⟩
 refine k P base cap cells _ l hP.symm hV2 ?_ hc.len hnd (fun x hx => ⟨(hl x hx).1, by obtain ⟨_, g, t, cs, h, _⟩ := hl x hx; exact ⟨g, t, cs, h⟩⟩) (fun W2 hW2 hbx => ⟨hc.len, fun i r c h1 h2 => ?_⟩) fun i r c h1 h2 => ?_
 ·rcases plain_cells hWc with rfl | ⟨p, o, rfl⟩
  ·exact hWc
  ·exact fun i u hi => View.cutL_of (fun hp => by have := (hgs p hp).1 (o + i); rw [hWc i u hi] at this; cases this) (hWV _ _ _ (hWc i u hi))
 ·obtain ⟨b, cp, hcv, hp, hlen, hne⟩ := hrow i r c h1 h2
  refine ⟨b, cp, hcv, hp, ⟨fun hr => ?_, hlen⟩⟩
  obtain ⟨g, off, hb, _, hh⟩ := hne hr
  refine ⟨g, off, hb, fun j u hj => ?_⟩
  have hgm : g ∈ cells.filterMap hdBlk := List.mem_filterMap.2 ⟨c, List.mem_of_getElem? h2, by
   subst hb; subst hcv
   obtain ⟨y, l', rfl⟩ := List.exists_cons_of_ne_nil hr
   rfl⟩
  obtain ⟨x, hx, t, cs, hxe⟩ := hall g hgm
  obtain ⟨_, g', t', cs', hxe', hcs⟩ := hl x hx
  rw [hxe] at hxe'
  simp only [Res.box.injEq] at hxe'
  obtain ⟨rfl, rfl, rfl⟩ := hxe'
  have := hbx x hx g t cs hxe (off + j) u (hcs _ _ (hh j u hj))
  rwa [Nat.zero_add] at this
 ·obtain ⟨b, cp, hcv, hp, hlen, hne⟩ := hrow i r c h1 h2
  refine ⟨b, cp, hcv, fun hr => ?_⟩
  obtain ⟨g, off, hb, _, hh⟩ := hne hr
  have hgm : g ∈ cells.filterMap hdBlk := List.mem_filterMap.2 ⟨c, List.mem_of_getElem? h2, by
   subst hb; subst hcv
   obtain ⟨y, l', rfl⟩ := List.exists_cons_of_ne_nil hr
   rfl⟩
  obtain ⟨x, hx, t, cs, hxe⟩ := hall g hgm
  obtain ⟨_, g', t', cs', hxe', hcs⟩ := hl x hx
  rw [hxe] at hxe'
  simp only [Res.box.injEq] at hxe'
  obtain ⟨rfl, rfl, rfl⟩ := hxe'
  refine ⟨g, off, hb, x, hx, t, cs, hxe, ?_⟩
  have hfl := flat_len (f := vcells) (n := 3) (fun _ => rfl) r
  have hpos := List.length_pos_iff.2 hr
  obtain ⟨u, hu⟩ : ∃ u, (r.flatMap vcells)[r.length * 3 - 1]? = some u := ⟨_, List.getElem?_eq_getElem (by omega)⟩
  have := (List.getElem?_eq_some_iff.1 (hcs _ _ (hh _ _ hu))).1
  omega
end Go.Proofs.YtenpginanhnkbaaGreat
end
