/- One part of a proof: an evaluator of the model, shown right, and contracts that it yields. No condition beyond those that each theorem names. -/
import Derived.Test.YtenpginanhnkbaaCH
import Derived.Test.YtenpginanhnkbaaXY
import Derived.Test.YtenpginanhnkbaaCQ
import Derived.Test.YtenpginanhnkbaaCR
import Derived.Test.YtenpginanhnkbaaCT
import Derived.Test.YtenpginanhnkbaaCS
section
set_option linter.unusedSimpArgs false
set_option linter.unusedVariables false
namespace Go.Proofs.Ytenpginanhnkbaa
open Go.X
set_option maxRecDepth 100000

/-- a row, and its own block -/
theorem rowO_spec (b : Nat) (s : Src) (k : Int) (hk : FarOk s k) (cols : List ColT) (nm : ByteArray) (p n cap : Nat) (q : Option Addr) (ql qc : Nat) (V : View) (hs : s.ok V) (h : ColsLie V cols p) (hn : n = cols.length) :
    Does Try.prog 19 [.pointer (some ⟨b, 0, none⟩), .agg #[.string nm, .slice (some ⟨p, 0, none⟩) n cap, .slice q ql qc]] V [picks b s k]
      (fun v V' bs => ∃ l base rcap k', v = .slice base l.length rcap ∧ l.length ≤ rcap ∧ V'.cells v (l.flatMap vcells) ∧ RowC cols l ∧ FarOk s k' ∧ bs = [.row v 38 3 l.length, picks b s k']) := by
  subst hn
  have hsm := h.small
  refine does_of_zfun [] mixed (args := [.own 0 0, .v _]) (ms := [(0, picks b s k)]) Try.func19 (by kernel_rfl) rfl ?_
  conv => whnf
  repeat' first
    | (refine br_t rfl ?_; conv => whnf)
    | (refine br_f rfl ?_; conv => whnf)
    | (refine IdxN.lit rfl rfl ?_; conv => whnf)
    | (intro _; conv => whnf)
  rename_i blk
  refine loopz (σ := Nat × Option Addr × Nat × List Val × Int)
    (fun x => [(0, .own 0 0), (3, .own 3 0), (5, .row 24), (6, .v (.int .i64 x.1))])
    (fun x => [(0, picks b s x.2.2.2.2), (3, .box blk 27 [.string nm, .slice (some ⟨p, 0, none⟩) cols.length cap, .slice q ql qc]), (24, .row (.slice x.2.1 x.2.2.2.1.length x.2.2.1) 38 3 x.2.2.2.1.length)])
    (fun j x V' => V.le V' ∧ x.1 ≤ cols.length ∧ cols.length - x.1 = j ∧ x.2.2.2.1.length = x.1 ∧ (∀ (m : Nat) (c : ColT) (v : Val), cols[m]? = some c → x.2.2.2.1[m]? = some v → KindV c.kind v) ∧ FarOk s x.2.2.2.2 ∧ V'.cells (.slice x.2.1 x.2.2.2.1.length x.2.2.1) (x.2.2.2.1.flatMap vcells) ∧ x.2.2.2.1.length ≤ x.2.2.1)
    cols.length (0, none, 0, [], k) ?_ ?_ ?_ ?_
  · repeat' (first | exact sees_nil | refine sees_cons rfl rfl rfl ?_)
  · repeat' (first | exact keeps_nil | refine keeps_cons rfl ?_ | refine keeps_free ?_)
  · exact ⟨View.le_refl _, Nat.zero_le _, by simp, rfl, fun m c v _ hv => by simp at hv, hk, rfl, Nat.le_refl _⟩
  rintro j ⟨i, base, cp, l, k1⟩ V' ⟨hV, hi, hj, hl, hkd, hf, hc, hcp⟩
  simp only at hi hj hl hkd hf hc hcp
  conv => whnf
  apply br <;> intro h3 <;> conv => whnf
  · have hi1 : i < cols.length := by have := of_decide_eq_true h3; omega
    obtain ⟨c, hc1⟩ : ∃ c, cols[i]? = some c := ⟨_, List.getElem?_eq_getElem hi1⟩
    have hcc := has_flat (n := 3) (fun _ => rfl) cols 0 h.has i c hc1
    refine IdxN.of (by omega) (by omega) ?_
    conv => whnf
    refine LoadN.of (hcc.mono (by repeat (first | exact View.le_refl _ | assumption | exact View.addU_le _ _ _ | refine View.le_trans ?_ (by assumption) | refine View.le_trans ?_ (View.addU_le _ _ _)))) 1 rfl rfl ?_
    conv => whnf
    refine CallN.box 0 rfl (value_spec b s k1 c.kind hf (h.kinds c (List.mem_of_getElem? hc1)) _ (hs.mono (by repeat (first | exact View.le_refl _ | assumption | exact View.addU_le _ _ _ | refine View.le_trans ?_ (by assumption) | refine View.le_trans ?_ (View.addU_le _ _ _))))) fun v V2 bs hV2 ⟨x, k2, hv, hx, hf2, hb2⟩ => ⟨85, picksC s k2, hb2, ?_⟩
    subst hv
    conv => whnf
    intro b3 V3 hV3 h4
    conv => whnf
    refine AppN.toc (l ++ [x]).length (by simp) (l.flatMap vcells) (vcells x) (hc.mono (by repeat (first | exact View.le_refl _ | assumption | exact View.addU_le _ _ _ | refine View.le_trans ?_ (by assumption) | refine View.le_trans ?_ (View.addU_le _ _ _)))) (flat_len (f := vcells) (n := 3) (fun _ => rfl) l) h4 rfl rfl (by simp; omega) (by decide) fun base' cap' V4 hV4 hc4 hcp4 => ?_
    conv => whnf
    have hw := wrap_nat (i := i) (by omega)
    refine ⟨j - 1, (i + 1, base', cap', l ++ [x], k2), by omega, ?_, ?_, ?_⟩
    · repeat' (first | exact sees_nil | refine sees_cons rfl rfl rfl ?_ | refine sees_cons rfl rfl (by rw [← hw]; rfl) ?_)
    · repeat' (first | exact keeps_nil | refine keeps_cons rfl ?_ | refine keeps_free ?_)
    · refine ⟨View.le_trans hV (by repeat (first | exact View.le_refl _ | assumption | exact View.addU_le _ _ _ | refine View.le_trans ?_ (by assumption) | refine View.le_trans ?_ (View.addU_le _ _ _))), hi1, by show _ - (i + 1) = _; omega, by simp [hl], fun m c' v hm hv => ?_, hf2, by rw [List.flatMap_append]; simpa using hc4, hcp4⟩
      by_cases hml : m < l.length
      · rw [List.getElem?_append_left hml] at hv
        exact hkd m c' v hm hv
      · rw [List.getElem?_append_right (by omega)] at hv
        cases hd : m - l.length with
        | zero =>
          rw [hd] at hv
          simp only [List.getElem?_cons_zero, Option.some.injEq] at hv
          have : m = i := by omega
          subst this; subst hv
          rw [hc1, Option.some.injEq] at hm
          subst hm; exact hx
        | succ d => rw [hd] at hv; simp at hv
  · have hi1 : i = cols.length := by have := of_decide_eq_false h3; omega
    exact ⟨[24, 0], by simp, [_, picks b s k1], rfl, l, base, cp, k1, rfl, hcp, hc, ⟨by omega, hkd⟩, hf, rfl⟩
end Go.Proofs.Ytenpginanhnkbaa
end

section
set_option linter.unusedSimpArgs false
set_option linter.unusedVariables false
namespace Go.Proofs.Ytenpginanhnkbaa
open Go.X
set_option maxRecDepth 100000

/-! ## what sorting does -/
section
variable {α : Type}
theorem kOf_facts (lt : α → α → Bool) (x : α) (l : List α) : ∀ n, n ≤ l.length → (∀ j, kOf lt x l n ≤ j → j < n → ∀ y, l[j]? = some y → lt x y = true) ∧ (kOf lt x l n = 0 ∨ ∃ y, l[kOf lt x l n - 1]? = some y ∧ lt x y = false)
  | 0, _ => ⟨fun j _ h => by omega, .inl rfl⟩
  | n + 1, hn => by
    obtain ⟨y, hy⟩ : ∃ y, l[n]? = some y := ⟨_, List.getElem?_eq_getElem (by omega)⟩
    obtain ⟨h1, h2⟩ := kOf_facts lt x l n (by omega)
    rw [kOf, hy]
    cases h : lt x y with
    | true =>
      simp only [h, if_true]
      refine ⟨fun j hj hjn z hz => ?_, h2⟩
      by_cases hjn2 : j = n
      · subst hjn2; rw [hy] at hz; cases hz; exact h
      · exact h1 j hj (by omega) z hz
    | false =>
      simp only [h, Bool.false_eq_true, if_false]
      exact ⟨fun j hj hjn => by omega, .inr ⟨y, hy, h⟩⟩
def Stands (lt : α → α → Bool) (idx : α → Nat) (a b : α) : Prop := lt b a = false ∧ (lt a b = false → idx a < idx b)
theorem insF_stands {lt : α → α → Bool} {idx : α → Nat} (has : ∀ a b, lt a b = true → lt b a = false) (htr : ∀ a b c, lt b a = false → lt c b = false → lt c a = false) {x : α} {l : List α}
    (hl : l.Pairwise (Stands lt idx)) (hi : ∀ y ∈ l, idx y < idx x) : (insF lt x l).Pairwise (Stands lt idx) := by
  obtain ⟨h1, h2⟩ := kOf_facts lt x l l.length (Nat.le_refl _)
  unfold insF insAt
  have hk := kOf_le lt x l l.length
  generalize kOf lt x l l.length = k at *
  have hsplit := hl
  rw [← List.take_append_drop k l, List.pairwise_append] at hsplit
  obtain ⟨p1, p2, p3⟩ := hsplit
  have hd : ∀ y ∈ l.drop k, lt x y = true := fun y hy => by
    obtain ⟨j, hj⟩ := List.mem_iff_getElem?.1 hy
    rw [List.getElem?_drop] at hj
    exact h1 (k + j) (by omega) (List.getElem?_eq_some_iff.1 hj).1 y hj
  have ht : ∀ y ∈ l.take k, lt x y = false := fun y hy => by
    obtain ⟨j, hj⟩ := List.mem_iff_getElem?.1 hy
    rw [List.getElem?_take] at hj
    split at hj
    · rename_i hjk
      rcases h2 with h2 | ⟨z, hz, hxz⟩
      · omega
      · by_cases hjk1 : j = k - 1
        · subst hjk1; rw [hj] at hz; cases hz; exact hxz
        · have hyz : Stands lt idx y z := by
            have hjl := (List.getElem?_eq_some_iff.1 hj)
            have hzl := (List.getElem?_eq_some_iff.1 hz)
            have := List.pairwise_iff_getElem.1 hl j (k - 1) hjl.1 hzl.1 (by omega)
            rw [hjl.2, hzl.2] at this
            exact this
          exact htr y z x hyz.1 hxz
    · cases hj
  refine List.pairwise_append.2 ⟨p1, List.pairwise_cons.2 ⟨fun y hy => ⟨has x y (hd y hy), fun h => ?_⟩, p2⟩, fun y hy z hz => ?_⟩
  · rw [hd y hy] at h; cases h
  · rcases List.mem_cons.1 hz with rfl | hz
    · exact ⟨ht y hy, fun _ => hi y (List.mem_of_mem_take hy)⟩
    · exact p3 y hy z hz
theorem insF_mem2 {lt : α → α → Bool} {x y : α} {l : List α} (h : y = x ∨ y ∈ l) : y ∈ insF lt x l := by
  unfold insF insAt
  rcases h with rfl | h
  · exact List.mem_append_right _ List.mem_cons_self
  · rw [← List.take_append_drop (kOf lt x l l.length) l] at h
    rcases List.mem_append.1 h with h | h
    · exact List.mem_append_left _ h
    · exact List.mem_append_right _ (List.mem_cons_of_mem _ h)
theorem sortF_mem2 {lt : α → α → Bool} {y : α} : ∀ {l acc : List α}, y ∈ acc ∨ y ∈ l → y ∈ sortF lt acc l
  | [], acc, h => by
    rcases h with h | h
    · exact h
    · cases h
  | x :: l, acc, h => by
    rw [sortF]
    refine sortF_mem2 ?_
    rcases h with h | h
    · exact .inl (insF_mem2 (.inr h))
    · rcases List.mem_cons.1 h with rfl | h
      · exact .inl (insF_mem2 (.inl rfl))
      · exact .inr h
theorem sortF_stands {lt : α → α → Bool} {idx : α → Nat} (has : ∀ a b, lt a b = true → lt b a = false) (htr : ∀ a b c, lt b a = false → lt c b = false → lt c a = false) :
    ∀ {l acc : List α}, acc.Pairwise (Stands lt idx) → l.Pairwise (fun a b => idx a < idx b) → (∀ a ∈ acc, ∀ b ∈ l, idx a < idx b) → (sortF lt acc l).Pairwise (Stands lt idx)
  | [], acc, h, _, _ => h
  | x :: l, acc, h, hl, hal => by
    rw [sortF]
    obtain ⟨h1, h2⟩ := List.pairwise_cons.1 hl
    refine sortF_stands has htr (insF_stands has htr h fun y hy => hal y hy x List.mem_cons_self) h2 fun a ha b hb => ?_
    rcases insF_mem ha with rfl | ha
    · exact h1 b hb
    · exact hal a ha b (List.mem_cons_of_mem _ hb)
end
end Go.Proofs.Ytenpginanhnkbaa
end

section
set_option linter.unusedSimpArgs false
set_option linter.unusedVariables false
namespace Go.Proofs.Ytenpginanhnkbaa
open Go.X
set_option maxRecDepth 100000

/-- a row that is handed over as an own box, with further resources -/
theorem Does.toBoxR {P : Program} {f : FuncId} {args : List Value} {V : View} {R : Value → View → List Res → Prop} {Q : Value → View → List Res → Prop} (h : Does P f args V [] R)
    (hR : ∀ v V' bs, V.le V' → R v V' bs → Q v V' bs ∨ ∃ base cap n ty z known rest, v = .slice base n cap ∧ bs = .row v ty z n :: rest ∧ 0 < n ∧ known.length = n * z ∧ V'.cells v known ∧
      ∀ g ex, base = some ⟨g, 0, none⟩ → (∀ r ∈ rest, r.blk ≠ some g) → Q v (V'.cut g) (.box g ty (known ++ ex) :: rest)) :
    Does P f args V [] Q := by
  intro w hw
  refine (h w hw).mono fun e w' ⟨v, V', bs, he, hr, hp, hk, hg, hn⟩ => ?_
  rcases hR v V' bs hg.1 hr with hQ | ⟨base, cap, n, ty, z, known, rest, hv, hbs, h0, hl, hkn, hQ⟩
  · exact ⟨v, V', bs, he, hQ, hp, hk, hg, hn⟩
  subst hv; subst hbs
  have hok : Res.ok w' V' (.row (.slice base n cap) ty z n) := hp.ok 0 _ rfl
  rcases hok with ⟨base', _, h2⟩ | ⟨g, cap', cur, hv', hc0, hheap, hn1, hn2, hsz, hfree⟩
  · omega
  simp only [Value.slice.injEq, true_and] at hv'
  obtain ⟨rfl, rfl⟩ := hv'
  have hkn : V'.has g 0 known := hkn
  have hbl : (Res.row (.slice (some ⟨g, 0, none⟩) n cap) ty z n).blk = some g := by simp [Res.blk, rowBlk, hc0]
  have hgn : w.heap.size ≤ g := by
    rcases hn g ⟨_, List.mem_cons_self, hbl⟩ with ⟨r, hr, _⟩ | h1
    · cases hr
    · exact h1
  have hnone : ∀ o, V g o = none := fun o => by
    cases hv : V g o with
    | none => rfl
    | some v => exact absurd (sub_lt hw.sub hv) (by omega)
  have hcur : cur.toList = known ++ cur.toList.drop (n * z) := by
    have e : cur.toList.take (n * z) = known := by
      apply List.ext_getElem?
      intro i
      rw [List.getElem?_take]
      split
      · rename_i hi
        obtain ⟨x, hx⟩ : ∃ x, known[i]? = some x := ⟨_, List.getElem?_eq_getElem (by omega)⟩
        have := hp.sub g (0 + i) x (hkn i x hx)
        rw [World.cell?, hheap] at this
        simp only [Option.isSome_none, Bool.false_eq_true, if_false, Nat.zero_add] at this
        rw [hx, ← this]
        simp
      · rw [List.getElem?_eq_none (by omega)]
    rw [← e, List.take_append_drop]
  have hap : ∀ r ∈ rest, r.blk ≠ some g := fun r hr => by
    obtain ⟨i, hi⟩ := List.mem_iff_getElem?.1 hr
    exact hp.apart 0 (i + 1) _ r g (by omega) rfl (by simpa using hi) hbl
  have hVc : V.le (V'.cut g) := fun k o u hu => View.cut_of (hg.1 k o u hu) fun e => by rw [e, hnone o] at hu; cases hu
  refine ⟨_, V'.cut g, .box g ty (known ++ cur.toList.drop (n * z)) :: rest, he, hQ _ _ rfl hap, ⟨fun b o v hv => hp.sub b o v (View.cut_some hv).2, ?_, ?_⟩, hk, ⟨hVc, fun b o u hu => hg.2 b o u (View.cut_some hu).2⟩, ?_⟩
  · intro i r hr
    cases i with
    | zero =>
      simp only [List.getElem?_cons_zero, Option.some.injEq] at hr
      subst hr
      exact ⟨by rw [← hcur]; exact hheap, fun o => by unfold View.cut; rw [if_pos rfl]⟩
    | succ i =>
      refine (hp.ok (i + 1) r (by simpa using hr)).keep (fun _ _ => rfl) fun b' _ o hn => ?_
      unfold View.cut
      split
      · rfl
      · exact hn
  · intro i j r r' c hij hi hj hb hb'
    have key : ∀ (i : Nat) (r : Res), (Res.box g ty (known ++ cur.toList.drop (n * z)) :: rest)[i]? = some r → ∃ r0, (Res.row (.slice (some ⟨g, 0, none⟩) n cap) ty z n :: rest)[i]? = some r0 ∧ r0.blk = r.blk := fun i r hi => by
      cases i with
      | zero =>
        simp only [List.getElem?_cons_zero, Option.some.injEq] at hi
        subst hi
        exact ⟨_, rfl, hbl⟩
      | succ i => exact ⟨r, by simpa using hi, rfl⟩
    obtain ⟨r0, h1, h2⟩ := key i r hi
    obtain ⟨r0', h3, h4⟩ := key j r' hj
    exact hp.apart i j r0 r0' c hij h1 h3 (h2.trans hb) (h4.trans hb')
  · rintro c ⟨r, hr, hc⟩
    rcases List.mem_cons.1 hr with rfl | hr
    · simp only [Res.blk, Option.some.injEq] at hc
      exact .inr (by omega)
    · exact hn c ⟨r, List.mem_cons_of_mem _ hr, hc⟩
theorem dynR_ids {mk : Value → Res} {mem : Nat → Option Res} : ∀ (l : List Value) (k : Nat), (∀ j c, l[j]? = some c → mem (k + j + 1000) = some (mk c)) → ((dynR mk k l).map (·.1)).map mem = (l.map mk).map some
  | [], k, _ => rfl
  | c :: l, k, h => by
    show mem (k + 1000) :: _ = some (mk c) :: _
    have h0 := h 0 c rfl
    rw [Nat.add_zero] at h0
    rw [h0]
    congr 1
    exact dynR_ids l (k + 1) fun j c' hj => by
      have := h (j + 1) c' (by simpa using hj)
      rw [show k + 1 + j + 1000 = k + (j + 1) + 1000 by omega]
      exact this
abbrev mkRow (c : Value) : Res := .row c 38 3 3
/-- a row does not lie in a block that is not its own -/
theorem RowAt.cut {V : View} {r : List Val} {base : Option Addr} {cap g : Nat} (h : RowAt V r (.slice base r.length cap)) (hr : r.length = 3) (h3 : 3 ≤ cap) (hb : (mkRow (.slice base r.length cap)).blk ≠ some g) : RowAt (V.cut g) r (.slice base r.length cap) := by
  obtain ⟨base', cap', he, hp, hv⟩ := h
  simp only [Value.slice.injEq, true_and] at he
  obtain ⟨rfl, rfl⟩ := he
  refine ⟨base, cap, rfl, hp, ?_⟩
  have hr0 : r ≠ [] := fun e => by rw [e] at hr; cases hr
  obtain ⟨p, off, hbase, hvals⟩ := hv.has hr0
  subst hbase
  have hpg : p ≠ g := fun e => hb (by simp [Res.blk, rowBlk, e]; omega)
  exact ⟨fun _ => ⟨p, off, rfl, fun i u hu => View.cut_of (hvals i u hu) hpg⟩, hv.len⟩
theorem rowsO_spec (s : Src) (cols : List ColT) (nm : ByteArray) (p n cap : Nat) (q : Option Addr) (ql qc most : Nat) (V : View) (hs : s.ok V) (h : ColsLie V cols p) (hn : n = cols.length) (hm : most ≤ 100) (h3' : cols.length = 3) :
    Does Try.prog 31 [s.slice, .agg #[.string nm, .slice (some ⟨p, 0, none⟩) n cap, .slice q ql qc], .int .i64 most] V []
      (fun v V' bs => ∃ rows base rcap, v = .slice base rows.length rcap ∧ (∀ r ∈ rows, RowC cols r) ∧ rows.length ≤ most ∧ ((rows = [] ∧ bs = []) ∨ ∃ g cells ex, rows ≠ [] ∧ base = some ⟨g, 0, none⟩ ∧ CellsAt V' rows cells ∧ (∀ (i : Nat) (c : Value), cells[i]? = some c → ∃ b cp, c = .slice b 3 cp) ∧ bs = .box g 45 (cells ++ ex) :: cells.map mkRow)) := by
  subst hn
  have main : Does Try.prog 31 [s.slice, .agg #[.string nm, .slice (some ⟨p, 0, none⟩) cols.length cap, .slice q ql qc], .int .i64 most] V []
      (fun v V' bs => ∃ rows base rcap, v = .slice base rows.length rcap ∧ (∀ r ∈ rows, RowC cols r) ∧ rows.length ≤ most ∧ ((rows = [] ∧ bs = []) ∨ ∃ cells, rows ≠ [] ∧ CellsAt V' rows cells ∧ V'.cells v cells ∧ (∀ (i : Nat) (c : Value), cells[i]? = some c → ∃ b cp, c = .slice b 3 cp ∧ 3 ≤ cp) ∧ bs = .row v 45 1 rows.length :: cells.map mkRow)) := by
    refine does_of_zfun [] mixed (args := [.v _, .v _, .v _]) (ms := []) Try.func31 (by kernel_rfl) rfl ?_
    conv => whnf
    repeat' first
      | (refine br_t rfl ?_; conv => whnf)
      | (refine br_f rfl ?_; conv => whnf)
      | (refine IdxN.lit rfl rfl ?_; conv => whnf)
      | (intro _; conv => whnf)
    rename_i blk
    refine CallN.new 10 rfl (made_spec s _) fun v V1 bs hV1 ⟨b, hv, hb⟩ => ⟨picks b s 0, .own 10 0, hb, by subst hv; rfl, ?_⟩
    subst hv
    conv => whnf
    have far : FarOk s 0 := ⟨by decide, by omega⟩
    refine loopz (σ := Option Addr × Nat × List (List Val) × List Value × Int)
      (fun x => [(2, .v (.int .i64 most)), (4, .own 4 0), (7, .own 10 0), (8, .row 25)])
      (fun x => (4, .box blk 27 [.string nm, .slice (some ⟨p, 0, none⟩) cols.length cap, .slice q ql qc]) :: (10, picks b s x.2.2.2.2) :: (25, .row (.slice x.1 x.2.2.1.length x.2.1) 45 1 x.2.2.1.length) :: dynR mkRow 0 x.2.2.2.1)
      (fun j x V' => V1.le V' ∧ x.2.2.1.length ≤ most ∧ most - x.2.2.1.length = j ∧ FarOk s x.2.2.2.2 ∧ CellsAt V' x.2.2.1 x.2.2.2.1 ∧ V'.cells (.slice x.1 x.2.2.1.length x.2.1) x.2.2.2.1 ∧ (∀ r ∈ x.2.2.1, RowC cols r) ∧ (∀ (i : Nat) (c : Value), x.2.2.2.1[i]? = some c → ∃ b cp, c = .slice b 3 cp ∧ 3 ≤ cp))
      most (none, 0, [], [], 0) ?_ ?_ ?_ ?_
    · repeat' (first | exact sees_nil | refine sees_cons rfl rfl rfl ?_)
    · repeat' (first | exact keeps_nil | refine keeps_cons rfl ?_ | refine keeps_free ?_)
    · exact ⟨View.le_refl _, Nat.zero_le _, rfl, far, CellsAt.nil, rfl, fun r hr => (by cases hr), fun i c hc => by simp at hc⟩
    rintro j ⟨base, cp, rows, cells, k1⟩ V' ⟨hV, hi, hj, hf, hc, hcl, hk, hcp⟩
    simp only at hi hj hf hc hcl hk hcp
    conv => whnf
    refine CallN.box 10 rfl (over_spec b s k1 hf _) fun v V2 bs hV2 ⟨hv, hb2⟩ => ⟨85, picksC s k1, hb2, ?_⟩
    subst hv
    conv => whnf
    apply br <;> intro h3 <;> conv => whnf
    · repeat (refine br_t h3 ?_; conv => whnf)
      apply br <;> intro h4 <;> conv => whnf
      · have hi0 : (rows.length : Int) < most := of_decide_eq_true h4
        have hi1 : rows.length < most := by omega
        refine CallN.boxNew 10 (rows.length + 1000) rfl ?_ (rowO_spec b s k1 hf cols nm p cols.length cap q ql qc _ (hs.mono (by repeat (first | exact View.le_refl _ | assumption | exact View.addU_le _ _ _ | refine View.le_trans ?_ (by assumption) | refine View.le_trans ?_ (View.addU_le _ _ _)))) (h.mono (by repeat (first | exact View.le_refl _ | assumption | exact View.addU_le _ _ _ | refine View.le_trans ?_ (by assumption) | refine View.le_trans ?_ (View.addU_le _ _ _)))) rfl) fun v V3 bs hV3 ⟨l, rb, rcap, k2, hv, hlc, hl, hrc, hf2, hb3⟩ => ⟨85, picksC s k2, .row v 38 3 l.length, hb3, ?_⟩
        · show memOf (dynR mkRow 0 cells) (rows.length + 1000) = none
          rw [memOf_dynR, if_pos (Nat.zero_le _), Nat.sub_zero, List.getElem?_eq_none (by rw [hc.len]; exact Nat.le_refl _)]
        subst hv
        have hl3 : l.length = 3 := by rw [hrc.len, h3']
        conv => whnf
        intro b4 V4 hV4 h5
        conv => whnf
        refine AppN.toc (rows ++ [l]).length (by simp) cells [.slice rb l.length rcap] (hcl.mono (by repeat (first | exact View.le_refl _ | assumption | exact View.addU_le _ _ _ | refine View.le_trans ?_ (by assumption) | refine View.le_trans ?_ (View.addU_le _ _ _)))) (by rw [hc.len]; exact (Nat.mul_one _).symm) h5 rfl rfl (by simp; omega) (by decide) fun base' cap' V5 hV5 hc5 hcp5 => ?_
        conv => whnf
        refine ⟨j - 1, (base', cap', rows ++ [l], cells ++ [.slice rb l.length rcap], k2), by omega, ?_, ?_, ?_⟩
        · repeat' (first | exact sees_nil | refine sees_cons rfl rfl rfl ?_)
        · refine keeps_cons rfl (keeps_cons rfl (keeps_cons rfl (keeps_dynR _ 0 fun j c hj => ?_)))
          show (match Nat.beq (0 + j + 1000) (rows.length + 1000) with | true => some (Res.row (.slice rb l.length rcap) 38 3 l.length) | false => memOf (dynR mkRow 0 cells) (0 + j + 1000)) = _
          have hj : (cells ++ [Value.slice rb l.length rcap])[j]? = some c := hj
          by_cases hjl : j = cells.length
          · rw [List.getElem?_append_right (by omega), hjl, Nat.sub_self] at hj
            simp only [List.getElem?_cons_zero, Option.some.injEq] at hj
            rw [show 0 + j + 1000 = rows.length + 1000 by rw [hjl, hc.len]; omega, (show Nat.beq (rows.length + 1000) (rows.length + 1000) = true from Nat.beq_refl _), ← hj, hl3]
          · have hjlt : j < cells.length := by
              have := (List.getElem?_eq_some_iff.1 hj).1
              simp only [List.length_append, List.length_cons, List.length_nil] at this
              omega
            rw [List.getElem?_append_left hjlt] at hj
            have hbq : Nat.beq (0 + j + 1000) (rows.length + 1000) = false := by
              cases hb : Nat.beq (0 + j + 1000) (rows.length + 1000) with
              | false => rfl
              | true =>
                have := Nat.eq_of_beq_eq_true hb
                have := hc.len
                omega
            rw [hbq, Nat.zero_add]
            show memOf (dynR mkRow 0 cells) (j + 1000) = _
            rw [memOf_dynR, if_pos (Nat.zero_le _), Nat.sub_zero, hj]
        · refine ⟨View.le_trans hV (by repeat (first | exact View.le_refl _ | assumption | exact View.addU_le _ _ _ | refine View.le_trans ?_ (by assumption) | refine View.le_trans ?_ (View.addU_le _ _ _))), by simp; omega, by simp; omega, hf2, (hc.mono (by repeat (first | exact View.le_refl _ | assumption | exact View.addU_le _ _ _ | refine View.le_trans ?_ (by assumption) | refine View.le_trans ?_ (View.addU_le _ _ _)))).snoc ⟨rb, rcap, rfl, .inr (plain_cells (hl.mono (by repeat (first | exact View.le_refl _ | assumption | exact View.addU_le _ _ _ | refine View.le_trans ?_ (by assumption) | refine View.le_trans ?_ (View.addU_le _ _ _))))), ValsAt.of_cells (hl.mono (by repeat (first | exact View.le_refl _ | assumption | exact View.addU_le _ _ _ | refine View.le_trans ?_ (by assumption) | refine View.le_trans ?_ (View.addU_le _ _ _)))) (by omega)⟩, hc5, fun r hr => ?_, fun i c hic => ?_⟩
          · rcases List.mem_append.1 hr with h6 | h6
            · exact hk r h6
            · rw [List.mem_singleton.1 h6]; exact hrc
          · by_cases hil : i < cells.length
            · rw [List.getElem?_append_left hil] at hic; exact hcp i c hic
            · rw [List.getElem?_append_right (by omega)] at hic
              have : c = .slice rb l.length rcap := by
                cases hd : i - cells.length with
                | zero => rw [hd] at hic; simpa using hic.symm
                | succ d => rw [hd] at hic; simp at hic
              exact ⟨rb, rcap, by rw [this, hl3], by omega⟩
      · by_cases h0 : rows = []
        · refine ⟨[], List.nodup_nil, [], rfl, ?_⟩
          exact ⟨rows, base, cp, rfl, hk, hi, .inl ⟨h0, rfl⟩⟩
        · refine ⟨25 :: (dynR mkRow 0 cells).map (·.1), ?_, .row (.slice base rows.length cp) 45 1 rows.length :: cells.map mkRow, ?_, ?_⟩
          · refine List.nodup_cons.2 ⟨fun hin => ?_, dynR_nodup _ _⟩
            have := dynR_fst _ _ _ hin
            omega
          · show _ :: _ = _ :: _
            congr 1
            refine dynR_ids cells 0 fun j c hj => ?_
            show memOf (dynR mkRow 0 cells) (0 + j + 1000) = _
            rw [Nat.zero_add, memOf_dynR, if_pos (Nat.zero_le _), Nat.sub_zero, hj]
          · exact ⟨rows, base, cp, rfl, hk, hi, .inr ⟨cells, h0, hc.mono (by repeat (first | exact View.le_refl _ | assumption | exact View.addU_le _ _ _ | refine View.le_trans ?_ (by assumption) | refine View.le_trans ?_ (View.addU_le _ _ _))), hcl.mono (by repeat (first | exact View.le_refl _ | assumption | exact View.addU_le _ _ _ | refine View.le_trans ?_ (by assumption) | refine View.le_trans ?_ (View.addU_le _ _ _))), hcp, rfl⟩⟩
    · repeat (refine br_f h3 ?_; conv => whnf)
      by_cases h0 : rows = []
      · refine ⟨[], List.nodup_nil, [], rfl, ?_⟩
        exact ⟨rows, base, cp, rfl, hk, hi, .inl ⟨h0, rfl⟩⟩
      · refine ⟨25 :: (dynR mkRow 0 cells).map (·.1), ?_, .row (.slice base rows.length cp) 45 1 rows.length :: cells.map mkRow, ?_, ?_⟩
        · refine List.nodup_cons.2 ⟨fun hin => ?_, dynR_nodup _ _⟩
          have := dynR_fst _ _ _ hin
          omega
        · show _ :: _ = _ :: _
          congr 1
          refine dynR_ids cells 0 fun j c hj => ?_
          show memOf (dynR mkRow 0 cells) (0 + j + 1000) = _
          rw [Nat.zero_add, memOf_dynR, if_pos (Nat.zero_le _), Nat.sub_zero, hj]
        · exact ⟨rows, base, cp, rfl, hk, hi, .inr ⟨cells, h0, hc.mono (by repeat (first | exact View.le_refl _ | assumption | exact View.addU_le _ _ _ | refine View.le_trans ?_ (by assumption) | refine View.le_trans ?_ (View.addU_le _ _ _))), hcl.mono (by repeat (first | exact View.le_refl _ | assumption | exact View.addU_le _ _ _ | refine View.le_trans ?_ (by assumption) | refine View.le_trans ?_ (View.addU_le _ _ _))), hcp, rfl⟩⟩
  refine (Does.toBoxR (Q := fun v V' bs => ∃ rows base rcap, v = .slice base rows.length rcap ∧ (∀ r ∈ rows, RowC cols r) ∧ rows.length ≤ most ∧ ((rows = [] ∧ bs = []) ∨ ∃ g cells ex, rows ≠ [] ∧ base = some ⟨g, 0, none⟩ ∧ CellsAt V' rows cells ∧ (∀ (i : Nat) (c : Value), cells[i]? = some c → ∃ b cp, c = .slice b 3 cp) ∧ bs = .box g 45 (cells ++ ex) :: cells.map mkRow)) main fun v V' bs hV ⟨rows, base, rcap, hv, hrc, hlen, hh⟩ => ?_)
  rcases hh with ⟨h0, hb⟩ | ⟨cells, h0, hca, hcl, hcp, hb⟩
  · exact .inl ⟨rows, base, rcap, hv, hrc, hlen, .inl ⟨h0, hb⟩⟩
  · refine .inr ⟨base, rcap, rows.length, _, 1, cells, cells.map mkRow, hv, hb, List.length_pos_iff.2 h0, by rw [hca.len, Nat.mul_one], hcl, fun g ex hbase hap => ?_⟩
    refine ⟨rows, base, rcap, hv, hrc, hlen, .inr ⟨g, cells, ex, h0, hbase, ⟨hca.len, fun i r c hr hc => ?_⟩, fun i c hc => ?_, rfl⟩⟩
    · have hr3 : r.length = 3 := by rw [(hrc r (List.mem_of_getElem? hr)).len, h3']
      obtain ⟨b, cp, rfl, h3⟩ := hcp i c hc
      have hat := hca.at' i r _ hr hc
      rw [← hr3] at hat ⊢
      exact hat.cut hr3 h3 (by rw [hr3]; exact hap _ (List.mem_map.2 ⟨_, List.mem_of_getElem? hc, rfl⟩))
    · obtain ⟨b, cp, rfl, _⟩ := hcp i c hc
      exact ⟨b, cp, rfl⟩
end Go.Proofs.Ytenpginanhnkbaa
end

section
set_option linter.unusedSimpArgs false
set_option linter.unusedVariables false
namespace Go.Proofs.Ytenpginanhnkbaa
open Go.X
set_option maxRecDepth 100000

/-! ## what RelOrders says, of rows that bear their numbers -/
def tagV (i : Nat) : Val := ⟨1, i, noText⟩
def tagR : Nat → List (List Val) → List (List Val)
  | _, [] => []
  | i, r :: l => (r ++ [tagV i]) :: tagR (i + 1) l
def idxR (r : List Val) : Nat := (keyX 3 r).n.toNat
theorem tagR_get : ∀ (l : List (List Val)) (k i : Nat), (tagR k l)[i]? = (l[i]?).map (· ++ [tagV (k + i)])
  | [], k, i => by simp [tagR]
  | r :: l, k, 0 => by simp [tagR]
  | r :: l, k, i + 1 => by
    rw [tagR, List.getElem?_cons_succ, tagR_get l (k + 1) i, List.getElem?_cons_succ, show k + 1 + i = k + (i + 1) by omega]
theorem tagR_len (l : List (List Val)) (k : Nat) : (tagR k l).length = l.length := by
  induction l generalizing k with
  | nil => rfl
  | cons r l ih => rw [tagR, List.length_cons, List.length_cons, ih]
theorem tagR_snoc : ∀ (l : List (List Val)) (r : List Val) (k : Nat), tagR k (l ++ [r]) = tagR k l ++ [r ++ [tagV (k + l.length)]]
  | [], r, k => rfl
  | x :: l, r, k => by
    rw [List.cons_append, tagR, tagR, tagR_snoc l r (k + 1), List.cons_append, List.length_cons, show k + 1 + l.length = k + (l.length + 1) by omega]
theorem idx_tag {r : List Val} (h : r.length = 3) (i : Nat) : idxR (r ++ [tagV i]) = i := by
  have : (r ++ [tagV i])[3]? = some (tagV i) := by rw [List.getElem?_append_right (by omega), h]; rfl
  rw [idxR, keyX, this]
  exact Int.toNat_natCast i
theorem ord_neg (d : Bool) (x y : Val) : ordX d y x = - ordX d x y := by
  unfold ordX
  cases d
  · exact cmpV_neg x y
  · exact cmpV_neg y x
theorem ord_trans {d : Bool} {a b c : Val} (h : ordX d a b ≤ 0) (k : ordX d b c ≤ 0) : ordX d a c ≤ 0 := by
  unfold ordX at *
  cases d
  · exact cmpV_trans h k
  · exact cmpV_trans k h
theorem lt_asym (k : Nat) (d : Bool) (a b : List Val) (h : ltR k d a b = true) : ltR k d b a = false := by
  unfold ltR at *
  have h := of_decide_eq_true h
  have := ord_neg d (keyX k a) (keyX k b)
  exact decide_eq_false (by omega)
theorem lt_trans' (k : Nat) (d : Bool) (a b c : List Val) (h1 : ltR k d b a = false) (h2 : ltR k d c b = false) : ltR k d c a = false := by
  unfold ltR at *
  have h1 := of_decide_eq_false h1
  have h2 := of_decide_eq_false h2
  have n1 := ord_neg d (keyX k a) (keyX k b)
  have n2 := ord_neg d (keyX k b) (keyX k c)
  have n3 := ord_neg d (keyX k a) (keyX k c)
  have := ord_trans (d := d) (a := keyX k a) (b := keyX k b) (c := keyX k c) (by omega) (by omega)
  exact decide_eq_false (by omega)
theorem tagR_pair : ∀ (l : List (List Val)) (k : Nat), (∀ r ∈ l, r.length = 3) → (tagR k l).Pairwise (fun a b => idxR a < idxR b) ∧ ∀ s ∈ tagR k l, k ≤ idxR s ∧ idxR s < k + l.length
  | [], k, _ => ⟨List.Pairwise.nil, fun s hs => by cases hs⟩
  | r :: l, k, h => by
    obtain ⟨h1, h2⟩ := tagR_pair l (k + 1) fun s hs => h s (List.mem_cons_of_mem _ hs)
    have h0 := idx_tag (h r List.mem_cons_self) k
    rw [tagR]
    refine ⟨List.pairwise_cons.2 ⟨fun s hs => ?_, h1⟩, fun s hs => ?_⟩
    · rw [h0]; exact (h2 s hs).1
    · rcases List.mem_cons.1 hs with rfl | hs
      · rw [h0, List.length_cons]; omega
      · have := h2 s hs
        rw [List.length_cons]; omega
/-- a row of the table, and its number -/
def TagT (n : Nat) (s : List Val) : Prop := ∃ x y z m, s = [x, y, z, tagV m] ∧ RowT x y z ∧ m < n
theorem tag_mem {rows : List (List Val)} (h : ∀ r ∈ rows, ∃ x y z, r = [x, y, z] ∧ RowT x y z) {s : List Val} (hs : s ∈ tagR 0 rows) : TagT rows.length s := by
  obtain ⟨i, hi⟩ := List.mem_iff_getElem?.1 hs
  rw [tagR_get] at hi
  cases hr : rows[i]? with
  | none => rw [hr] at hi; cases hi
  | some r =>
    rw [hr] at hi
    simp only [Option.map_some, Option.some.injEq] at hi
    obtain ⟨x, y, z, rfl, hT⟩ := h r (List.mem_of_getElem? hr)
    exact ⟨x, y, z, 0 + i, hi.symm, hT, by have := (List.getElem?_eq_some_iff.1 hr).1; omega⟩
structure Rises (k : Nat) (d : Bool) (n : Nat) (y : List (List Val)) : Prop where
  len : y.length = n
  shape : ∀ s ∈ y, TagT n s
  step : ∀ (i : Nat) (s t : List Val), y[i]? = some s → y[i + 1]? = some t → ordX d (keyX k s) (keyX k t) ≤ 0 ∧ (ordX d (keyX k s) (keyX k t) = 0 → idxR s < idxR t)
  every : ∀ m, m < n → ∃ s ∈ y, idxR s = m
theorem rises (k : Nat) (d : Bool) (rows : List (List Val)) (h : ∀ r ∈ rows, ∃ x y z, r = [x, y, z] ∧ RowT x y z) : Rises k d rows.length (sortR k d (tagR 0 rows)) := by
  have h3 : ∀ r ∈ rows, r.length = 3 := fun r hr => by obtain ⟨x, y, z, rfl, _⟩ := h r hr; rfl
  obtain ⟨hp, hb⟩ := tagR_pair rows 0 h3
  have hst : (sortR k d (tagR 0 rows)).Pairwise (Stands (ltR k d) idxR) := sortF_stands (lt := ltR k d) (idx := idxR) (lt_asym k d) (lt_trans' k d) (acc := []) (l := tagR 0 rows) List.Pairwise.nil hp (fun a ha => by cases ha)
  refine ⟨by rw [sortR_len, tagR_len], fun s hs => ?_, fun i s t hs ht => ?_, fun m hm => ?_⟩
  · rcases sortF_mem hs with h1 | h1
    · cases h1
    · exact tag_mem h h1
  · have hsl := List.getElem?_eq_some_iff.1 hs
    have htl := List.getElem?_eq_some_iff.1 ht
    have := List.pairwise_iff_getElem.1 hst i (i + 1) hsl.1 htl.1 (by omega)
    rw [hsl.2, htl.2] at this
    obtain ⟨h1, h2⟩ := this
    unfold ltR at h1 h2
    have h1 := of_decide_eq_false h1
    have n1 := ord_neg d (keyX k s) (keyX k t)
    exact ⟨by omega, fun he => h2 (decide_eq_false (by omega))⟩
  · refine ⟨_, sortF_mem2 (.inr (List.mem_of_getElem? (i := m) (by rw [tagR_get, List.getElem?_eq_getElem hm]; rfl))), ?_⟩
    rw [idx_tag (h3 _ (List.getElem_mem hm)), Nat.zero_add]
/-! ## the rows that have been seen -/
def seenS (y : List (List Val)) (i j : Nat) : Bool := (y.take i).any fun s => idxR s == j
def seenL (S : Nat → Bool) : List Value := [.bool (S 0), .bool (S 1), .bool (S 2), .bool (S 3), .bool (S 4), .bool (S 5), .bool (S 6), .bool (S 7), .bool (S 8), .bool (S 9), .bool (S 10), .bool (S 11), .bool (S 12), .bool (S 13), .bool (S 14), .bool (S 15), .bool (S 16), .bool (S 17), .bool (S 18), .bool (S 19)]
theorem seenL_get (S : Nat → Bool) (m : Nat) (h : m < 20) : (seenL S)[m]? = some (.bool (S m)) := by
  rcases m with _ | _ | _ | _ | _ | _ | _ | _ | _ | _ | _ | _ | _ | _ | _ | _ | _ | _ | _ | _ | m <;> first | rfl | omega
theorem seenL_set (S : Nat → Bool) (m : Nat) (h : m < 20) : setAt (seenL S) m [.bool true] = seenL (fun j => S j || m == j) := by
  rcases m with _ | _ | _ | _ | _ | _ | _ | _ | _ | _ | _ | _ | _ | _ | _ | _ | _ | _ | _ | _ | m <;> first | (simp [seenL, setAt]; done) | omega
theorem seenS_succ {y : List (List Val)} {i : Nat} {s : List Val} (h : y[i]? = some s) : seenS y (i + 1) = fun j => seenS y i j || idxR s == j := by
  funext j
  unfold seenS
  rw [List.take_add_one, h]
  simp
theorem seenS_all {k n : Nat} {d : Bool} {y : List (List Val)} (h : Rises k d n y) {m : Nat} (hm : m < n) : seenS y y.length m = true := by
  obtain ⟨s, hs, he⟩ := h.every m hm
  unfold seenS
  rw [List.take_length]
  exact List.any_eq_true.2 ⟨s, hs, by simp [he]⟩
theorem rowT_tidy {x y z : Val} (h : RowT x y z) : Tidy x ∧ Tidy y ∧ Tidy z := by
  exact ⟨⟨fun _ => h.x.empty rfl, fun g => absurd h.x.k g⟩, ⟨fun g => by have := h.y.k; omega, fun _ => h.y.zero rfl⟩, ⟨fun _ => h.z.empty rfl, fun g => absurd h.z.k g⟩⟩
theorem TagT.vals {n : Nat} {s : List Val} (h : TagT n s) {u : Val} (hu : u ∈ s) : Tidy u ∧ (u.t.size : Int) ≤ 9223372036854775807 := by
  obtain ⟨x, y, z, m, rfl, hT, _⟩ := h
  obtain ⟨h1, h2, h3⟩ := rowT_tidy hT
  have s1 := hT.x.t
  have s2 := hT.y.t
  have s3 := hT.z.t
  simp only [List.mem_cons, List.not_mem_nil, or_false] at hu
  rcases hu with rfl | rfl | rfl | rfl
  · exact ⟨h1, by omega⟩
  · exact ⟨h2, by omega⟩
  · exact ⟨h3, by omega⟩
  · exact ⟨⟨fun _ => noText_list, fun h => absurd rfl h⟩, by show ((0 : Nat) : Int) ≤ _; omega⟩
/-- what the law asks of two rows that follow each other -/
theorem step_cmp {d : Bool} {u v : Val} {a b : Nat} (hu : Tidy u) (hv : Tidy v) (h : ordX d u v ≤ 0 ∧ (ordX d u v = 0 → a < b)) :
    (d = true → 0 ≤ cmpR u v) ∧ (d = false → cmpR u v ≤ 0) ∧ (cmpR u v = 0 → a < b) := by
  rw [tidy_cmp hu hv]
  have hn := cmpV_neg u v
  cases d
  · simp only [ordX, Bool.false_eq_true, if_false] at h
    exact ⟨fun h => (by cases h), fun _ => h.1, h.2⟩
  · simp only [ordX, if_true] at h
    exact ⟨fun _ => (by omega), fun h => (by cases h), fun h0 => h.2 (by omega)⟩
end Go.Proofs.Ytenpginanhnkbaa
end

section
set_option linter.unusedSimpArgs false
set_option linter.unusedVariables false
namespace Go.Proofs.Ytenpginanhnkbaa
open Go.X
set_option maxRecDepth 100000

/-- a memory, and further resources -/
def joinM (mem : Nat → Option Res) (outs : List (Nat × Res)) : Nat → Option Res := fun i => match mem i with | some r => some r | none => memOf outs i
theorem memOf_none : ∀ {l : List (Nat × Res)} {i : Nat}, i ∉ l.map (·.1) → memOf l i = none
  | [], i, _ => rfl
  | (j, r) :: l, i, h => by
    show upd (memOf l) j r i = none
    rw [upd_ne _ _ (fun e => h (by rw [e]; exact List.mem_cons_self))]
    exact memOf_none fun h' => h (List.mem_cons_of_mem _ h')
theorem updL_memOf : ∀ {l : List (Nat × Res)} {mem : Nat → Option Res} {i : Nat}, i ∈ l.map (·.1) → updL l mem i = memOf l i
  | [], mem, i, h => by cases h
  | (j, r) :: l, mem, i, h => by
    show upd (updL l mem) j r i = upd (memOf l) j r i
    by_cases hi : i = j
    · subst hi; rw [upd_same, upd_same]
    · rw [upd_ne _ _ hi, upd_ne _ _ hi]
      refine updL_memOf ?_
      rcases List.mem_cons.1 h with h | h
      · exact absurd h hi
      · exact h
theorem updL_notin : ∀ {l : List (Nat × Res)} {mem : Nat → Option Res} {i : Nat}, i ∉ l.map (·.1) → updL l mem i = mem i
  | [], mem, i, _ => rfl
  | (j, r) :: l, mem, i, h => by
    show upd (updL l mem) j r i = mem i
    rw [upd_ne _ _ (fun e => h (by rw [e]; exact List.mem_cons_self))]
    exact updL_notin fun h' => h (List.mem_cons_of_mem _ h')
theorem updL_joinM {l : List (Nat × Res)} {mem : Nat → Option Res} (h : ∀ x ∈ l, mem x.1 = none) : updL l mem = joinM mem l := by
  funext i
  unfold joinM
  by_cases hi : i ∈ l.map (·.1)
  · rw [updL_memOf hi]
    obtain ⟨x, hx, rfl⟩ := List.mem_map.1 hi
    rw [h x hx]
  · rw [updL_notin hi, memOf_none hi]
    cases mem i <;> rfl
/-- a call that hands back new resources -/
theorem CallN.news {P : Program} {f : FuncId} {args : List Value} {V : View} {mem : Nat → Option Res} {R : Value → View → List Res → Prop} {K : SV → View → (Nat → Option Res) → Prop} (h : Does P f args V [] R)
    (k : ∀ v V' bs', V.le V' → R v V' bs' → ∃ outs : List (Nat × Res), outs.map (·.2) = bs' ∧ (outs.map (·.1)).Nodup ∧ (∀ x ∈ outs, mem x.1 = none) ∧ K (.v v) V' (joinM mem outs)) : CallN P f args V mem K := by
  refine CallN.gen [] List.nodup_nil (bs := []) rfl h fun v V' bs' hle hR => ?_
  obtain ⟨outs, hb, hn, hf, hK⟩ := k v V' bs' hle hR
  refine ⟨outs, .v v, hb, hn, fun s x hx => ?_, rfl, ?_⟩
  · rw [← hx]
    refine toVal_of fun i hi => ?_
    show updL outs mem i = mem i
    refine updL_notin fun hin => ?_
    obtain ⟨y, hy, rfl⟩ := List.mem_map.1 hin
    have h0 := hf y hy
    cases s with
    | v z => cases hi
    | kb z => cases hi
    | own j o => simp only [SV.name, Option.some.injEq] at hi; subst hi; simp [toVal, h0] at hx
    | row j => simp only [SV.name, Option.some.injEq] at hi; subst hi; simp [toVal, h0] at hx
  · show K (.v v) V' (updL outs mem)
    rw [updL_joinM hf]; exact hK
/-- an own box that is written no more: of a block that the view did not tell of -/
theorem Does.freezeN {P : Program} {f : FuncId} {args : List Value} {V : View} {bs0 : List Res} {R : Value → View → List Res → Prop} {Q : Value → View → Prop} (h : Does P f args V bs0 R)
    (hR : ∀ v V' bs, V.le V' → R v V' bs → ∃ g ty cells, bs = [.box g ty cells] ∧ ((∀ o, V' g o = none) → V'.le (V'.add g cells) → Q v (V'.add g cells))) : Does P f args V bs0 (fun v V' bs => bs = [] ∧ Q v V') := by
  intro w hw
  refine (h w hw).mono fun e w' ⟨v, V', bs, he, hr, hp, hk, hg, hn⟩ => ?_
  obtain ⟨g, ty, cells, hbs, hQ⟩ := hR v V' bs hg.1 hr
  subst hbs
  obtain ⟨hheap, hnone⟩ : w'.heap[g]? = some (.cells cells.toArray ty (0, 0)) ∧ ∀ o, V' g o = none := hp.ok 0 _ rfl
  have hle := View.add_le (cells := cells) hnone
  refine ⟨v, V'.add g cells, [], he, ⟨rfl, hQ hnone hle⟩, ⟨fun b o u hu => ?_, fun i r hr => by simp at hr, fun i j r r' c _ hr => by simp at hr⟩, hk, ⟨View.le_trans hg.1 hle, fun b o u hu => ?_⟩, fun b ⟨r, hr, _⟩ => by cases hr⟩
  · unfold View.add at hu
    split at hu
    · rename_i hb; subst hb; rw [cell_box hheap]; exact hu
    · exact hp.sub b o u hu
  · unfold View.add at hu
    split at hu
    · rename_i hb
      subst hb
      exact .inr ((hn b ⟨_, List.mem_cons_self, rfl⟩).symm)
    · exact hg.2 b o u hu
/-- rel.Sort, where all rows have the column: the answer lies in a block that the view did not tell of -/
theorem sortN_spec (rows : List (List Val)) (rb : Option Addr) (rc k : Nat) (d : Bool) (V : View) (hr : RowsAt V rows rb) (hs : rows.length ≤ 20) (hw : ∀ r ∈ rows, k < r.length ∧ r.length ≤ 1000) (h0 : rows ≠ []) :
    PSpec 28 [.slice rb rows.length rc, .int .i64 (k : Nat), .bool d] V (fun v V' => ∃ p cap cl, v = .slice (some ⟨p, 0, none⟩) rows.length cap ∧ V'.has p 0 cl ∧ CellsAt V' (sortR k d rows) cl ∧ ∀ o, V p o = none) := by
  have hl : lacks (k : Int) rows = false := by
    cases h : lacks (k : Int) rows with
    | false => rfl
    | true =>
      obtain ⟨r, hr, hd⟩ := List.any_eq_true.1 h
      have := of_decide_eq_true hd
      have := (hw r hr).1
      omega
  have hsx : sortX (k : Int) d rows = sortR k d rows := by
    rw [sortX, if_neg, Int.toNat_natCast]
    rintro (h | h)
    · omega
    · rw [hl] at h; cases h
  refine (Does.freezeN (Q := fun v V' => ∃ p cap cl, v = .slice (some ⟨p, 0, none⟩) rows.length cap ∧ V'.has p 0 cl ∧ CellsAt V' (sortR k d rows) cl ∧ ∀ o, V p o = none) (sortO_spec rows rb rc k d V hr hs fun r hr => (hw r hr).2) fun v V' bs hV h => ?_).mono fun v V' bs _ ⟨_, h⟩ => h
  rcases h with ⟨_, _, h | h | h⟩ | ⟨g, cap, cells', hv, hlen, hb, cl, ex, hc, he⟩
  · exact absurd h h0
  · omega
  · rw [hl] at h; cases h
  · refine ⟨g, _, cells', hb, fun hnone hle => ?_⟩
    subst he
    rw [hsx] at hv hlen hc
    refine ⟨g, cap, cl, by rw [hv, hlen], fun i x hx => View.add_has i x ?_, hc.mono hle, fun o => ?_⟩
    · rw [List.getElem?_append_left (List.getElem?_eq_some_iff.1 hx).1]; exact hx
    · cases hu : V g o with
      | none => rfl
      | some u => have := hV g o u hu; rw [hnone o] at this; cases this
/-- a row of values does not lie where slices lie -/
theorem RowAt.cut2 {V : View} {r : List Val} {c : Value} {g : Nat} {pre : List Value} (h : RowAt V r c) (hr : r ≠ []) (hpre : ∀ o u, V g o = some u → pre[o]? = some u) (hs : ∀ x ∈ pre, ∃ b n cp, x = .slice b n cp) : RowAt (V.cut g) r c := by
  obtain ⟨base, cap, rfl, hp, hv⟩ := h
  refine ⟨base, cap, rfl, hp, ?_⟩
  obtain ⟨p, off, hbase, hvals⟩ := hv.has hr
  subst hbase
  have hpg : p ≠ g := fun e => by
    subst e
    obtain ⟨x, l, rfl⟩ := List.exists_cons_of_ne_nil hr
    have h0 := hvals 0 (.int .i64 x.k) rfl
    obtain ⟨b, n, cp, hh⟩ := hs _ (List.mem_of_getElem? (hpre _ _ h0))
    cases hh
  exact ⟨fun _ => ⟨p, off, rfl, fun i u hu => View.cut_of (hvals i u hu) hpg⟩, hv.len⟩
theorem setAt_mid : ∀ (a b : List Value) (x c : Value), setAt (a ++ x :: b) a.length [c] = a ++ c :: b
  | [], b, x, c => by cases b <;> rfl
  | y :: a, b, x, c => by
    show y :: setAt (a ++ x :: b) a.length [c] = _
    rw [setAt_mid a b x c]; rfl
end Go.Proofs.Ytenpginanhnkbaa
end
