/- One part of a proof: an evaluator of the model, shown right, and contracts that it yields. No condition beyond those that each theorem names. -/
import Derived.Test.YtenpginanhnkbaaGreatCL
section
set_option linter.unusedSimpArgs false
set_option linter.unusedVariables false
namespace Go.Proofs.YtenpginanhnkbaaGreat
open Go.X
set_option maxRecDepth 100000
theorem repCol {V : View} (tb nm : ByteArray) : RepX V (.col tb nm) (colN tb nm) := ⟨⟨rfl, rfl, rfl⟩, rfl⟩
theorem Parts.colsL {V : View} {its : List Item} {kinds : List Int} {s : StV} (h : Parts V its kinds s) : ColsL V s.order := by
 rcases h.order with h | ⟨g, tb, nm, h1, h2⟩
 ·exact .inl h
 ·exact .inr (.inl ⟨g, tb, nm, h1, h2⟩)
theorem OnAt.colsL {V : View} {its : List Item} {kinds : List Int} {on : Option Addr × Nat × Nat} (h : OnAt V its kinds on) : ColsL V on := by
 obtain ⟨g, kd, x1, x2, tb1, tb2, h1, h2, _⟩ := h
 exact .inr (.inr ⟨g, tb1, x1.nm, tb2, x2.nm, h1, h2⟩)
theorem SelAt.lists {V : View} {t o : TabV} {s : StV} (h : SelAt V t o s) : ColsL V s.on ∧ ColsL V s.order := by
 rcases h with ⟨_, _, ⟨_, ho, hp⟩ | ⟨_, ho, hp⟩⟩
 ·exact ⟨.inl ho, hp.colsL⟩
 ·exact ⟨ho.colsL, hp.colsL⟩
theorem Parts.mono {V V' : View} {its : List Item} {kinds : List Int} {s : StV} (h : Parts V its kinds s) (hV : V.le V') : Parts V' its kinds s := by
 obtain ⟨h1, ⟨l, h2, h3, h4⟩, h5⟩ := h
 refine ⟨h1.mono hV, ⟨l, h2, h3, h4.mono hV⟩, ?_⟩
 rcases h5 with h5 | ⟨g, tb, nm, h5, h6⟩
 ·exact .inl h5
 ·exact .inr ⟨g, tb, nm, h5, h6.mono hV⟩
theorem SelAt.mono {V V' : View} {t o : TabV} {s : StV} (h : SelAt V t o s) (hV : V.le V') : SelAt V' t o s := by
 obtain ⟨h1, h2, ⟨h3, h4, h5⟩ | ⟨h3, h4, h5⟩⟩ := h
 ·exact ⟨h1, h2, .inl ⟨h3, h4, h5.mono hV⟩⟩
 ·exact ⟨h1, h2, .inr ⟨h3, h4.mono hV, h5.mono hV⟩⟩
/-- an item that may be: a count, or one whose column is found -/
def ItemOk (its : List Item) (y : Item) : Prop := y.agg = 1 ∨ (0 ≤ y.agg ∧ y.agg ≤ 4 ∧ (atA y.tb y.nm its).2 = 0)
/-- a select whose items and order may be -/
def SelOk (V : View) (its : List Item) (s : StV) : Prop := ∃ (l : List Item) (o : Option (ByteArray × ByteArray)), s.items.2.1 = l.length ∧ l.length ≤ 4 ∧ V.cells (.slice s.items.1 s.items.2.1 s.items.2.2) (l.flatMap icells) ∧ ((s.order.2.1 = 0 ∧ o = none) ∨ ∃ g tb nm, s.order = (some ⟨g, 0, none⟩, 1, 1) ∧ V.has g 0 (xcells (colN tb nm)) ∧ o = some (tb, nm)) ∧
 (∀ x ∈ l, ItemOk its x) ∧ ((∃ x ∈ l, x.agg ≠ 0) → ∀ x ∈ l, x.agg ≠ 0) ∧ (∀ tb nm, o = some (tb, nm) → (atA tb nm its).2 = 0)
theorem SelOk.mono {V V' : View} {its : List Item} {s : StV} (h : SelOk V its s) (hV : V.le V') : SelOk V' its s := by
 obtain ⟨l, o, h1, h2, h3, h4, h5⟩ := h
 refine ⟨l, o, h1, h2, h3.mono hV, ?_, h5⟩
 rcases h4 with h4 | ⟨g, tb, nm, h6, h7, h8⟩
 ·exact .inl h4
 ·exact .inr ⟨g, tb, nm, h6, h7.mono hV, h8⟩
def isAgg (y : Item) : Bool := decide (y.agg ≠ 0)
def isPlain (y : Item) : Bool := decide (y.agg = 0)
theorem cnt_yes {l : List Item} {i : Nat} {x : Item} (p : Item → Bool) (hx : l[i]? = some x) (hp : p x = true) {a : Int} (ha : a = (((l.take i).filter p).length : Nat)) (hl : l.length ≤ 4) : IntKind.i64.wrap (a + 1) = (((l.take (i + 1)).filter p).length : Nat) := by
 have h1 : ((l.take i).filter p).length ≤ 4 := Nat.le_trans (List.length_filter_le _ _) (by rw [List.length_take]; omega)
 have h2 : [x].filter p = [x] := by simp [hp]
 rw [List.take_add_one, hx, List.filter_append, List.length_append]
 show _ = ((_ + ([x].filter p).length : Nat) : Int)
 rw [h2, wrapE, ha, List.length_singleton]
 omega
theorem cnt_no {l : List Item} {i : Nat} {x : Item} (p : Item → Bool) (hx : l[i]? = some x) (hp : p x = false) {a : Int} (ha : a = (((l.take i).filter p).length : Nat)) : a = (((l.take (i + 1)).filter p).length : Nat) := by
 have h2 : [x].filter p = [] := by simp [hp]
 rw [List.take_add_one, hx, List.filter_append, List.length_append]
 show _ = ((_ + ([x].filter p).length : Nat) : Int)
 rw [h2, ha]; rfl
theorem all_snoc {α : Type} {l : List α} {i : Nat} {x : α} {p : α → Prop} (hx : l[i]? = some x) (h : ∀ y ∈ l.take i, p y) (hp : p x) : ∀ y ∈ l.take (i + 1), p y := fun y hy => by
 rw [List.take_add_one, hx] at hy
 rcases List.mem_append.1 hy with hy | hy
 ·exact h y hy
 ·rw [List.mem_singleton.1 hy]; exact hp
theorem none_of_cnt {l : List Item} {p : Item → Bool} {n : Nat} {a : Int} (hn : l.length ≤ n) (h : a = (((l.take n).filter p).length : Nat)) (h0 : ¬ a > 0) : ∀ x ∈ l, p x = false := fun x hx => by
 cases hp : p x with
 | false => rfl
 | true =>
  rw [List.take_of_length_le hn] at h
  have : x ∈ l.filter p := List.mem_filter.2 ⟨hx, hp⟩
  have := List.length_pos_of_mem this
  omega
set_option maxHeartbeats 8000000 in
theorem rselT_spec (s : StV) (r p q p2 : Nat) (V : View) (hr : V.has r 0 (tvcells (tT p q) ++ tvcells (tU p2))) (ht : TabOk V (tT p q)) (ho : TabOk V (tU p2)) (hsel : SelAt V (tT p q) (tU p2) s) :
  PSpec 47 [tv3 r, stv s, tabv (tT p q)] V (fun v V' => ∃ e, v = .int .i64 e ∧ (e = 0 → SelOk V' (if s.join = noText then itemsOf (tT p q) else itemsOf (tT p q) ++ itemsOf (tU p2)) s)) := by
 obtain ⟨skind, stb, snm, s3, s4, s5, ⟨ib, il, ic⟩, sjoin, son, swh, sord, sdesc, sinn⟩ := s
 obtain ⟨h1, h2, h3⟩ := hsel
 have h1 : skind = 6 := h1
 have h2 : stb = (tT p q).nm := h2
 subst h1
 refine does_of_zfun [(18, [(0, []), (1, []), (2, []), (3, []), (4, []), (5, []), (6, [])])] mixed (args := [.v _, .v _, .v _]) (ms := []) Tryz.func47 (by kernel_rfl) rfl ?_; conv => whnf
 repeat' ((first | refine br_t rfl ?_ | refine br_f rfl ?_ | refine IdxN.lit rfl rfl ?_ | intro _); conv => whnf)
 rename_i b3 b4 b5
 refine CallN.news (colsR_spec (tT p q) _ (ht.mono le_auto)) fun v Vc bs hVc ⟨a, ac, c, cc, hv, hA, hC, hb⟩ => ⟨[(300, .row (.slice a 3 ac) 68 3 3), (301, .row (.slice c 3 cc) 3 1 3)], by rw [hb]; rfl, by simp, fun x hx => by (simp only [List.mem_cons, List.not_mem_nil, or_false] at hx; rcases hx with rfl | rfl <;> rfl), ?_⟩
 subst hv; conv => whnf
 repeat' ((first | refine br_t rfl ?_ | refine br_f rfl ?_ | refine IdxN.lit rfl rfl ?_ | intro _); conv => whnf)
 rcases h3 with ⟨hj, hon, hp⟩ | ⟨hj, hon, hp⟩
 ·have hj : sjoin = noText := hj
  subst hj
  refine br_f (by simp [noText, ByteArray.toList_eq]) ?_; conv => whnf
  repeat' ((first | refine br_t rfl ?_ | refine br_f rfl ?_ | refine IdxN.lit rfl rfl ?_ | intro _); conv => whnf)
  obtain ⟨p5, o5, hb5, hh5⟩ := cells_some hA (by intro h; cases h)
  obtain ⟨q5, u5, hd5, hj5⟩ := cells_some hC (by intro h; cases h)
  subst hb5; subst hd5
  have hat : ColsAt Vc (itemsOf (tT p q)) (kindsOf (tT p q)) p5 o5 q5 u5 := ⟨hh5, hj5, rfl, by show 3 ≤ 20; decide⟩
  obtain ⟨l, hil, hl4, hic⟩ := hp.items
  have hil : il = l.length := hil
  subst hil
  have hic : V.cells (.slice ib l.length ic) (l.flatMap icells) := hic
  have hor := hp.order
  have hwh := hp.wh
  refine loopz (σ := Nat × Int × Int)
   (fun x => [(4, .own 4 0), (7, .v (.slice (some ⟨p5, o5, none⟩) 3 ac)), (8, .v (.slice (some ⟨q5, u5, none⟩) 3 cc)), (17, .v (.int .i64 x.2.1)), (18, .v (.int .i64 x.2.2)), (19, .v (.int .i64 x.1))])
   (fun _ => [(4, .box b4 30 [.int .i64 6, .string (stb), .string snm, .slice s3.1 s3.2.1 s3.2.2, .slice s4.1 s4.2.1 s4.2.2, .slice s5.1 s5.2.1 s5.2.2, .slice ib l.length ic, .string (noText), .slice (son : Option Addr × Nat × Nat).1 (son : Option Addr × Nat × Nat).2.1 (son : Option Addr × Nat × Nat).2.2, .slice swh.1 swh.2.1 swh.2.2, .slice sord.1 sord.2.1 sord.2.2, .bool sdesc, .slice sinn.1 sinn.2.1 sinn.2.2])])
   (fun j x V' => V.le V' ∧ ColsAt V' (itemsOf (tT p q)) (kindsOf (tT p q)) p5 o5 q5 u5 ∧ x.1 ≤ l.length ∧ l.length - x.1 = j ∧ x.2.1 = (((l.take x.1).filter isAgg).length : Nat) ∧ x.2.2 = (((l.take x.1).filter isPlain).length : Nat) ∧ ∀ y ∈ l.take x.1, ItemOk (itemsOf (tT p q)) y) l.length (0, 0, 0) ?_ ?_ ?_ ?_
  ·repeat' (first | exact sees_nil | refine sees_cons rfl rfl rfl ?_)
  ·repeat' (first | exact keeps_nil | refine keeps_cons rfl ?_ | refine keeps_free ?_)
  ·exact ⟨le_auto, (hat).mono le_auto, Nat.zero_le _, rfl, rfl, rfl, fun y hy => by simp at hy⟩
  rintro j ⟨i, na, np⟩ V' ⟨hV, hat', hi, hj, hna, hnp, hok⟩
  simp only at hi hj hna hnp hok
  conv => whnf
  apply br <;> intro g1 <;> conv => whnf
  ·have hi1 : i < l.length := by have := of_decide_eq_true g1; omega
   obtain ⟨x, hx⟩ : ∃ x, l[i]? = some x := ⟨_, List.getElem?_eq_getElem hi1⟩
   obtain ⟨pi, oi, hbi, hhi⟩ := cells_some hic (by
    obtain ⟨y, l', rfl⟩ := List.exists_cons_of_ne_nil (fun e : l = [] => by rw [e] at hi1; cases hi1)
    intro h; cases h)
   subst hbi
   have hxc := has_flat (n := 3) (fun _ => rfl) l oi hhi i x hx
   obtain ⟨xa, xt, xn⟩ := x
   repeat (first | (intro _; conv => whnf) | (refine br_t (by first | rfl | assumption) ?_; conv => whnf) | (refine br_f (by first | rfl | assumption) ?_; conv => whnf) | (refine IdxN.lit rfl rfl ?_; conv => whnf))
   refine IdxN.of (by omega) (by omega) ?_; conv => whnf
   refine LoadN.of (hxc.mono le_auto) 0 rfl rfl ?_; conv => whnf
   repeat (first | (intro _; conv => whnf) | (refine br_t (by first | rfl | assumption) ?_; conv => whnf) | (refine br_f (by first | rfl | assumption) ?_; conv => whnf) | (refine IdxN.lit rfl rfl ?_; conv => whnf))
   apply br <;> intro g2 <;> conv => whnf
   ·repeat (first | (intro _; conv => whnf) | (refine br_t (by first | rfl | assumption) ?_; conv => whnf) | (refine br_f (by first | rfl | assumption) ?_; conv => whnf) | (refine IdxN.lit rfl rfl ?_; conv => whnf))
    exact ret_pure ⟨_, rfl, fun h => absurd h (by decide)⟩
   ·repeat (first | (intro _; conv => whnf) | (refine br_t (by first | rfl | assumption) ?_; conv => whnf) | (refine br_f (by first | rfl | assumption) ?_; conv => whnf) | (refine IdxN.lit rfl rfl ?_; conv => whnf))
    apply br <;> intro g3 <;> conv => whnf
    ·repeat (first | (intro _; conv => whnf) | (refine br_t (by first | rfl | assumption) ?_; conv => whnf) | (refine br_f (by first | rfl | assumption) ?_; conv => whnf) | (refine IdxN.lit rfl rfl ?_; conv => whnf))
     exact ret_pure ⟨_, rfl, fun h => absurd h (by decide)⟩
    ·repeat (first | (intro _; conv => whnf) | (refine br_t (by first | rfl | assumption) ?_; conv => whnf) | (refine br_f (by first | rfl | assumption) ?_; conv => whnf) | (refine IdxN.lit rfl rfl ?_; conv => whnf))
     apply br <;> intro g4 <;> conv => whnf
     ·have e4 : xa = 1 := by simpa using g4
      subst e4
      repeat (first | (intro _; conv => whnf) | (refine br_t (by first | rfl | assumption) ?_; conv => whnf) | (refine br_f (by first | rfl | assumption) ?_; conv => whnf) | (refine IdxN.lit rfl rfl ?_; conv => whnf))
      apply br <;> intro g5 <;> conv => whnf
      ·repeat (first | (intro _; conv => whnf) | (refine br_t (by first | rfl | assumption) ?_; conv => whnf) | (refine br_f (by first | rfl | assumption) ?_; conv => whnf) | (refine IdxN.lit rfl rfl ?_; conv => whnf))
       exact ret_pure ⟨_, rfl, fun h => absurd h (by decide)⟩
      ·repeat (first | (intro _; conv => whnf) | (refine br_t (by first | rfl | assumption) ?_; conv => whnf) | (refine br_f (by first | rfl | assumption) ?_; conv => whnf) | (refine IdxN.lit rfl rfl ?_; conv => whnf))
       have hwi := wrap_nat (i := i) (by omega)
       refine ⟨j - 1, (i + 1, (IntKind.i64.wrap (na + 1)), np), by omega, ?_, ?_, View.le_trans hV le_auto, hat'.mono le_auto, hi1, by show _ - (i + 1) = _; omega, cnt_yes isAgg hx rfl hna hl4, cnt_no isPlain hx rfl hnp, all_snoc hx hok (.inl rfl)⟩
       ·repeat' (first | exact sees_nil | refine sees_cons rfl rfl rfl ?_ | refine sees_cons rfl rfl (by rw [← hwi]; rfl) ?_)
       ·repeat' (first | exact keeps_nil | refine keeps_cons rfl ?_ | refine keeps_free ?_)
     ·repeat (first | (intro _; conv => whnf) | (refine br_t (by first | rfl | assumption) ?_; conv => whnf) | (refine br_f (by first | rfl | assumption) ?_; conv => whnf) | (refine IdxN.lit rfl rfl ?_; conv => whnf))
      apply br <;> intro g6 <;> conv => whnf
      ·have e6 : xa = 0 := by simpa using g6
       repeat (first | (intro _; conv => whnf) | (refine br_t (by first | rfl | assumption) ?_; conv => whnf) | (refine br_f (by first | rfl | assumption) ?_; conv => whnf) | (refine IdxN.lit rfl rfl ?_; conv => whnf))
       refine CallN.pure (at_spec (itemsOf (tT p q)) 3 p5 ac o5 ⟨0, v0, xt, xn, none, 0, 0⟩ _ (hat'.hasI.mono le_auto) (by show 3 ≤ 1000000; decide) (by decide)) fun v V7 _ hV7 hv => ?_
       subst hv; conv => whnf
       apply br <;> intro g7 <;> conv => whnf
       ·repeat (first | (intro _; conv => whnf) | (refine br_t (by first | rfl | assumption) ?_; conv => whnf) | (refine br_f (by first | rfl | assumption) ?_; conv => whnf) | (refine IdxN.lit rfl rfl ?_; conv => whnf))
        exact ret_pure ⟨_, rfl, fun h => absurd h (by simpa using g7)⟩
       ·have g7' : (atA xt xn ((itemsOf (tT p q)).take 3)).2 = 0 := by simpa using g7
        obtain ⟨h0, h1⟩ := atA_range g7'
        obtain ⟨kk, hkk⟩ := Int.eq_ofNat_of_zero_le h0
        have h1 : (atA xt xn ((itemsOf (tT p q)).take 3)).1 < ((3 : Nat) : Int) := h1
        have hio : ItemOk (itemsOf (tT p q)) ⟨xa, xt, xn⟩ := .inr ⟨by have := of_decide_eq_false g2; exact Int.not_lt.1 this, by have := of_decide_eq_false g3; exact Int.not_lt.1 this, g7'⟩
        obtain ⟨kv, hkv⟩ : ∃ y, (kindsOf (tT p q))[kk]? = some y := ⟨_, List.getElem?_eq_getElem (by show kk < 3; omega)⟩
        have hone := has_one hat'.hasK (i := kk) (c := .int .i64 kv) (by rw [List.getElem?_map, hkv]; rfl)
        repeat (first | (intro _; conv => whnf) | (refine br_t (by first | rfl | assumption) ?_; conv => whnf) | (refine br_f (by first | rfl | assumption) ?_; conv => whnf) | (refine IdxN.lit rfl rfl ?_; conv => whnf))
        apply br <;> intro g8 <;> conv => whnf
        ·repeat (first | (intro _; conv => whnf) | (refine br_t (by first | rfl | assumption) ?_; conv => whnf) | (refine br_f (by first | rfl | assumption) ?_; conv => whnf) | (refine IdxN.lit rfl rfl ?_; conv => whnf))
         refine IdxN.of (by show 0 ≤ (atA xt xn ((itemsOf (tT p q)).take 3)).1; omega) (by show (atA xt xn ((itemsOf (tT p q)).take 3)).1 < ((3 : Nat) : Int); omega) ?_; conv => whnf
         repeat (first | (intro _; conv => whnf) | (refine br_t (by first | rfl | assumption) ?_; conv => whnf) | (refine br_f (by first | rfl | assumption) ?_; conv => whnf) | (refine IdxN.lit rfl rfl ?_; conv => whnf))
         refine LoadN.of (hone.mono le_auto) 0 (by show u5 + ((atA xt xn ((itemsOf (tT p q)).take 3)).1).toNat * 1 = u5 + kk + 0; rw [hkk]; omega) rfl ?_; conv => whnf
         repeat (first | (intro _; conv => whnf) | (refine br_t (by first | rfl | assumption) ?_; conv => whnf) | (refine br_f (by first | rfl | assumption) ?_; conv => whnf) | (refine IdxN.lit rfl rfl ?_; conv => whnf))
         apply br <;> intro g9 <;> conv => whnf
         ·repeat (first | (intro _; conv => whnf) | (refine br_t (by first | rfl | assumption) ?_; conv => whnf) | (refine br_f (by first | rfl | assumption) ?_; conv => whnf) | (refine IdxN.lit rfl rfl ?_; conv => whnf))
          exact ret_pure ⟨_, rfl, fun h => absurd h (by decide)⟩
         ·repeat (first | (intro _; conv => whnf) | (refine br_t (by first | rfl | assumption) ?_; conv => whnf) | (refine br_f (by first | rfl | assumption) ?_; conv => whnf) | (refine IdxN.lit rfl rfl ?_; conv => whnf))
          have hwi := wrap_nat (i := i) (by omega)
          refine ⟨j - 1, (i + 1, na, (IntKind.i64.wrap (np + 1))), by omega, ?_, ?_, View.le_trans hV le_auto, hat'.mono le_auto, hi1, by show _ - (i + 1) = _; omega, cnt_no isAgg hx (by simp [isAgg, e6]) hna, cnt_yes isPlain hx (by simp [isPlain, e6]) hnp hl4, all_snoc hx hok (hio)⟩
          ·repeat' (first | exact sees_nil | refine sees_cons rfl rfl rfl ?_ | refine sees_cons rfl rfl (by rw [← hwi]; rfl) ?_)
          ·repeat' (first | exact keeps_nil | refine keeps_cons rfl ?_ | refine keeps_free ?_)
        ·repeat (first | (intro _; conv => whnf) | (refine br_t (by first | rfl | assumption) ?_; conv => whnf) | (refine br_f (by first | rfl | assumption) ?_; conv => whnf) | (refine IdxN.lit rfl rfl ?_; conv => whnf))
         have hwi := wrap_nat (i := i) (by omega)
         refine ⟨j - 1, (i + 1, na, (IntKind.i64.wrap (np + 1))), by omega, ?_, ?_, View.le_trans hV le_auto, hat'.mono le_auto, hi1, by show _ - (i + 1) = _; omega, cnt_no isAgg hx (by simp [isAgg, e6]) hna, cnt_yes isPlain hx (by simp [isPlain, e6]) hnp hl4, all_snoc hx hok (hio)⟩
         ·repeat' (first | exact sees_nil | refine sees_cons rfl rfl rfl ?_ | refine sees_cons rfl rfl (by rw [← hwi]; rfl) ?_)
         ·repeat' (first | exact keeps_nil | refine keeps_cons rfl ?_ | refine keeps_free ?_)
      ·have e6 : xa ≠ 0 := by simpa using g6
       repeat (first | (intro _; conv => whnf) | (refine br_t (by first | rfl | assumption) ?_; conv => whnf) | (refine br_f (by first | rfl | assumption) ?_; conv => whnf) | (refine IdxN.lit rfl rfl ?_; conv => whnf))
       refine CallN.pure (at_spec (itemsOf (tT p q)) 3 p5 ac o5 ⟨0, v0, xt, xn, none, 0, 0⟩ _ (hat'.hasI.mono le_auto) (by show 3 ≤ 1000000; decide) (by decide)) fun v V7 _ hV7 hv => ?_
       subst hv; conv => whnf
       apply br <;> intro g7 <;> conv => whnf
       ·repeat (first | (intro _; conv => whnf) | (refine br_t (by first | rfl | assumption) ?_; conv => whnf) | (refine br_f (by first | rfl | assumption) ?_; conv => whnf) | (refine IdxN.lit rfl rfl ?_; conv => whnf))
        exact ret_pure ⟨_, rfl, fun h => absurd h (by simpa using g7)⟩
       ·have g7' : (atA xt xn ((itemsOf (tT p q)).take 3)).2 = 0 := by simpa using g7
        obtain ⟨h0, h1⟩ := atA_range g7'
        obtain ⟨kk, hkk⟩ := Int.eq_ofNat_of_zero_le h0
        have h1 : (atA xt xn ((itemsOf (tT p q)).take 3)).1 < ((3 : Nat) : Int) := h1
        have hio : ItemOk (itemsOf (tT p q)) ⟨xa, xt, xn⟩ := .inr ⟨by have := of_decide_eq_false g2; exact Int.not_lt.1 this, by have := of_decide_eq_false g3; exact Int.not_lt.1 this, g7'⟩
        obtain ⟨kv, hkv⟩ : ∃ y, (kindsOf (tT p q))[kk]? = some y := ⟨_, List.getElem?_eq_getElem (by show kk < 3; omega)⟩
        have hone := has_one hat'.hasK (i := kk) (c := .int .i64 kv) (by rw [List.getElem?_map, hkv]; rfl)
        repeat (first | (intro _; conv => whnf) | (refine br_t (by first | rfl | assumption) ?_; conv => whnf) | (refine br_f (by first | rfl | assumption) ?_; conv => whnf) | (refine IdxN.lit rfl rfl ?_; conv => whnf))
        apply br <;> intro g8 <;> conv => whnf
        ·repeat (first | (intro _; conv => whnf) | (refine br_t (by first | rfl | assumption) ?_; conv => whnf) | (refine br_f (by first | rfl | assumption) ?_; conv => whnf) | (refine IdxN.lit rfl rfl ?_; conv => whnf))
         refine IdxN.of (by show 0 ≤ (atA xt xn ((itemsOf (tT p q)).take 3)).1; omega) (by show (atA xt xn ((itemsOf (tT p q)).take 3)).1 < ((3 : Nat) : Int); omega) ?_; conv => whnf
         repeat (first | (intro _; conv => whnf) | (refine br_t (by first | rfl | assumption) ?_; conv => whnf) | (refine br_f (by first | rfl | assumption) ?_; conv => whnf) | (refine IdxN.lit rfl rfl ?_; conv => whnf))
         refine LoadN.of (hone.mono le_auto) 0 (by show u5 + ((atA xt xn ((itemsOf (tT p q)).take 3)).1).toNat * 1 = u5 + kk + 0; rw [hkk]; omega) rfl ?_; conv => whnf
         repeat (first | (intro _; conv => whnf) | (refine br_t (by first | rfl | assumption) ?_; conv => whnf) | (refine br_f (by first | rfl | assumption) ?_; conv => whnf) | (refine IdxN.lit rfl rfl ?_; conv => whnf))
         apply br <;> intro g9 <;> conv => whnf
         ·repeat (first | (intro _; conv => whnf) | (refine br_t (by first | rfl | assumption) ?_; conv => whnf) | (refine br_f (by first | rfl | assumption) ?_; conv => whnf) | (refine IdxN.lit rfl rfl ?_; conv => whnf))
          exact ret_pure ⟨_, rfl, fun h => absurd h (by decide)⟩
         ·repeat (first | (intro _; conv => whnf) | (refine br_t (by first | rfl | assumption) ?_; conv => whnf) | (refine br_f (by first | rfl | assumption) ?_; conv => whnf) | (refine IdxN.lit rfl rfl ?_; conv => whnf))
          have hwi := wrap_nat (i := i) (by omega)
          refine ⟨j - 1, (i + 1, (IntKind.i64.wrap (na + 1)), np), by omega, ?_, ?_, View.le_trans hV le_auto, hat'.mono le_auto, hi1, by show _ - (i + 1) = _; omega, cnt_yes isAgg hx (by simp [isAgg, e6]) hna hl4, cnt_no isPlain hx (by simp [isPlain, e6]) hnp, all_snoc hx hok (hio)⟩
          ·repeat' (first | exact sees_nil | refine sees_cons rfl rfl rfl ?_ | refine sees_cons rfl rfl (by rw [← hwi]; rfl) ?_)
          ·repeat' (first | exact keeps_nil | refine keeps_cons rfl ?_ | refine keeps_free ?_)
        ·repeat (first | (intro _; conv => whnf) | (refine br_t (by first | rfl | assumption) ?_; conv => whnf) | (refine br_f (by first | rfl | assumption) ?_; conv => whnf) | (refine IdxN.lit rfl rfl ?_; conv => whnf))
         have hwi := wrap_nat (i := i) (by omega)
         refine ⟨j - 1, (i + 1, (IntKind.i64.wrap (na + 1)), np), by omega, ?_, ?_, View.le_trans hV le_auto, hat'.mono le_auto, hi1, by show _ - (i + 1) = _; omega, cnt_yes isAgg hx (by simp [isAgg, e6]) hna hl4, cnt_no isPlain hx (by simp [isPlain, e6]) hnp, all_snoc hx hok (hio)⟩
         ·repeat' (first | exact sees_nil | refine sees_cons rfl rfl rfl ?_ | refine sees_cons rfl rfl (by rw [← hwi]; rfl) ?_)
         ·repeat' (first | exact keeps_nil | refine keeps_cons rfl ?_ | refine keeps_free ?_)
  ·have hin : l.length ≤ i := by have := of_decide_eq_false g1; omega
   have hall : ∀ y ∈ l, ItemOk (itemsOf (tT p q)) y := by rw [List.take_of_length_le hin] at hok; exact hok
   repeat (first | (intro _; conv => whnf) | (refine br_t (by first | rfl | assumption) ?_; conv => whnf) | (refine br_f (by first | rfl | assumption) ?_; conv => whnf) | (refine IdxN.lit rfl rfl ?_; conv => whnf))
   apply br <;> intro g2 <;> conv => whnf
   ·repeat (first | (intro _; conv => whnf) | (refine br_t (by first | rfl | assumption) ?_; conv => whnf) | (refine br_f (by first | rfl | assumption) ?_; conv => whnf) | (refine IdxN.lit rfl rfl ?_; conv => whnf))
    apply br <;> intro g3 <;> conv => whnf
    ·repeat (first | (intro _; conv => whnf) | (refine br_t (by first | rfl | assumption) ?_; conv => whnf) | (refine br_f (by first | rfl | assumption) ?_; conv => whnf) | (refine IdxN.lit rfl rfl ?_; conv => whnf))
     exact ret_pure ⟨_, rfl, fun h => absurd h (by decide)⟩
    ·have hmix : (∃ x ∈ l, x.agg ≠ 0) → ∀ x ∈ l, x.agg ≠ 0 := fun _ x hx h => by
      have := none_of_cnt hin hnp (by have := of_decide_eq_false g3; exact this) x hx
      simp [isPlain, h] at this
     repeat (first | (intro _; conv => whnf) | (refine br_t (by first | rfl | assumption) ?_; conv => whnf) | (refine br_f (by first | rfl | assumption) ?_; conv => whnf) | (refine IdxN.lit rfl rfl ?_; conv => whnf))
     apply br <;> intro g4 <;> conv => whnf
     ·repeat (first | (intro _; conv => whnf) | (refine br_t (by first | rfl | assumption) ?_; conv => whnf) | (refine br_f (by first | rfl | assumption) ?_; conv => whnf) | (refine IdxN.lit rfl rfl ?_; conv => whnf))
      exact ret_pure ⟨_, rfl, fun h => absurd h (by decide)⟩
     ·repeat (first | (intro _; conv => whnf) | (refine br_t (by first | rfl | assumption) ?_; conv => whnf) | (refine br_f (by first | rfl | assumption) ?_; conv => whnf) | (refine IdxN.lit rfl rfl ?_; conv => whnf))
      refine CallN.pure (rwhere_spec (itemsOf (tT p q)) (kindsOf (tT p q)) p5 o5 ac q5 u5 cc 3 3 rfl rfl swh _ (hat'.mono le_auto) (hwh.mono le_auto)) fun v V8 _ hV8 ⟨ew, hv⟩ => ?_
      subst hv; conv => whnf
      apply br <;> intro g5 <;> conv => whnf
      ·repeat (first | (intro _; conv => whnf) | (refine br_t (by first | rfl | assumption) ?_; conv => whnf) | (refine br_f (by first | rfl | assumption) ?_; conv => whnf) | (refine IdxN.lit rfl rfl ?_; conv => whnf))
       exact ret_pure ⟨_, rfl, fun h => absurd h (by simpa using g5)⟩
      ·repeat (first | (intro _; conv => whnf) | (refine br_t (by first | rfl | assumption) ?_; conv => whnf) | (refine br_f (by first | rfl | assumption) ?_; conv => whnf) | (refine IdxN.lit rfl rfl ?_; conv => whnf))
       apply br <;> intro g6 <;> conv => whnf
       ·repeat (first | (intro _; conv => whnf) | (refine br_t (by first | rfl | assumption) ?_; conv => whnf) | (refine br_f (by first | rfl | assumption) ?_; conv => whnf) | (refine IdxN.lit rfl rfl ?_; conv => whnf))
        refine ret_pure ⟨_, rfl, fun _ => ⟨l, none, rfl, hl4, View.cells.mono hic le_auto, .inl ⟨?_, rfl⟩, hall, hmix, fun tb nm h => by cases h⟩⟩
        rcases hor with hor | ⟨go1, gtb, gnm, hor, hgo⟩
        ·rw [hor]
        ·have hor : sord = (some ⟨go1, 0, none⟩, 1, 1) := hor
         rw [hor] at g6
         exact absurd g6 (by simp)
       ·rcases hor with hor | ⟨go1, gtb, gnm, hor, hgo⟩
        ·have hor : sord = (none, 0, 0) := hor
         rw [hor] at g6
         exact absurd g6 (by decide)
        ·have hor : sord = (some ⟨go1, 0, none⟩, 1, 1) := hor
         subst hor
         repeat (first | (intro _; conv => whnf) | (refine br_t (by first | rfl | assumption) ?_; conv => whnf) | (refine br_f (by first | rfl | assumption) ?_; conv => whnf) | (refine IdxN.lit rfl rfl ?_; conv => whnf))
         refine LoadN.of (hgo.mono le_auto) 0 rfl rfl ?_; conv => whnf
         repeat (first | (intro _; conv => whnf) | (refine br_t (by first | rfl | assumption) ?_; conv => whnf) | (refine br_f (by first | rfl | assumption) ?_; conv => whnf) | (refine IdxN.lit rfl rfl ?_; conv => whnf))
         refine CallN.pure (at_spec (itemsOf (tT p q)) 3 p5 ac o5 (colN gtb gnm) _ (hat'.hasI.mono le_auto) (by show 3 ≤ 1000000; decide) (by decide)) fun v V9 _ hV9 hv => ?_
         subst hv; conv => whnf
         repeat (first | (intro _; conv => whnf) | (refine br_t (by first | rfl | assumption) ?_; conv => whnf) | (refine br_f (by first | rfl | assumption) ?_; conv => whnf) | (refine IdxN.lit rfl rfl ?_; conv => whnf))
         exact ret_pure ⟨_, rfl, fun h => ⟨l, some (gtb, gnm), rfl, hl4, View.cells.mono hic le_auto, .inr ⟨go1, gtb, gnm, rfl, hgo.mono le_auto, rfl⟩, hall, hmix, fun tb nm h2 => by
          simp only [Option.some.injEq, Prod.mk.injEq] at h2
          obtain ⟨rfl, rfl⟩ := h2
          exact h⟩⟩
   ·have hmix : (∃ x ∈ l, x.agg ≠ 0) → ∀ x ∈ l, x.agg ≠ 0 := fun ⟨x, hx, h⟩ => by
     have := none_of_cnt hin hna (by have := of_decide_eq_false g2; exact this) x hx
     simp [isAgg, h] at this
    repeat (first | (intro _; conv => whnf) | (refine br_t (by first | rfl | assumption) ?_; conv => whnf) | (refine br_f (by first | rfl | assumption) ?_; conv => whnf) | (refine IdxN.lit rfl rfl ?_; conv => whnf))
    refine CallN.pure (rwhere_spec (itemsOf (tT p q)) (kindsOf (tT p q)) p5 o5 ac q5 u5 cc 3 3 rfl rfl swh _ (hat'.mono le_auto) (hwh.mono le_auto)) fun v V8 _ hV8 ⟨ew, hv⟩ => ?_
    subst hv; conv => whnf
    apply br <;> intro g5 <;> conv => whnf
    ·repeat (first | (intro _; conv => whnf) | (refine br_t (by first | rfl | assumption) ?_; conv => whnf) | (refine br_f (by first | rfl | assumption) ?_; conv => whnf) | (refine IdxN.lit rfl rfl ?_; conv => whnf))
     exact ret_pure ⟨_, rfl, fun h => absurd h (by simpa using g5)⟩
    ·repeat (first | (intro _; conv => whnf) | (refine br_t (by first | rfl | assumption) ?_; conv => whnf) | (refine br_f (by first | rfl | assumption) ?_; conv => whnf) | (refine IdxN.lit rfl rfl ?_; conv => whnf))
     apply br <;> intro g6 <;> conv => whnf
     ·repeat (first | (intro _; conv => whnf) | (refine br_t (by first | rfl | assumption) ?_; conv => whnf) | (refine br_f (by first | rfl | assumption) ?_; conv => whnf) | (refine IdxN.lit rfl rfl ?_; conv => whnf))
      refine ret_pure ⟨_, rfl, fun _ => ⟨l, none, rfl, hl4, View.cells.mono hic le_auto, .inl ⟨?_, rfl⟩, hall, hmix, fun tb nm h => by cases h⟩⟩
      rcases hor with hor | ⟨go1, gtb, gnm, hor, hgo⟩
      ·rw [hor]
      ·have hor : sord = (some ⟨go1, 0, none⟩, 1, 1) := hor
       rw [hor] at g6
       exact absurd g6 (by simp)
     ·rcases hor with hor | ⟨go1, gtb, gnm, hor, hgo⟩
      ·have hor : sord = (none, 0, 0) := hor
       rw [hor] at g6
       exact absurd g6 (by decide)
      ·have hor : sord = (some ⟨go1, 0, none⟩, 1, 1) := hor
       subst hor
       repeat (first | (intro _; conv => whnf) | (refine br_t (by first | rfl | assumption) ?_; conv => whnf) | (refine br_f (by first | rfl | assumption) ?_; conv => whnf) | (refine IdxN.lit rfl rfl ?_; conv => whnf))
       refine LoadN.of (hgo.mono le_auto) 0 rfl rfl ?_; conv => whnf
       repeat (first | (intro _; conv => whnf) | (refine br_t (by first | rfl | assumption) ?_; conv => whnf) | (refine br_f (by first | rfl | assumption) ?_; conv => whnf) | (refine IdxN.lit rfl rfl ?_; conv => whnf))
       refine CallN.pure (at_spec (itemsOf (tT p q)) 3 p5 ac o5 (colN gtb gnm) _ (hat'.hasI.mono le_auto) (by show 3 ≤ 1000000; decide) (by decide)) fun v V9 _ hV9 hv => ?_
       subst hv; conv => whnf
       repeat (first | (intro _; conv => whnf) | (refine br_t (by first | rfl | assumption) ?_; conv => whnf) | (refine br_f (by first | rfl | assumption) ?_; conv => whnf) | (refine IdxN.lit rfl rfl ?_; conv => whnf))
       exact ret_pure ⟨_, rfl, fun h => ⟨l, some (gtb, gnm), rfl, hl4, View.cells.mono hic le_auto, .inr ⟨go1, gtb, gnm, rfl, hgo.mono le_auto, rfl⟩, hall, hmix, fun tb nm h2 => by
        simp only [Option.some.injEq, Prod.mk.injEq] at h2
        obtain ⟨rfl, rfl⟩ := h2
        exact h⟩⟩
 ·have hj : sjoin = (tU p2).nm := hj
  subst hj
  subst h2
  refine br_t (by simp [txt, ByteArray.toList_eq, tT, tU]) ?_; conv => whnf
  repeat' ((first | refine br_t rfl ?_ | refine br_f rfl ?_ | refine IdxN.lit rfl rfl ?_ | intro _); conv => whnf)
  refine CallN.pure (tableU_spec r p q p2 _ (hr.mono le_auto)) fun v V1 _ hV1 hv => ?_
  subst hv; conv => whnf
  repeat' ((first | refine br_t rfl ?_ | refine br_f rfl ?_ | refine IdxN.lit rfl rfl ?_ | intro _); conv => whnf)
  refine br_f (by simp [txt, ByteArray.toList_eq, tT, tU]) ?_; conv => whnf
  refine CallN.news (colsR_spec (tU p2) _ (ho.mono le_auto)) fun v V2 bs hV2 ⟨a2, ac2, c2, cc2, hv, hA2, hC2, hb⟩ => ⟨[(302, .row (.slice a2 3 ac2) 68 3 3), (303, .row (.slice c2 3 cc2) 3 1 3)], by rw [hb]; rfl, by simp, fun x hx => by (simp only [List.mem_cons, List.not_mem_nil, or_false] at hx; rcases hx with rfl | rfl <;> rfl), ?_⟩
  subst hv; conv => whnf
  repeat' ((first | refine br_t rfl ?_ | refine br_f rfl ?_ | refine IdxN.lit rfl rfl ?_ | intro _); conv => whnf)
  refine ⟨⟨300, _, rfl, ?_⟩⟩
  refine AppN.to 6 rfl ((itemsOf (tT p q)).flatMap icells) ((itemsOf (tU p2)).flatMap icells) (hA.mono le_auto) rfl (hA2.mono le_auto) rfl (allOne_items _) (by decide) (by decide) fun a3 ac3 V3 hV3 hA3 => ?_; conv => whnf
  refine ⟨⟨301, _, rfl, ?_⟩⟩
  refine AppN.to 6 rfl ((kindsOf (tT p q)).map (.int .i64 ·)) ((kindsOf (tU p2)).map (.int .i64 ·)) (hC.mono le_auto) rfl (hC2.mono le_auto) rfl (allOne_ints _) (by decide) (by decide) fun c3 cc3 V4 hV4 hC3 => ?_; conv => whnf
  obtain ⟨p5, o5, hb5, hh5⟩ := cells_some hA3 (by intro h; cases h)
  obtain ⟨q5, u5, hd5, hj5⟩ := cells_some hC3 (by intro h; cases h)
  subst hb5; subst hd5
  have hat : ColsAt V4 (itemsOf (tT p q) ++ itemsOf (tU p2)) (kindsOf (tT p q) ++ kindsOf (tU p2)) p5 o5 q5 u5 := ⟨by rw [List.flatMap_append]; exact hh5.mono le_auto, by rw [List.map_append]; exact hj5, rfl, by show 6 ≤ 20; decide⟩
  obtain ⟨g, kd, x1, x2, tb1, tb2, hon1, hon2, _⟩ := hon
  have hon1 : son = (some ⟨g, 0, none⟩, 2, 2) := hon1
  subst hon1
  repeat' ((first | refine br_t rfl ?_ | refine br_f rfl ?_ | refine IdxN.lit rfl rfl ?_ | intro _); conv => whnf)
  refine unrollz 3 ?_; conv => whnf
  repeat' ((first | refine br_t rfl ?_ | refine br_f rfl ?_ | refine IdxN.lit rfl rfl ?_ | intro _); conv => whnf)
  refine LoadN.of (hon2.mono le_auto) 0 rfl rfl ?_; conv => whnf
  repeat' ((first | refine br_t rfl ?_ | refine br_f rfl ?_ | refine IdxN.lit rfl rfl ?_ | intro _); conv => whnf)
  refine CallN.pure (kind_spec (itemsOf (tT p q) ++ itemsOf (tU p2)) (kindsOf (tT p q) ++ kindsOf (tU p2)) p5 o5 ac3 q5 u5 cc3 6 6 rfl rfl (.col tb1 x1.nm) (colN tb1 x1.nm) _ (hat.mono le_auto) (repCol tb1 x1.nm)) fun v V5 _ hV5 ⟨k1, e1, hv⟩ => ?_
  subst hv; conv => whnf
  apply br <;> intro g1 <;> conv => whnf
  ·repeat' ((first | refine br_t rfl ?_ | refine br_f rfl ?_ | refine IdxN.lit rfl rfl ?_ | intro _); conv => whnf)
   exact ret_pure ⟨_, rfl, fun h => absurd h (by simpa using g1)⟩
  repeat' ((first | refine br_t rfl ?_ | refine br_f rfl ?_ | refine IdxN.lit rfl rfl ?_ | intro _); conv => whnf)
  rename_i lb Vl hVl lk
  refine AppN.to 1 rfl [] [.int .i64 k1] rfl rfl lk rfl rfl (by decide) (by decide) fun base' cap' V6 hV6 hc6 => ?_; conv => whnf
  repeat' ((first | refine br_t rfl ?_ | refine br_f rfl ?_ | refine IdxN.lit rfl rfl ?_ | intro _); conv => whnf)
  refine LoadN.of (hon2.mono le_auto) 7 rfl rfl ?_; conv => whnf
  repeat' ((first | refine br_t rfl ?_ | refine br_f rfl ?_ | refine IdxN.lit rfl rfl ?_ | intro _); conv => whnf)
  refine CallN.pure (kind_spec (itemsOf (tT p q) ++ itemsOf (tU p2)) (kindsOf (tT p q) ++ kindsOf (tU p2)) p5 o5 ac3 q5 u5 cc3 6 6 rfl rfl (.col tb2 x2.nm) (colN tb2 x2.nm) _ (hat.mono le_auto) (repCol tb2 x2.nm)) fun v V7 _ hV7 ⟨k2, e2, hv⟩ => ?_
  subst hv; conv => whnf
  apply br <;> intro g2 <;> conv => whnf
  ·repeat' ((first | refine br_t rfl ?_ | refine br_f rfl ?_ | refine IdxN.lit rfl rfl ?_ | intro _); conv => whnf)
   exact ret_pure ⟨_, rfl, fun h => absurd h (by simpa using g2)⟩
  repeat' ((first | refine br_t rfl ?_ | refine br_f rfl ?_ | refine IdxN.lit rfl rfl ?_ | intro _); conv => whnf)
  rename_i lb2 Vl2 hVl2 lk2
  refine AppN.to 2 rfl [.int .i64 k1] [.int .i64 k2] (hc6.mono le_auto) rfl lk2 rfl rfl (by decide) (by decide) fun base2 cap2 V9 hV9 hc9 => ?_; conv => whnf
  obtain ⟨pl, ol, hbl, hll⟩ := cells_some hc9 (by intro h; cases h)
  subst hbl
  repeat' ((first | refine br_t rfl ?_ | refine br_f rfl ?_ | refine IdxN.lit rfl rfl ?_ | intro _); conv => whnf)
  refine LoadN.of (hll.mono le_auto) 0 rfl rfl ?_; conv => whnf
  repeat' ((first | refine br_t rfl ?_ | refine br_f rfl ?_ | refine IdxN.lit rfl rfl ?_ | intro _); conv => whnf)
  refine LoadN.of (hll.mono le_auto) 1 rfl rfl ?_; conv => whnf
  repeat' ((first | refine br_t rfl ?_ | refine br_f rfl ?_ | refine IdxN.lit rfl rfl ?_ | intro _); conv => whnf)
  apply br <;> intro g3 <;> conv => whnf
  ·repeat' ((first | refine br_t rfl ?_ | refine br_f rfl ?_ | refine IdxN.lit rfl rfl ?_ | intro _); conv => whnf)
   exact ret_pure ⟨_, rfl, fun h => absurd h (by decide)⟩
  repeat' ((first | refine br_t rfl ?_ | refine br_f rfl ?_ | refine IdxN.lit rfl rfl ?_ | intro _); conv => whnf)
  clear g1 g2 g3
  obtain ⟨l, hil, hl4, hic⟩ := hp.items
  have hil : il = l.length := hil
  subst hil
  have hic : V.cells (.slice ib l.length ic) (l.flatMap icells) := hic
  have hor := hp.order
  have hwh := hp.wh
  refine loopz (σ := Nat × Int × Int)
   (fun x => [(4, .own 4 0), (7, .v (.slice (some ⟨p5, o5, none⟩) 6 ac3)), (8, .v (.slice (some ⟨q5, u5, none⟩) 6 cc3)), (17, .v (.int .i64 x.2.1)), (18, .v (.int .i64 x.2.2)), (19, .v (.int .i64 x.1))])
   (fun _ => [(4, .box b4 30 [.int .i64 6, .string ((tT p q).nm), .string snm, .slice s3.1 s3.2.1 s3.2.2, .slice s4.1 s4.2.1 s4.2.2, .slice s5.1 s5.2.1 s5.2.2, .slice ib l.length ic, .string ((tU p2).nm), .slice ((some ⟨g, 0, none⟩, 2, 2) : Option Addr × Nat × Nat).1 ((some ⟨g, 0, none⟩, 2, 2) : Option Addr × Nat × Nat).2.1 ((some ⟨g, 0, none⟩, 2, 2) : Option Addr × Nat × Nat).2.2, .slice swh.1 swh.2.1 swh.2.2, .slice sord.1 sord.2.1 sord.2.2, .bool sdesc, .slice sinn.1 sinn.2.1 sinn.2.2])])
   (fun j x V' => V.le V' ∧ ColsAt V' (itemsOf (tT p q) ++ itemsOf (tU p2)) (kindsOf (tT p q) ++ kindsOf (tU p2)) p5 o5 q5 u5 ∧ x.1 ≤ l.length ∧ l.length - x.1 = j ∧ x.2.1 = (((l.take x.1).filter isAgg).length : Nat) ∧ x.2.2 = (((l.take x.1).filter isPlain).length : Nat) ∧ ∀ y ∈ l.take x.1, ItemOk (itemsOf (tT p q) ++ itemsOf (tU p2)) y) l.length (0, 0, 0) ?_ ?_ ?_ ?_
  ·repeat' (first | exact sees_nil | refine sees_cons rfl rfl rfl ?_)
  ·repeat' (first | exact keeps_nil | refine keeps_cons rfl ?_ | refine keeps_free ?_)
  ·exact ⟨le_auto, (hat).mono le_auto, Nat.zero_le _, rfl, rfl, rfl, fun y hy => by simp at hy⟩
  rintro j ⟨i, na, np⟩ V' ⟨hV, hat', hi, hj, hna, hnp, hok⟩
  simp only at hi hj hna hnp hok
  conv => whnf
  apply br <;> intro g1 <;> conv => whnf
  ·have hi1 : i < l.length := by have := of_decide_eq_true g1; omega
   obtain ⟨x, hx⟩ : ∃ x, l[i]? = some x := ⟨_, List.getElem?_eq_getElem hi1⟩
   obtain ⟨pi, oi, hbi, hhi⟩ := cells_some hic (by
    obtain ⟨y, l', rfl⟩ := List.exists_cons_of_ne_nil (fun e : l = [] => by rw [e] at hi1; cases hi1)
    intro h; cases h)
   subst hbi
   have hxc := has_flat (n := 3) (fun _ => rfl) l oi hhi i x hx
   obtain ⟨xa, xt, xn⟩ := x
   repeat (first | (intro _; conv => whnf) | (refine br_t (by first | rfl | assumption) ?_; conv => whnf) | (refine br_f (by first | rfl | assumption) ?_; conv => whnf) | (refine IdxN.lit rfl rfl ?_; conv => whnf))
   refine IdxN.of (by omega) (by omega) ?_; conv => whnf
   refine LoadN.of (hxc.mono le_auto) 0 rfl rfl ?_; conv => whnf
   repeat (first | (intro _; conv => whnf) | (refine br_t (by first | rfl | assumption) ?_; conv => whnf) | (refine br_f (by first | rfl | assumption) ?_; conv => whnf) | (refine IdxN.lit rfl rfl ?_; conv => whnf))
   apply br <;> intro g2 <;> conv => whnf
   ·repeat (first | (intro _; conv => whnf) | (refine br_t (by first | rfl | assumption) ?_; conv => whnf) | (refine br_f (by first | rfl | assumption) ?_; conv => whnf) | (refine IdxN.lit rfl rfl ?_; conv => whnf))
    exact ret_pure ⟨_, rfl, fun h => absurd h (by decide)⟩
   ·repeat (first | (intro _; conv => whnf) | (refine br_t (by first | rfl | assumption) ?_; conv => whnf) | (refine br_f (by first | rfl | assumption) ?_; conv => whnf) | (refine IdxN.lit rfl rfl ?_; conv => whnf))
    apply br <;> intro g3 <;> conv => whnf
    ·repeat (first | (intro _; conv => whnf) | (refine br_t (by first | rfl | assumption) ?_; conv => whnf) | (refine br_f (by first | rfl | assumption) ?_; conv => whnf) | (refine IdxN.lit rfl rfl ?_; conv => whnf))
     exact ret_pure ⟨_, rfl, fun h => absurd h (by decide)⟩
    ·repeat (first | (intro _; conv => whnf) | (refine br_t (by first | rfl | assumption) ?_; conv => whnf) | (refine br_f (by first | rfl | assumption) ?_; conv => whnf) | (refine IdxN.lit rfl rfl ?_; conv => whnf))
     apply br <;> intro g4 <;> conv => whnf
     ·have e4 : xa = 1 := by simpa using g4
      subst e4
      repeat (first | (intro _; conv => whnf) | (refine br_t (by first | rfl | assumption) ?_; conv => whnf) | (refine br_f (by first | rfl | assumption) ?_; conv => whnf) | (refine IdxN.lit rfl rfl ?_; conv => whnf))
      apply br <;> intro g5 <;> conv => whnf
      ·repeat (first | (intro _; conv => whnf) | (refine br_t (by first | rfl | assumption) ?_; conv => whnf) | (refine br_f (by first | rfl | assumption) ?_; conv => whnf) | (refine IdxN.lit rfl rfl ?_; conv => whnf))
       exact ret_pure ⟨_, rfl, fun h => absurd h (by decide)⟩
      ·repeat (first | (intro _; conv => whnf) | (refine br_t (by first | rfl | assumption) ?_; conv => whnf) | (refine br_f (by first | rfl | assumption) ?_; conv => whnf) | (refine IdxN.lit rfl rfl ?_; conv => whnf))
       have hwi := wrap_nat (i := i) (by omega)
       refine ⟨j - 1, (i + 1, (IntKind.i64.wrap (na + 1)), np), by omega, ?_, ?_, View.le_trans hV le_auto, hat'.mono le_auto, hi1, by show _ - (i + 1) = _; omega, cnt_yes isAgg hx rfl hna hl4, cnt_no isPlain hx rfl hnp, all_snoc hx hok (.inl rfl)⟩
       ·repeat' (first | exact sees_nil | refine sees_cons rfl rfl rfl ?_ | refine sees_cons rfl rfl (by rw [← hwi]; rfl) ?_)
       ·repeat' (first | exact keeps_nil | refine keeps_cons rfl ?_ | refine keeps_free ?_)
     ·repeat (first | (intro _; conv => whnf) | (refine br_t (by first | rfl | assumption) ?_; conv => whnf) | (refine br_f (by first | rfl | assumption) ?_; conv => whnf) | (refine IdxN.lit rfl rfl ?_; conv => whnf))
      apply br <;> intro g6 <;> conv => whnf
      ·have e6 : xa = 0 := by simpa using g6
       repeat (first | (intro _; conv => whnf) | (refine br_t (by first | rfl | assumption) ?_; conv => whnf) | (refine br_f (by first | rfl | assumption) ?_; conv => whnf) | (refine IdxN.lit rfl rfl ?_; conv => whnf))
       refine CallN.pure (at_spec (itemsOf (tT p q) ++ itemsOf (tU p2)) 6 p5 ac3 o5 ⟨0, v0, xt, xn, none, 0, 0⟩ _ (hat'.hasI.mono le_auto) (by show 6 ≤ 1000000; decide) (by decide)) fun v V7 _ hV7 hv => ?_
       subst hv; conv => whnf
       apply br <;> intro g7 <;> conv => whnf
       ·repeat (first | (intro _; conv => whnf) | (refine br_t (by first | rfl | assumption) ?_; conv => whnf) | (refine br_f (by first | rfl | assumption) ?_; conv => whnf) | (refine IdxN.lit rfl rfl ?_; conv => whnf))
        exact ret_pure ⟨_, rfl, fun h => absurd h (by simpa using g7)⟩
       ·have g7' : (atA xt xn ((itemsOf (tT p q) ++ itemsOf (tU p2)).take 6)).2 = 0 := by simpa using g7
        obtain ⟨h0, h1⟩ := atA_range g7'
        obtain ⟨kk, hkk⟩ := Int.eq_ofNat_of_zero_le h0
        have h1 : (atA xt xn ((itemsOf (tT p q) ++ itemsOf (tU p2)).take 6)).1 < ((6 : Nat) : Int) := h1
        have hio : ItemOk (itemsOf (tT p q) ++ itemsOf (tU p2)) ⟨xa, xt, xn⟩ := .inr ⟨by have := of_decide_eq_false g2; exact Int.not_lt.1 this, by have := of_decide_eq_false g3; exact Int.not_lt.1 this, g7'⟩
        obtain ⟨kv, hkv⟩ : ∃ y, (kindsOf (tT p q) ++ kindsOf (tU p2))[kk]? = some y := ⟨_, List.getElem?_eq_getElem (by show kk < 6; omega)⟩
        have hone := has_one hat'.hasK (i := kk) (c := .int .i64 kv) (by rw [List.getElem?_map, hkv]; rfl)
        repeat (first | (intro _; conv => whnf) | (refine br_t (by first | rfl | assumption) ?_; conv => whnf) | (refine br_f (by first | rfl | assumption) ?_; conv => whnf) | (refine IdxN.lit rfl rfl ?_; conv => whnf))
        apply br <;> intro g8 <;> conv => whnf
        ·repeat (first | (intro _; conv => whnf) | (refine br_t (by first | rfl | assumption) ?_; conv => whnf) | (refine br_f (by first | rfl | assumption) ?_; conv => whnf) | (refine IdxN.lit rfl rfl ?_; conv => whnf))
         refine IdxN.of (by show 0 ≤ (atA xt xn ((itemsOf (tT p q) ++ itemsOf (tU p2)).take 6)).1; omega) (by show (atA xt xn ((itemsOf (tT p q) ++ itemsOf (tU p2)).take 6)).1 < ((6 : Nat) : Int); omega) ?_; conv => whnf
         repeat (first | (intro _; conv => whnf) | (refine br_t (by first | rfl | assumption) ?_; conv => whnf) | (refine br_f (by first | rfl | assumption) ?_; conv => whnf) | (refine IdxN.lit rfl rfl ?_; conv => whnf))
         refine LoadN.of (hone.mono le_auto) 0 (by show u5 + ((atA xt xn ((itemsOf (tT p q) ++ itemsOf (tU p2)).take 6)).1).toNat * 1 = u5 + kk + 0; rw [hkk]; omega) rfl ?_; conv => whnf
         repeat (first | (intro _; conv => whnf) | (refine br_t (by first | rfl | assumption) ?_; conv => whnf) | (refine br_f (by first | rfl | assumption) ?_; conv => whnf) | (refine IdxN.lit rfl rfl ?_; conv => whnf))
         apply br <;> intro g9 <;> conv => whnf
         ·repeat (first | (intro _; conv => whnf) | (refine br_t (by first | rfl | assumption) ?_; conv => whnf) | (refine br_f (by first | rfl | assumption) ?_; conv => whnf) | (refine IdxN.lit rfl rfl ?_; conv => whnf))
          exact ret_pure ⟨_, rfl, fun h => absurd h (by decide)⟩
         ·repeat (first | (intro _; conv => whnf) | (refine br_t (by first | rfl | assumption) ?_; conv => whnf) | (refine br_f (by first | rfl | assumption) ?_; conv => whnf) | (refine IdxN.lit rfl rfl ?_; conv => whnf))
          have hwi := wrap_nat (i := i) (by omega)
          refine ⟨j - 1, (i + 1, na, (IntKind.i64.wrap (np + 1))), by omega, ?_, ?_, View.le_trans hV le_auto, hat'.mono le_auto, hi1, by show _ - (i + 1) = _; omega, cnt_no isAgg hx (by simp [isAgg, e6]) hna, cnt_yes isPlain hx (by simp [isPlain, e6]) hnp hl4, all_snoc hx hok (hio)⟩
          ·repeat' (first | exact sees_nil | refine sees_cons rfl rfl rfl ?_ | refine sees_cons rfl rfl (by rw [← hwi]; rfl) ?_)
          ·repeat' (first | exact keeps_nil | refine keeps_cons rfl ?_ | refine keeps_free ?_)
        ·repeat (first | (intro _; conv => whnf) | (refine br_t (by first | rfl | assumption) ?_; conv => whnf) | (refine br_f (by first | rfl | assumption) ?_; conv => whnf) | (refine IdxN.lit rfl rfl ?_; conv => whnf))
         have hwi := wrap_nat (i := i) (by omega)
         refine ⟨j - 1, (i + 1, na, (IntKind.i64.wrap (np + 1))), by omega, ?_, ?_, View.le_trans hV le_auto, hat'.mono le_auto, hi1, by show _ - (i + 1) = _; omega, cnt_no isAgg hx (by simp [isAgg, e6]) hna, cnt_yes isPlain hx (by simp [isPlain, e6]) hnp hl4, all_snoc hx hok (hio)⟩
         ·repeat' (first | exact sees_nil | refine sees_cons rfl rfl rfl ?_ | refine sees_cons rfl rfl (by rw [← hwi]; rfl) ?_)
         ·repeat' (first | exact keeps_nil | refine keeps_cons rfl ?_ | refine keeps_free ?_)
      ·have e6 : xa ≠ 0 := by simpa using g6
       repeat (first | (intro _; conv => whnf) | (refine br_t (by first | rfl | assumption) ?_; conv => whnf) | (refine br_f (by first | rfl | assumption) ?_; conv => whnf) | (refine IdxN.lit rfl rfl ?_; conv => whnf))
       refine CallN.pure (at_spec (itemsOf (tT p q) ++ itemsOf (tU p2)) 6 p5 ac3 o5 ⟨0, v0, xt, xn, none, 0, 0⟩ _ (hat'.hasI.mono le_auto) (by show 6 ≤ 1000000; decide) (by decide)) fun v V7 _ hV7 hv => ?_
       subst hv; conv => whnf
       apply br <;> intro g7 <;> conv => whnf
       ·repeat (first | (intro _; conv => whnf) | (refine br_t (by first | rfl | assumption) ?_; conv => whnf) | (refine br_f (by first | rfl | assumption) ?_; conv => whnf) | (refine IdxN.lit rfl rfl ?_; conv => whnf))
        exact ret_pure ⟨_, rfl, fun h => absurd h (by simpa using g7)⟩
       ·have g7' : (atA xt xn ((itemsOf (tT p q) ++ itemsOf (tU p2)).take 6)).2 = 0 := by simpa using g7
        obtain ⟨h0, h1⟩ := atA_range g7'
        obtain ⟨kk, hkk⟩ := Int.eq_ofNat_of_zero_le h0
        have h1 : (atA xt xn ((itemsOf (tT p q) ++ itemsOf (tU p2)).take 6)).1 < ((6 : Nat) : Int) := h1
        have hio : ItemOk (itemsOf (tT p q) ++ itemsOf (tU p2)) ⟨xa, xt, xn⟩ := .inr ⟨by have := of_decide_eq_false g2; exact Int.not_lt.1 this, by have := of_decide_eq_false g3; exact Int.not_lt.1 this, g7'⟩
        obtain ⟨kv, hkv⟩ : ∃ y, (kindsOf (tT p q) ++ kindsOf (tU p2))[kk]? = some y := ⟨_, List.getElem?_eq_getElem (by show kk < 6; omega)⟩
        have hone := has_one hat'.hasK (i := kk) (c := .int .i64 kv) (by rw [List.getElem?_map, hkv]; rfl)
        repeat (first | (intro _; conv => whnf) | (refine br_t (by first | rfl | assumption) ?_; conv => whnf) | (refine br_f (by first | rfl | assumption) ?_; conv => whnf) | (refine IdxN.lit rfl rfl ?_; conv => whnf))
        apply br <;> intro g8 <;> conv => whnf
        ·repeat (first | (intro _; conv => whnf) | (refine br_t (by first | rfl | assumption) ?_; conv => whnf) | (refine br_f (by first | rfl | assumption) ?_; conv => whnf) | (refine IdxN.lit rfl rfl ?_; conv => whnf))
         refine IdxN.of (by show 0 ≤ (atA xt xn ((itemsOf (tT p q) ++ itemsOf (tU p2)).take 6)).1; omega) (by show (atA xt xn ((itemsOf (tT p q) ++ itemsOf (tU p2)).take 6)).1 < ((6 : Nat) : Int); omega) ?_; conv => whnf
         repeat (first | (intro _; conv => whnf) | (refine br_t (by first | rfl | assumption) ?_; conv => whnf) | (refine br_f (by first | rfl | assumption) ?_; conv => whnf) | (refine IdxN.lit rfl rfl ?_; conv => whnf))
         refine LoadN.of (hone.mono le_auto) 0 (by show u5 + ((atA xt xn ((itemsOf (tT p q) ++ itemsOf (tU p2)).take 6)).1).toNat * 1 = u5 + kk + 0; rw [hkk]; omega) rfl ?_; conv => whnf
         repeat (first | (intro _; conv => whnf) | (refine br_t (by first | rfl | assumption) ?_; conv => whnf) | (refine br_f (by first | rfl | assumption) ?_; conv => whnf) | (refine IdxN.lit rfl rfl ?_; conv => whnf))
         apply br <;> intro g9 <;> conv => whnf
         ·repeat (first | (intro _; conv => whnf) | (refine br_t (by first | rfl | assumption) ?_; conv => whnf) | (refine br_f (by first | rfl | assumption) ?_; conv => whnf) | (refine IdxN.lit rfl rfl ?_; conv => whnf))
          exact ret_pure ⟨_, rfl, fun h => absurd h (by decide)⟩
         ·repeat (first | (intro _; conv => whnf) | (refine br_t (by first | rfl | assumption) ?_; conv => whnf) | (refine br_f (by first | rfl | assumption) ?_; conv => whnf) | (refine IdxN.lit rfl rfl ?_; conv => whnf))
          have hwi := wrap_nat (i := i) (by omega)
          refine ⟨j - 1, (i + 1, (IntKind.i64.wrap (na + 1)), np), by omega, ?_, ?_, View.le_trans hV le_auto, hat'.mono le_auto, hi1, by show _ - (i + 1) = _; omega, cnt_yes isAgg hx (by simp [isAgg, e6]) hna hl4, cnt_no isPlain hx (by simp [isPlain, e6]) hnp, all_snoc hx hok (hio)⟩
          ·repeat' (first | exact sees_nil | refine sees_cons rfl rfl rfl ?_ | refine sees_cons rfl rfl (by rw [← hwi]; rfl) ?_)
          ·repeat' (first | exact keeps_nil | refine keeps_cons rfl ?_ | refine keeps_free ?_)
        ·repeat (first | (intro _; conv => whnf) | (refine br_t (by first | rfl | assumption) ?_; conv => whnf) | (refine br_f (by first | rfl | assumption) ?_; conv => whnf) | (refine IdxN.lit rfl rfl ?_; conv => whnf))
         have hwi := wrap_nat (i := i) (by omega)
         refine ⟨j - 1, (i + 1, (IntKind.i64.wrap (na + 1)), np), by omega, ?_, ?_, View.le_trans hV le_auto, hat'.mono le_auto, hi1, by show _ - (i + 1) = _; omega, cnt_yes isAgg hx (by simp [isAgg, e6]) hna hl4, cnt_no isPlain hx (by simp [isPlain, e6]) hnp, all_snoc hx hok (hio)⟩
         ·repeat' (first | exact sees_nil | refine sees_cons rfl rfl rfl ?_ | refine sees_cons rfl rfl (by rw [← hwi]; rfl) ?_)
         ·repeat' (first | exact keeps_nil | refine keeps_cons rfl ?_ | refine keeps_free ?_)
  ·have hin : l.length ≤ i := by have := of_decide_eq_false g1; omega
   have hall : ∀ y ∈ l, ItemOk (itemsOf (tT p q) ++ itemsOf (tU p2)) y := by rw [List.take_of_length_le hin] at hok; exact hok
   repeat (first | (intro _; conv => whnf) | (refine br_t (by first | rfl | assumption) ?_; conv => whnf) | (refine br_f (by first | rfl | assumption) ?_; conv => whnf) | (refine IdxN.lit rfl rfl ?_; conv => whnf))
   apply br <;> intro g2 <;> conv => whnf
   ·repeat (first | (intro _; conv => whnf) | (refine br_t (by first | rfl | assumption) ?_; conv => whnf) | (refine br_f (by first | rfl | assumption) ?_; conv => whnf) | (refine IdxN.lit rfl rfl ?_; conv => whnf))
    apply br <;> intro g3 <;> conv => whnf
    ·repeat (first | (intro _; conv => whnf) | (refine br_t (by first | rfl | assumption) ?_; conv => whnf) | (refine br_f (by first | rfl | assumption) ?_; conv => whnf) | (refine IdxN.lit rfl rfl ?_; conv => whnf))
     exact ret_pure ⟨_, rfl, fun h => absurd h (by decide)⟩
    ·have hmix : (∃ x ∈ l, x.agg ≠ 0) → ∀ x ∈ l, x.agg ≠ 0 := fun _ x hx h => by
      have := none_of_cnt hin hnp (by have := of_decide_eq_false g3; exact this) x hx
      simp [isPlain, h] at this
     repeat (first | (intro _; conv => whnf) | (refine br_t (by first | rfl | assumption) ?_; conv => whnf) | (refine br_f (by first | rfl | assumption) ?_; conv => whnf) | (refine IdxN.lit rfl rfl ?_; conv => whnf))
     apply br <;> intro g4 <;> conv => whnf
     ·repeat (first | (intro _; conv => whnf) | (refine br_t (by first | rfl | assumption) ?_; conv => whnf) | (refine br_f (by first | rfl | assumption) ?_; conv => whnf) | (refine IdxN.lit rfl rfl ?_; conv => whnf))
      exact ret_pure ⟨_, rfl, fun h => absurd h (by decide)⟩
     ·repeat (first | (intro _; conv => whnf) | (refine br_t (by first | rfl | assumption) ?_; conv => whnf) | (refine br_f (by first | rfl | assumption) ?_; conv => whnf) | (refine IdxN.lit rfl rfl ?_; conv => whnf))
      refine CallN.pure (rwhere_spec (itemsOf (tT p q) ++ itemsOf (tU p2)) (kindsOf (tT p q) ++ kindsOf (tU p2)) p5 o5 ac3 q5 u5 cc3 6 6 rfl rfl swh _ (hat'.mono le_auto) (hwh.mono le_auto)) fun v V8 _ hV8 ⟨ew, hv⟩ => ?_
      subst hv; conv => whnf
      apply br <;> intro g5 <;> conv => whnf
      ·repeat (first | (intro _; conv => whnf) | (refine br_t (by first | rfl | assumption) ?_; conv => whnf) | (refine br_f (by first | rfl | assumption) ?_; conv => whnf) | (refine IdxN.lit rfl rfl ?_; conv => whnf))
       exact ret_pure ⟨_, rfl, fun h => absurd h (by simpa using g5)⟩
      ·repeat (first | (intro _; conv => whnf) | (refine br_t (by first | rfl | assumption) ?_; conv => whnf) | (refine br_f (by first | rfl | assumption) ?_; conv => whnf) | (refine IdxN.lit rfl rfl ?_; conv => whnf))
       apply br <;> intro g6 <;> conv => whnf
       ·repeat (first | (intro _; conv => whnf) | (refine br_t (by first | rfl | assumption) ?_; conv => whnf) | (refine br_f (by first | rfl | assumption) ?_; conv => whnf) | (refine IdxN.lit rfl rfl ?_; conv => whnf))
        refine ret_pure ⟨_, rfl, fun _ => ⟨l, none, rfl, hl4, View.cells.mono hic le_auto, .inl ⟨?_, rfl⟩, hall, hmix, fun tb nm h => by cases h⟩⟩
        rcases hor with hor | ⟨go1, gtb, gnm, hor, hgo⟩
        ·rw [hor]
        ·have hor : sord = (some ⟨go1, 0, none⟩, 1, 1) := hor
         rw [hor] at g6
         exact absurd g6 (by simp)
       ·rcases hor with hor | ⟨go1, gtb, gnm, hor, hgo⟩
        ·have hor : sord = (none, 0, 0) := hor
         rw [hor] at g6
         exact absurd g6 (by decide)
        ·have hor : sord = (some ⟨go1, 0, none⟩, 1, 1) := hor
         subst hor
         repeat (first | (intro _; conv => whnf) | (refine br_t (by first | rfl | assumption) ?_; conv => whnf) | (refine br_f (by first | rfl | assumption) ?_; conv => whnf) | (refine IdxN.lit rfl rfl ?_; conv => whnf))
         refine LoadN.of (hgo.mono le_auto) 0 rfl rfl ?_; conv => whnf
         repeat (first | (intro _; conv => whnf) | (refine br_t (by first | rfl | assumption) ?_; conv => whnf) | (refine br_f (by first | rfl | assumption) ?_; conv => whnf) | (refine IdxN.lit rfl rfl ?_; conv => whnf))
         refine CallN.pure (at_spec (itemsOf (tT p q) ++ itemsOf (tU p2)) 6 p5 ac3 o5 (colN gtb gnm) _ (hat'.hasI.mono le_auto) (by show 6 ≤ 1000000; decide) (by decide)) fun v V9 _ hV9 hv => ?_
         subst hv; conv => whnf
         repeat (first | (intro _; conv => whnf) | (refine br_t (by first | rfl | assumption) ?_; conv => whnf) | (refine br_f (by first | rfl | assumption) ?_; conv => whnf) | (refine IdxN.lit rfl rfl ?_; conv => whnf))
         exact ret_pure ⟨_, rfl, fun h => ⟨l, some (gtb, gnm), rfl, hl4, View.cells.mono hic le_auto, .inr ⟨go1, gtb, gnm, rfl, hgo.mono le_auto, rfl⟩, hall, hmix, fun tb nm h2 => by
          simp only [Option.some.injEq, Prod.mk.injEq] at h2
          obtain ⟨rfl, rfl⟩ := h2
          exact h⟩⟩
   ·have hmix : (∃ x ∈ l, x.agg ≠ 0) → ∀ x ∈ l, x.agg ≠ 0 := fun ⟨x, hx, h⟩ => by
     have := none_of_cnt hin hna (by have := of_decide_eq_false g2; exact this) x hx
     simp [isAgg, h] at this
    repeat (first | (intro _; conv => whnf) | (refine br_t (by first | rfl | assumption) ?_; conv => whnf) | (refine br_f (by first | rfl | assumption) ?_; conv => whnf) | (refine IdxN.lit rfl rfl ?_; conv => whnf))
    refine CallN.pure (rwhere_spec (itemsOf (tT p q) ++ itemsOf (tU p2)) (kindsOf (tT p q) ++ kindsOf (tU p2)) p5 o5 ac3 q5 u5 cc3 6 6 rfl rfl swh _ (hat'.mono le_auto) (hwh.mono le_auto)) fun v V8 _ hV8 ⟨ew, hv⟩ => ?_
    subst hv; conv => whnf
    apply br <;> intro g5 <;> conv => whnf
    ·repeat (first | (intro _; conv => whnf) | (refine br_t (by first | rfl | assumption) ?_; conv => whnf) | (refine br_f (by first | rfl | assumption) ?_; conv => whnf) | (refine IdxN.lit rfl rfl ?_; conv => whnf))
     exact ret_pure ⟨_, rfl, fun h => absurd h (by simpa using g5)⟩
    ·repeat (first | (intro _; conv => whnf) | (refine br_t (by first | rfl | assumption) ?_; conv => whnf) | (refine br_f (by first | rfl | assumption) ?_; conv => whnf) | (refine IdxN.lit rfl rfl ?_; conv => whnf))
     apply br <;> intro g6 <;> conv => whnf
     ·repeat (first | (intro _; conv => whnf) | (refine br_t (by first | rfl | assumption) ?_; conv => whnf) | (refine br_f (by first | rfl | assumption) ?_; conv => whnf) | (refine IdxN.lit rfl rfl ?_; conv => whnf))
      refine ret_pure ⟨_, rfl, fun _ => ⟨l, none, rfl, hl4, View.cells.mono hic le_auto, .inl ⟨?_, rfl⟩, hall, hmix, fun tb nm h => by cases h⟩⟩
      rcases hor with hor | ⟨go1, gtb, gnm, hor, hgo⟩
      ·rw [hor]
      ·have hor : sord = (some ⟨go1, 0, none⟩, 1, 1) := hor
       rw [hor] at g6
       exact absurd g6 (by simp)
     ·rcases hor with hor | ⟨go1, gtb, gnm, hor, hgo⟩
      ·have hor : sord = (none, 0, 0) := hor
       rw [hor] at g6
       exact absurd g6 (by decide)
      ·have hor : sord = (some ⟨go1, 0, none⟩, 1, 1) := hor
       subst hor
       repeat (first | (intro _; conv => whnf) | (refine br_t (by first | rfl | assumption) ?_; conv => whnf) | (refine br_f (by first | rfl | assumption) ?_; conv => whnf) | (refine IdxN.lit rfl rfl ?_; conv => whnf))
       refine LoadN.of (hgo.mono le_auto) 0 rfl rfl ?_; conv => whnf
       repeat (first | (intro _; conv => whnf) | (refine br_t (by first | rfl | assumption) ?_; conv => whnf) | (refine br_f (by first | rfl | assumption) ?_; conv => whnf) | (refine IdxN.lit rfl rfl ?_; conv => whnf))
       refine CallN.pure (at_spec (itemsOf (tT p q) ++ itemsOf (tU p2)) 6 p5 ac3 o5 (colN gtb gnm) _ (hat'.hasI.mono le_auto) (by show 6 ≤ 1000000; decide) (by decide)) fun v V9 _ hV9 hv => ?_
       subst hv; conv => whnf
       repeat (first | (intro _; conv => whnf) | (refine br_t (by first | rfl | assumption) ?_; conv => whnf) | (refine br_f (by first | rfl | assumption) ?_; conv => whnf) | (refine IdxN.lit rfl rfl ?_; conv => whnf))
       exact ret_pure ⟨_, rfl, fun h => ⟨l, some (gtb, gnm), rfl, hl4, View.cells.mono hic le_auto, .inr ⟨go1, gtb, gnm, rfl, hgo.mono le_auto, rfl⟩, hall, hmix, fun tb nm h2 => by
        simp only [Option.some.injEq, Prod.mk.injEq] at h2
        obtain ⟨rfl, rfl⟩ := h2
        exact h⟩⟩
set_option maxHeartbeats 8000000 in
theorem rselU_spec (s : StV) (r p q p2 : Nat) (V : View) (hr : V.has r 0 (tvcells (tT p q) ++ tvcells (tU p2))) (ht : TabOk V (tU p2)) (ho : TabOk V (tT p q)) (hsel : SelAt V (tU p2) (tT p q) s) :
  PSpec 47 [tv3 r, stv s, tabv (tU p2)] V (fun v V' => ∃ e, v = .int .i64 e ∧ (e = 0 → SelOk V' (if s.join = noText then itemsOf (tU p2) else itemsOf (tU p2) ++ itemsOf (tT p q)) s)) := by
 obtain ⟨skind, stb, snm, s3, s4, s5, ⟨ib, il, ic⟩, sjoin, son, swh, sord, sdesc, sinn⟩ := s
 obtain ⟨h1, h2, h3⟩ := hsel
 have h1 : skind = 6 := h1
 have h2 : stb = (tU p2).nm := h2
 subst h1
 refine does_of_zfun [(18, [(0, []), (1, []), (2, []), (3, []), (4, []), (5, []), (6, [])])] mixed (args := [.v _, .v _, .v _]) (ms := []) Tryz.func47 (by kernel_rfl) rfl ?_; conv => whnf
 repeat' ((first | refine br_t rfl ?_ | refine br_f rfl ?_ | refine IdxN.lit rfl rfl ?_ | intro _); conv => whnf)
 rename_i b3 b4 b5
 refine CallN.news (colsR_spec (tU p2) _ (ht.mono le_auto)) fun v Vc bs hVc ⟨a, ac, c, cc, hv, hA, hC, hb⟩ => ⟨[(300, .row (.slice a 3 ac) 68 3 3), (301, .row (.slice c 3 cc) 3 1 3)], by rw [hb]; rfl, by simp, fun x hx => by (simp only [List.mem_cons, List.not_mem_nil, or_false] at hx; rcases hx with rfl | rfl <;> rfl), ?_⟩
 subst hv; conv => whnf
 repeat' ((first | refine br_t rfl ?_ | refine br_f rfl ?_ | refine IdxN.lit rfl rfl ?_ | intro _); conv => whnf)
 rcases h3 with ⟨hj, hon, hp⟩ | ⟨hj, hon, hp⟩
 ·have hj : sjoin = noText := hj
  subst hj
  refine br_f (by simp [noText, ByteArray.toList_eq]) ?_; conv => whnf
  repeat' ((first | refine br_t rfl ?_ | refine br_f rfl ?_ | refine IdxN.lit rfl rfl ?_ | intro _); conv => whnf)
  obtain ⟨p5, o5, hb5, hh5⟩ := cells_some hA (by intro h; cases h)
  obtain ⟨q5, u5, hd5, hj5⟩ := cells_some hC (by intro h; cases h)
  subst hb5; subst hd5
  have hat : ColsAt Vc (itemsOf (tU p2)) (kindsOf (tU p2)) p5 o5 q5 u5 := ⟨hh5, hj5, rfl, by show 3 ≤ 20; decide⟩
  obtain ⟨l, hil, hl4, hic⟩ := hp.items
  have hil : il = l.length := hil
  subst hil
  have hic : V.cells (.slice ib l.length ic) (l.flatMap icells) := hic
  have hor := hp.order
  have hwh := hp.wh
  refine loopz (σ := Nat × Int × Int)
   (fun x => [(4, .own 4 0), (7, .v (.slice (some ⟨p5, o5, none⟩) 3 ac)), (8, .v (.slice (some ⟨q5, u5, none⟩) 3 cc)), (17, .v (.int .i64 x.2.1)), (18, .v (.int .i64 x.2.2)), (19, .v (.int .i64 x.1))])
   (fun _ => [(4, .box b4 30 [.int .i64 6, .string (stb), .string snm, .slice s3.1 s3.2.1 s3.2.2, .slice s4.1 s4.2.1 s4.2.2, .slice s5.1 s5.2.1 s5.2.2, .slice ib l.length ic, .string (noText), .slice (son : Option Addr × Nat × Nat).1 (son : Option Addr × Nat × Nat).2.1 (son : Option Addr × Nat × Nat).2.2, .slice swh.1 swh.2.1 swh.2.2, .slice sord.1 sord.2.1 sord.2.2, .bool sdesc, .slice sinn.1 sinn.2.1 sinn.2.2])])
   (fun j x V' => V.le V' ∧ ColsAt V' (itemsOf (tU p2)) (kindsOf (tU p2)) p5 o5 q5 u5 ∧ x.1 ≤ l.length ∧ l.length - x.1 = j ∧ x.2.1 = (((l.take x.1).filter isAgg).length : Nat) ∧ x.2.2 = (((l.take x.1).filter isPlain).length : Nat) ∧ ∀ y ∈ l.take x.1, ItemOk (itemsOf (tU p2)) y) l.length (0, 0, 0) ?_ ?_ ?_ ?_
  ·repeat' (first | exact sees_nil | refine sees_cons rfl rfl rfl ?_)
  ·repeat' (first | exact keeps_nil | refine keeps_cons rfl ?_ | refine keeps_free ?_)
  ·exact ⟨le_auto, (hat).mono le_auto, Nat.zero_le _, rfl, rfl, rfl, fun y hy => by simp at hy⟩
  rintro j ⟨i, na, np⟩ V' ⟨hV, hat', hi, hj, hna, hnp, hok⟩
  simp only at hi hj hna hnp hok
  conv => whnf
  apply br <;> intro g1 <;> conv => whnf
  ·have hi1 : i < l.length := by have := of_decide_eq_true g1; omega
   obtain ⟨x, hx⟩ : ∃ x, l[i]? = some x := ⟨_, List.getElem?_eq_getElem hi1⟩
   obtain ⟨pi, oi, hbi, hhi⟩ := cells_some hic (by
    obtain ⟨y, l', rfl⟩ := List.exists_cons_of_ne_nil (fun e : l = [] => by rw [e] at hi1; cases hi1)
    intro h; cases h)
   subst hbi
   have hxc := has_flat (n := 3) (fun _ => rfl) l oi hhi i x hx
   obtain ⟨xa, xt, xn⟩ := x
   repeat (first | (intro _; conv => whnf) | (refine br_t (by first | rfl | assumption) ?_; conv => whnf) | (refine br_f (by first | rfl | assumption) ?_; conv => whnf) | (refine IdxN.lit rfl rfl ?_; conv => whnf))
   refine IdxN.of (by omega) (by omega) ?_; conv => whnf
   refine LoadN.of (hxc.mono le_auto) 0 rfl rfl ?_; conv => whnf
   repeat (first | (intro _; conv => whnf) | (refine br_t (by first | rfl | assumption) ?_; conv => whnf) | (refine br_f (by first | rfl | assumption) ?_; conv => whnf) | (refine IdxN.lit rfl rfl ?_; conv => whnf))
   apply br <;> intro g2 <;> conv => whnf
   ·repeat (first | (intro _; conv => whnf) | (refine br_t (by first | rfl | assumption) ?_; conv => whnf) | (refine br_f (by first | rfl | assumption) ?_; conv => whnf) | (refine IdxN.lit rfl rfl ?_; conv => whnf))
    exact ret_pure ⟨_, rfl, fun h => absurd h (by decide)⟩
   ·repeat (first | (intro _; conv => whnf) | (refine br_t (by first | rfl | assumption) ?_; conv => whnf) | (refine br_f (by first | rfl | assumption) ?_; conv => whnf) | (refine IdxN.lit rfl rfl ?_; conv => whnf))
    apply br <;> intro g3 <;> conv => whnf
    ·repeat (first | (intro _; conv => whnf) | (refine br_t (by first | rfl | assumption) ?_; conv => whnf) | (refine br_f (by first | rfl | assumption) ?_; conv => whnf) | (refine IdxN.lit rfl rfl ?_; conv => whnf))
     exact ret_pure ⟨_, rfl, fun h => absurd h (by decide)⟩
    ·repeat (first | (intro _; conv => whnf) | (refine br_t (by first | rfl | assumption) ?_; conv => whnf) | (refine br_f (by first | rfl | assumption) ?_; conv => whnf) | (refine IdxN.lit rfl rfl ?_; conv => whnf))
     apply br <;> intro g4 <;> conv => whnf
     ·have e4 : xa = 1 := by simpa using g4
      subst e4
      repeat (first | (intro _; conv => whnf) | (refine br_t (by first | rfl | assumption) ?_; conv => whnf) | (refine br_f (by first | rfl | assumption) ?_; conv => whnf) | (refine IdxN.lit rfl rfl ?_; conv => whnf))
      apply br <;> intro g5 <;> conv => whnf
      ·repeat (first | (intro _; conv => whnf) | (refine br_t (by first | rfl | assumption) ?_; conv => whnf) | (refine br_f (by first | rfl | assumption) ?_; conv => whnf) | (refine IdxN.lit rfl rfl ?_; conv => whnf))
       exact ret_pure ⟨_, rfl, fun h => absurd h (by decide)⟩
      ·repeat (first | (intro _; conv => whnf) | (refine br_t (by first | rfl | assumption) ?_; conv => whnf) | (refine br_f (by first | rfl | assumption) ?_; conv => whnf) | (refine IdxN.lit rfl rfl ?_; conv => whnf))
       have hwi := wrap_nat (i := i) (by omega)
       refine ⟨j - 1, (i + 1, (IntKind.i64.wrap (na + 1)), np), by omega, ?_, ?_, View.le_trans hV le_auto, hat'.mono le_auto, hi1, by show _ - (i + 1) = _; omega, cnt_yes isAgg hx rfl hna hl4, cnt_no isPlain hx rfl hnp, all_snoc hx hok (.inl rfl)⟩
       ·repeat' (first | exact sees_nil | refine sees_cons rfl rfl rfl ?_ | refine sees_cons rfl rfl (by rw [← hwi]; rfl) ?_)
       ·repeat' (first | exact keeps_nil | refine keeps_cons rfl ?_ | refine keeps_free ?_)
     ·repeat (first | (intro _; conv => whnf) | (refine br_t (by first | rfl | assumption) ?_; conv => whnf) | (refine br_f (by first | rfl | assumption) ?_; conv => whnf) | (refine IdxN.lit rfl rfl ?_; conv => whnf))
      apply br <;> intro g6 <;> conv => whnf
      ·have e6 : xa = 0 := by simpa using g6
       repeat (first | (intro _; conv => whnf) | (refine br_t (by first | rfl | assumption) ?_; conv => whnf) | (refine br_f (by first | rfl | assumption) ?_; conv => whnf) | (refine IdxN.lit rfl rfl ?_; conv => whnf))
       refine CallN.pure (at_spec (itemsOf (tU p2)) 3 p5 ac o5 ⟨0, v0, xt, xn, none, 0, 0⟩ _ (hat'.hasI.mono le_auto) (by show 3 ≤ 1000000; decide) (by decide)) fun v V7 _ hV7 hv => ?_
       subst hv; conv => whnf
       apply br <;> intro g7 <;> conv => whnf
       ·repeat (first | (intro _; conv => whnf) | (refine br_t (by first | rfl | assumption) ?_; conv => whnf) | (refine br_f (by first | rfl | assumption) ?_; conv => whnf) | (refine IdxN.lit rfl rfl ?_; conv => whnf))
        exact ret_pure ⟨_, rfl, fun h => absurd h (by simpa using g7)⟩
       ·have g7' : (atA xt xn ((itemsOf (tU p2)).take 3)).2 = 0 := by simpa using g7
        obtain ⟨h0, h1⟩ := atA_range g7'
        obtain ⟨kk, hkk⟩ := Int.eq_ofNat_of_zero_le h0
        have h1 : (atA xt xn ((itemsOf (tU p2)).take 3)).1 < ((3 : Nat) : Int) := h1
        have hio : ItemOk (itemsOf (tU p2)) ⟨xa, xt, xn⟩ := .inr ⟨by have := of_decide_eq_false g2; exact Int.not_lt.1 this, by have := of_decide_eq_false g3; exact Int.not_lt.1 this, g7'⟩
        obtain ⟨kv, hkv⟩ : ∃ y, (kindsOf (tU p2))[kk]? = some y := ⟨_, List.getElem?_eq_getElem (by show kk < 3; omega)⟩
        have hone := has_one hat'.hasK (i := kk) (c := .int .i64 kv) (by rw [List.getElem?_map, hkv]; rfl)
        repeat (first | (intro _; conv => whnf) | (refine br_t (by first | rfl | assumption) ?_; conv => whnf) | (refine br_f (by first | rfl | assumption) ?_; conv => whnf) | (refine IdxN.lit rfl rfl ?_; conv => whnf))
        apply br <;> intro g8 <;> conv => whnf
        ·repeat (first | (intro _; conv => whnf) | (refine br_t (by first | rfl | assumption) ?_; conv => whnf) | (refine br_f (by first | rfl | assumption) ?_; conv => whnf) | (refine IdxN.lit rfl rfl ?_; conv => whnf))
         refine IdxN.of (by show 0 ≤ (atA xt xn ((itemsOf (tU p2)).take 3)).1; omega) (by show (atA xt xn ((itemsOf (tU p2)).take 3)).1 < ((3 : Nat) : Int); omega) ?_; conv => whnf
         repeat (first | (intro _; conv => whnf) | (refine br_t (by first | rfl | assumption) ?_; conv => whnf) | (refine br_f (by first | rfl | assumption) ?_; conv => whnf) | (refine IdxN.lit rfl rfl ?_; conv => whnf))
         refine LoadN.of (hone.mono le_auto) 0 (by show u5 + ((atA xt xn ((itemsOf (tU p2)).take 3)).1).toNat * 1 = u5 + kk + 0; rw [hkk]; omega) rfl ?_; conv => whnf
         repeat (first | (intro _; conv => whnf) | (refine br_t (by first | rfl | assumption) ?_; conv => whnf) | (refine br_f (by first | rfl | assumption) ?_; conv => whnf) | (refine IdxN.lit rfl rfl ?_; conv => whnf))
         apply br <;> intro g9 <;> conv => whnf
         ·repeat (first | (intro _; conv => whnf) | (refine br_t (by first | rfl | assumption) ?_; conv => whnf) | (refine br_f (by first | rfl | assumption) ?_; conv => whnf) | (refine IdxN.lit rfl rfl ?_; conv => whnf))
          exact ret_pure ⟨_, rfl, fun h => absurd h (by decide)⟩
         ·repeat (first | (intro _; conv => whnf) | (refine br_t (by first | rfl | assumption) ?_; conv => whnf) | (refine br_f (by first | rfl | assumption) ?_; conv => whnf) | (refine IdxN.lit rfl rfl ?_; conv => whnf))
          have hwi := wrap_nat (i := i) (by omega)
          refine ⟨j - 1, (i + 1, na, (IntKind.i64.wrap (np + 1))), by omega, ?_, ?_, View.le_trans hV le_auto, hat'.mono le_auto, hi1, by show _ - (i + 1) = _; omega, cnt_no isAgg hx (by simp [isAgg, e6]) hna, cnt_yes isPlain hx (by simp [isPlain, e6]) hnp hl4, all_snoc hx hok (hio)⟩
          ·repeat' (first | exact sees_nil | refine sees_cons rfl rfl rfl ?_ | refine sees_cons rfl rfl (by rw [← hwi]; rfl) ?_)
          ·repeat' (first | exact keeps_nil | refine keeps_cons rfl ?_ | refine keeps_free ?_)
        ·repeat (first | (intro _; conv => whnf) | (refine br_t (by first | rfl | assumption) ?_; conv => whnf) | (refine br_f (by first | rfl | assumption) ?_; conv => whnf) | (refine IdxN.lit rfl rfl ?_; conv => whnf))
         have hwi := wrap_nat (i := i) (by omega)
         refine ⟨j - 1, (i + 1, na, (IntKind.i64.wrap (np + 1))), by omega, ?_, ?_, View.le_trans hV le_auto, hat'.mono le_auto, hi1, by show _ - (i + 1) = _; omega, cnt_no isAgg hx (by simp [isAgg, e6]) hna, cnt_yes isPlain hx (by simp [isPlain, e6]) hnp hl4, all_snoc hx hok (hio)⟩
         ·repeat' (first | exact sees_nil | refine sees_cons rfl rfl rfl ?_ | refine sees_cons rfl rfl (by rw [← hwi]; rfl) ?_)
         ·repeat' (first | exact keeps_nil | refine keeps_cons rfl ?_ | refine keeps_free ?_)
      ·have e6 : xa ≠ 0 := by simpa using g6
       repeat (first | (intro _; conv => whnf) | (refine br_t (by first | rfl | assumption) ?_; conv => whnf) | (refine br_f (by first | rfl | assumption) ?_; conv => whnf) | (refine IdxN.lit rfl rfl ?_; conv => whnf))
       refine CallN.pure (at_spec (itemsOf (tU p2)) 3 p5 ac o5 ⟨0, v0, xt, xn, none, 0, 0⟩ _ (hat'.hasI.mono le_auto) (by show 3 ≤ 1000000; decide) (by decide)) fun v V7 _ hV7 hv => ?_
       subst hv; conv => whnf
       apply br <;> intro g7 <;> conv => whnf
       ·repeat (first | (intro _; conv => whnf) | (refine br_t (by first | rfl | assumption) ?_; conv => whnf) | (refine br_f (by first | rfl | assumption) ?_; conv => whnf) | (refine IdxN.lit rfl rfl ?_; conv => whnf))
        exact ret_pure ⟨_, rfl, fun h => absurd h (by simpa using g7)⟩
       ·have g7' : (atA xt xn ((itemsOf (tU p2)).take 3)).2 = 0 := by simpa using g7
        obtain ⟨h0, h1⟩ := atA_range g7'
        obtain ⟨kk, hkk⟩ := Int.eq_ofNat_of_zero_le h0
        have h1 : (atA xt xn ((itemsOf (tU p2)).take 3)).1 < ((3 : Nat) : Int) := h1
        have hio : ItemOk (itemsOf (tU p2)) ⟨xa, xt, xn⟩ := .inr ⟨by have := of_decide_eq_false g2; exact Int.not_lt.1 this, by have := of_decide_eq_false g3; exact Int.not_lt.1 this, g7'⟩
        obtain ⟨kv, hkv⟩ : ∃ y, (kindsOf (tU p2))[kk]? = some y := ⟨_, List.getElem?_eq_getElem (by show kk < 3; omega)⟩
        have hone := has_one hat'.hasK (i := kk) (c := .int .i64 kv) (by rw [List.getElem?_map, hkv]; rfl)
        repeat (first | (intro _; conv => whnf) | (refine br_t (by first | rfl | assumption) ?_; conv => whnf) | (refine br_f (by first | rfl | assumption) ?_; conv => whnf) | (refine IdxN.lit rfl rfl ?_; conv => whnf))
        apply br <;> intro g8 <;> conv => whnf
        ·repeat (first | (intro _; conv => whnf) | (refine br_t (by first | rfl | assumption) ?_; conv => whnf) | (refine br_f (by first | rfl | assumption) ?_; conv => whnf) | (refine IdxN.lit rfl rfl ?_; conv => whnf))
         refine IdxN.of (by show 0 ≤ (atA xt xn ((itemsOf (tU p2)).take 3)).1; omega) (by show (atA xt xn ((itemsOf (tU p2)).take 3)).1 < ((3 : Nat) : Int); omega) ?_; conv => whnf
         repeat (first | (intro _; conv => whnf) | (refine br_t (by first | rfl | assumption) ?_; conv => whnf) | (refine br_f (by first | rfl | assumption) ?_; conv => whnf) | (refine IdxN.lit rfl rfl ?_; conv => whnf))
         refine LoadN.of (hone.mono le_auto) 0 (by show u5 + ((atA xt xn ((itemsOf (tU p2)).take 3)).1).toNat * 1 = u5 + kk + 0; rw [hkk]; omega) rfl ?_; conv => whnf
         repeat (first | (intro _; conv => whnf) | (refine br_t (by first | rfl | assumption) ?_; conv => whnf) | (refine br_f (by first | rfl | assumption) ?_; conv => whnf) | (refine IdxN.lit rfl rfl ?_; conv => whnf))
         apply br <;> intro g9 <;> conv => whnf
         ·repeat (first | (intro _; conv => whnf) | (refine br_t (by first | rfl | assumption) ?_; conv => whnf) | (refine br_f (by first | rfl | assumption) ?_; conv => whnf) | (refine IdxN.lit rfl rfl ?_; conv => whnf))
          exact ret_pure ⟨_, rfl, fun h => absurd h (by decide)⟩
         ·repeat (first | (intro _; conv => whnf) | (refine br_t (by first | rfl | assumption) ?_; conv => whnf) | (refine br_f (by first | rfl | assumption) ?_; conv => whnf) | (refine IdxN.lit rfl rfl ?_; conv => whnf))
          have hwi := wrap_nat (i := i) (by omega)
          refine ⟨j - 1, (i + 1, (IntKind.i64.wrap (na + 1)), np), by omega, ?_, ?_, View.le_trans hV le_auto, hat'.mono le_auto, hi1, by show _ - (i + 1) = _; omega, cnt_yes isAgg hx (by simp [isAgg, e6]) hna hl4, cnt_no isPlain hx (by simp [isPlain, e6]) hnp, all_snoc hx hok (hio)⟩
          ·repeat' (first | exact sees_nil | refine sees_cons rfl rfl rfl ?_ | refine sees_cons rfl rfl (by rw [← hwi]; rfl) ?_)
          ·repeat' (first | exact keeps_nil | refine keeps_cons rfl ?_ | refine keeps_free ?_)
        ·repeat (first | (intro _; conv => whnf) | (refine br_t (by first | rfl | assumption) ?_; conv => whnf) | (refine br_f (by first | rfl | assumption) ?_; conv => whnf) | (refine IdxN.lit rfl rfl ?_; conv => whnf))
         have hwi := wrap_nat (i := i) (by omega)
         refine ⟨j - 1, (i + 1, (IntKind.i64.wrap (na + 1)), np), by omega, ?_, ?_, View.le_trans hV le_auto, hat'.mono le_auto, hi1, by show _ - (i + 1) = _; omega, cnt_yes isAgg hx (by simp [isAgg, e6]) hna hl4, cnt_no isPlain hx (by simp [isPlain, e6]) hnp, all_snoc hx hok (hio)⟩
         ·repeat' (first | exact sees_nil | refine sees_cons rfl rfl rfl ?_ | refine sees_cons rfl rfl (by rw [← hwi]; rfl) ?_)
         ·repeat' (first | exact keeps_nil | refine keeps_cons rfl ?_ | refine keeps_free ?_)
  ·have hin : l.length ≤ i := by have := of_decide_eq_false g1; omega
   have hall : ∀ y ∈ l, ItemOk (itemsOf (tU p2)) y := by rw [List.take_of_length_le hin] at hok; exact hok
   repeat (first | (intro _; conv => whnf) | (refine br_t (by first | rfl | assumption) ?_; conv => whnf) | (refine br_f (by first | rfl | assumption) ?_; conv => whnf) | (refine IdxN.lit rfl rfl ?_; conv => whnf))
   apply br <;> intro g2 <;> conv => whnf
   ·repeat (first | (intro _; conv => whnf) | (refine br_t (by first | rfl | assumption) ?_; conv => whnf) | (refine br_f (by first | rfl | assumption) ?_; conv => whnf) | (refine IdxN.lit rfl rfl ?_; conv => whnf))
    apply br <;> intro g3 <;> conv => whnf
    ·repeat (first | (intro _; conv => whnf) | (refine br_t (by first | rfl | assumption) ?_; conv => whnf) | (refine br_f (by first | rfl | assumption) ?_; conv => whnf) | (refine IdxN.lit rfl rfl ?_; conv => whnf))
     exact ret_pure ⟨_, rfl, fun h => absurd h (by decide)⟩
    ·have hmix : (∃ x ∈ l, x.agg ≠ 0) → ∀ x ∈ l, x.agg ≠ 0 := fun _ x hx h => by
      have := none_of_cnt hin hnp (by have := of_decide_eq_false g3; exact this) x hx
      simp [isPlain, h] at this
     repeat (first | (intro _; conv => whnf) | (refine br_t (by first | rfl | assumption) ?_; conv => whnf) | (refine br_f (by first | rfl | assumption) ?_; conv => whnf) | (refine IdxN.lit rfl rfl ?_; conv => whnf))
     apply br <;> intro g4 <;> conv => whnf
     ·repeat (first | (intro _; conv => whnf) | (refine br_t (by first | rfl | assumption) ?_; conv => whnf) | (refine br_f (by first | rfl | assumption) ?_; conv => whnf) | (refine IdxN.lit rfl rfl ?_; conv => whnf))
      exact ret_pure ⟨_, rfl, fun h => absurd h (by decide)⟩
     ·repeat (first | (intro _; conv => whnf) | (refine br_t (by first | rfl | assumption) ?_; conv => whnf) | (refine br_f (by first | rfl | assumption) ?_; conv => whnf) | (refine IdxN.lit rfl rfl ?_; conv => whnf))
      refine CallN.pure (rwhere_spec (itemsOf (tU p2)) (kindsOf (tU p2)) p5 o5 ac q5 u5 cc 3 3 rfl rfl swh _ (hat'.mono le_auto) (hwh.mono le_auto)) fun v V8 _ hV8 ⟨ew, hv⟩ => ?_
      subst hv; conv => whnf
      apply br <;> intro g5 <;> conv => whnf
      ·repeat (first | (intro _; conv => whnf) | (refine br_t (by first | rfl | assumption) ?_; conv => whnf) | (refine br_f (by first | rfl | assumption) ?_; conv => whnf) | (refine IdxN.lit rfl rfl ?_; conv => whnf))
       exact ret_pure ⟨_, rfl, fun h => absurd h (by simpa using g5)⟩
      ·repeat (first | (intro _; conv => whnf) | (refine br_t (by first | rfl | assumption) ?_; conv => whnf) | (refine br_f (by first | rfl | assumption) ?_; conv => whnf) | (refine IdxN.lit rfl rfl ?_; conv => whnf))
       apply br <;> intro g6 <;> conv => whnf
       ·repeat (first | (intro _; conv => whnf) | (refine br_t (by first | rfl | assumption) ?_; conv => whnf) | (refine br_f (by first | rfl | assumption) ?_; conv => whnf) | (refine IdxN.lit rfl rfl ?_; conv => whnf))
        refine ret_pure ⟨_, rfl, fun _ => ⟨l, none, rfl, hl4, View.cells.mono hic le_auto, .inl ⟨?_, rfl⟩, hall, hmix, fun tb nm h => by cases h⟩⟩
        rcases hor with hor | ⟨go1, gtb, gnm, hor, hgo⟩
        ·rw [hor]
        ·have hor : sord = (some ⟨go1, 0, none⟩, 1, 1) := hor
         rw [hor] at g6
         exact absurd g6 (by simp)
       ·rcases hor with hor | ⟨go1, gtb, gnm, hor, hgo⟩
        ·have hor : sord = (none, 0, 0) := hor
         rw [hor] at g6
         exact absurd g6 (by decide)
        ·have hor : sord = (some ⟨go1, 0, none⟩, 1, 1) := hor
         subst hor
         repeat (first | (intro _; conv => whnf) | (refine br_t (by first | rfl | assumption) ?_; conv => whnf) | (refine br_f (by first | rfl | assumption) ?_; conv => whnf) | (refine IdxN.lit rfl rfl ?_; conv => whnf))
         refine LoadN.of (hgo.mono le_auto) 0 rfl rfl ?_; conv => whnf
         repeat (first | (intro _; conv => whnf) | (refine br_t (by first | rfl | assumption) ?_; conv => whnf) | (refine br_f (by first | rfl | assumption) ?_; conv => whnf) | (refine IdxN.lit rfl rfl ?_; conv => whnf))
         refine CallN.pure (at_spec (itemsOf (tU p2)) 3 p5 ac o5 (colN gtb gnm) _ (hat'.hasI.mono le_auto) (by show 3 ≤ 1000000; decide) (by decide)) fun v V9 _ hV9 hv => ?_
         subst hv; conv => whnf
         repeat (first | (intro _; conv => whnf) | (refine br_t (by first | rfl | assumption) ?_; conv => whnf) | (refine br_f (by first | rfl | assumption) ?_; conv => whnf) | (refine IdxN.lit rfl rfl ?_; conv => whnf))
         exact ret_pure ⟨_, rfl, fun h => ⟨l, some (gtb, gnm), rfl, hl4, View.cells.mono hic le_auto, .inr ⟨go1, gtb, gnm, rfl, hgo.mono le_auto, rfl⟩, hall, hmix, fun tb nm h2 => by
          simp only [Option.some.injEq, Prod.mk.injEq] at h2
          obtain ⟨rfl, rfl⟩ := h2
          exact h⟩⟩
   ·have hmix : (∃ x ∈ l, x.agg ≠ 0) → ∀ x ∈ l, x.agg ≠ 0 := fun ⟨x, hx, h⟩ => by
     have := none_of_cnt hin hna (by have := of_decide_eq_false g2; exact this) x hx
     simp [isAgg, h] at this
    repeat (first | (intro _; conv => whnf) | (refine br_t (by first | rfl | assumption) ?_; conv => whnf) | (refine br_f (by first | rfl | assumption) ?_; conv => whnf) | (refine IdxN.lit rfl rfl ?_; conv => whnf))
    refine CallN.pure (rwhere_spec (itemsOf (tU p2)) (kindsOf (tU p2)) p5 o5 ac q5 u5 cc 3 3 rfl rfl swh _ (hat'.mono le_auto) (hwh.mono le_auto)) fun v V8 _ hV8 ⟨ew, hv⟩ => ?_
    subst hv; conv => whnf
    apply br <;> intro g5 <;> conv => whnf
    ·repeat (first | (intro _; conv => whnf) | (refine br_t (by first | rfl | assumption) ?_; conv => whnf) | (refine br_f (by first | rfl | assumption) ?_; conv => whnf) | (refine IdxN.lit rfl rfl ?_; conv => whnf))
     exact ret_pure ⟨_, rfl, fun h => absurd h (by simpa using g5)⟩
    ·repeat (first | (intro _; conv => whnf) | (refine br_t (by first | rfl | assumption) ?_; conv => whnf) | (refine br_f (by first | rfl | assumption) ?_; conv => whnf) | (refine IdxN.lit rfl rfl ?_; conv => whnf))
     apply br <;> intro g6 <;> conv => whnf
     ·repeat (first | (intro _; conv => whnf) | (refine br_t (by first | rfl | assumption) ?_; conv => whnf) | (refine br_f (by first | rfl | assumption) ?_; conv => whnf) | (refine IdxN.lit rfl rfl ?_; conv => whnf))
      refine ret_pure ⟨_, rfl, fun _ => ⟨l, none, rfl, hl4, View.cells.mono hic le_auto, .inl ⟨?_, rfl⟩, hall, hmix, fun tb nm h => by cases h⟩⟩
      rcases hor with hor | ⟨go1, gtb, gnm, hor, hgo⟩
      ·rw [hor]
      ·have hor : sord = (some ⟨go1, 0, none⟩, 1, 1) := hor
       rw [hor] at g6
       exact absurd g6 (by simp)
     ·rcases hor with hor | ⟨go1, gtb, gnm, hor, hgo⟩
      ·have hor : sord = (none, 0, 0) := hor
       rw [hor] at g6
       exact absurd g6 (by decide)
      ·have hor : sord = (some ⟨go1, 0, none⟩, 1, 1) := hor
       subst hor
       repeat (first | (intro _; conv => whnf) | (refine br_t (by first | rfl | assumption) ?_; conv => whnf) | (refine br_f (by first | rfl | assumption) ?_; conv => whnf) | (refine IdxN.lit rfl rfl ?_; conv => whnf))
       refine LoadN.of (hgo.mono le_auto) 0 rfl rfl ?_; conv => whnf
       repeat (first | (intro _; conv => whnf) | (refine br_t (by first | rfl | assumption) ?_; conv => whnf) | (refine br_f (by first | rfl | assumption) ?_; conv => whnf) | (refine IdxN.lit rfl rfl ?_; conv => whnf))
       refine CallN.pure (at_spec (itemsOf (tU p2)) 3 p5 ac o5 (colN gtb gnm) _ (hat'.hasI.mono le_auto) (by show 3 ≤ 1000000; decide) (by decide)) fun v V9 _ hV9 hv => ?_
       subst hv; conv => whnf
       repeat (first | (intro _; conv => whnf) | (refine br_t (by first | rfl | assumption) ?_; conv => whnf) | (refine br_f (by first | rfl | assumption) ?_; conv => whnf) | (refine IdxN.lit rfl rfl ?_; conv => whnf))
       exact ret_pure ⟨_, rfl, fun h => ⟨l, some (gtb, gnm), rfl, hl4, View.cells.mono hic le_auto, .inr ⟨go1, gtb, gnm, rfl, hgo.mono le_auto, rfl⟩, hall, hmix, fun tb nm h2 => by
        simp only [Option.some.injEq, Prod.mk.injEq] at h2
        obtain ⟨rfl, rfl⟩ := h2
        exact h⟩⟩
 ·have hj : sjoin = (tT p q).nm := hj
  subst hj
  subst h2
  refine br_t (by simp [txt, ByteArray.toList_eq, tT, tU]) ?_; conv => whnf
  repeat' ((first | refine br_t rfl ?_ | refine br_f rfl ?_ | refine IdxN.lit rfl rfl ?_ | intro _); conv => whnf)
  refine CallN.pure (tableT_spec r p q p2 _ (hr.mono le_auto)) fun v V1 _ hV1 hv => ?_
  subst hv; conv => whnf
  repeat' ((first | refine br_t rfl ?_ | refine br_f rfl ?_ | refine IdxN.lit rfl rfl ?_ | intro _); conv => whnf)
  refine br_f (by simp [txt, ByteArray.toList_eq, tT, tU]) ?_; conv => whnf
  refine CallN.news (colsR_spec (tT p q) _ (ho.mono le_auto)) fun v V2 bs hV2 ⟨a2, ac2, c2, cc2, hv, hA2, hC2, hb⟩ => ⟨[(302, .row (.slice a2 3 ac2) 68 3 3), (303, .row (.slice c2 3 cc2) 3 1 3)], by rw [hb]; rfl, by simp, fun x hx => by (simp only [List.mem_cons, List.not_mem_nil, or_false] at hx; rcases hx with rfl | rfl <;> rfl), ?_⟩
  subst hv; conv => whnf
  repeat' ((first | refine br_t rfl ?_ | refine br_f rfl ?_ | refine IdxN.lit rfl rfl ?_ | intro _); conv => whnf)
  refine ⟨⟨300, _, rfl, ?_⟩⟩
  refine AppN.to 6 rfl ((itemsOf (tU p2)).flatMap icells) ((itemsOf (tT p q)).flatMap icells) (hA.mono le_auto) rfl (hA2.mono le_auto) rfl (allOne_items _) (by decide) (by decide) fun a3 ac3 V3 hV3 hA3 => ?_; conv => whnf
  refine ⟨⟨301, _, rfl, ?_⟩⟩
  refine AppN.to 6 rfl ((kindsOf (tU p2)).map (.int .i64 ·)) ((kindsOf (tT p q)).map (.int .i64 ·)) (hC.mono le_auto) rfl (hC2.mono le_auto) rfl (allOne_ints _) (by decide) (by decide) fun c3 cc3 V4 hV4 hC3 => ?_; conv => whnf
  obtain ⟨p5, o5, hb5, hh5⟩ := cells_some hA3 (by intro h; cases h)
  obtain ⟨q5, u5, hd5, hj5⟩ := cells_some hC3 (by intro h; cases h)
  subst hb5; subst hd5
  have hat : ColsAt V4 (itemsOf (tU p2) ++ itemsOf (tT p q)) (kindsOf (tU p2) ++ kindsOf (tT p q)) p5 o5 q5 u5 := ⟨by rw [List.flatMap_append]; exact hh5.mono le_auto, by rw [List.map_append]; exact hj5, rfl, by show 6 ≤ 20; decide⟩
  obtain ⟨g, kd, x1, x2, tb1, tb2, hon1, hon2, _⟩ := hon
  have hon1 : son = (some ⟨g, 0, none⟩, 2, 2) := hon1
  subst hon1
  repeat' ((first | refine br_t rfl ?_ | refine br_f rfl ?_ | refine IdxN.lit rfl rfl ?_ | intro _); conv => whnf)
  refine unrollz 3 ?_; conv => whnf
  repeat' ((first | refine br_t rfl ?_ | refine br_f rfl ?_ | refine IdxN.lit rfl rfl ?_ | intro _); conv => whnf)
  refine LoadN.of (hon2.mono le_auto) 0 rfl rfl ?_; conv => whnf
  repeat' ((first | refine br_t rfl ?_ | refine br_f rfl ?_ | refine IdxN.lit rfl rfl ?_ | intro _); conv => whnf)
  refine CallN.pure (kind_spec (itemsOf (tU p2) ++ itemsOf (tT p q)) (kindsOf (tU p2) ++ kindsOf (tT p q)) p5 o5 ac3 q5 u5 cc3 6 6 rfl rfl (.col tb1 x1.nm) (colN tb1 x1.nm) _ (hat.mono le_auto) (repCol tb1 x1.nm)) fun v V5 _ hV5 ⟨k1, e1, hv⟩ => ?_
  subst hv; conv => whnf
  apply br <;> intro g1 <;> conv => whnf
  ·repeat' ((first | refine br_t rfl ?_ | refine br_f rfl ?_ | refine IdxN.lit rfl rfl ?_ | intro _); conv => whnf)
   exact ret_pure ⟨_, rfl, fun h => absurd h (by simpa using g1)⟩
  repeat' ((first | refine br_t rfl ?_ | refine br_f rfl ?_ | refine IdxN.lit rfl rfl ?_ | intro _); conv => whnf)
  rename_i lb Vl hVl lk
  refine AppN.to 1 rfl [] [.int .i64 k1] rfl rfl lk rfl rfl (by decide) (by decide) fun base' cap' V6 hV6 hc6 => ?_; conv => whnf
  repeat' ((first | refine br_t rfl ?_ | refine br_f rfl ?_ | refine IdxN.lit rfl rfl ?_ | intro _); conv => whnf)
  refine LoadN.of (hon2.mono le_auto) 7 rfl rfl ?_; conv => whnf
  repeat' ((first | refine br_t rfl ?_ | refine br_f rfl ?_ | refine IdxN.lit rfl rfl ?_ | intro _); conv => whnf)
  refine CallN.pure (kind_spec (itemsOf (tU p2) ++ itemsOf (tT p q)) (kindsOf (tU p2) ++ kindsOf (tT p q)) p5 o5 ac3 q5 u5 cc3 6 6 rfl rfl (.col tb2 x2.nm) (colN tb2 x2.nm) _ (hat.mono le_auto) (repCol tb2 x2.nm)) fun v V7 _ hV7 ⟨k2, e2, hv⟩ => ?_
  subst hv; conv => whnf
  apply br <;> intro g2 <;> conv => whnf
  ·repeat' ((first | refine br_t rfl ?_ | refine br_f rfl ?_ | refine IdxN.lit rfl rfl ?_ | intro _); conv => whnf)
   exact ret_pure ⟨_, rfl, fun h => absurd h (by simpa using g2)⟩
  repeat' ((first | refine br_t rfl ?_ | refine br_f rfl ?_ | refine IdxN.lit rfl rfl ?_ | intro _); conv => whnf)
  rename_i lb2 Vl2 hVl2 lk2
  refine AppN.to 2 rfl [.int .i64 k1] [.int .i64 k2] (hc6.mono le_auto) rfl lk2 rfl rfl (by decide) (by decide) fun base2 cap2 V9 hV9 hc9 => ?_; conv => whnf
  obtain ⟨pl, ol, hbl, hll⟩ := cells_some hc9 (by intro h; cases h)
  subst hbl
  repeat' ((first | refine br_t rfl ?_ | refine br_f rfl ?_ | refine IdxN.lit rfl rfl ?_ | intro _); conv => whnf)
  refine LoadN.of (hll.mono le_auto) 0 rfl rfl ?_; conv => whnf
  repeat' ((first | refine br_t rfl ?_ | refine br_f rfl ?_ | refine IdxN.lit rfl rfl ?_ | intro _); conv => whnf)
  refine LoadN.of (hll.mono le_auto) 1 rfl rfl ?_; conv => whnf
  repeat' ((first | refine br_t rfl ?_ | refine br_f rfl ?_ | refine IdxN.lit rfl rfl ?_ | intro _); conv => whnf)
  apply br <;> intro g3 <;> conv => whnf
  ·repeat' ((first | refine br_t rfl ?_ | refine br_f rfl ?_ | refine IdxN.lit rfl rfl ?_ | intro _); conv => whnf)
   exact ret_pure ⟨_, rfl, fun h => absurd h (by decide)⟩
  repeat' ((first | refine br_t rfl ?_ | refine br_f rfl ?_ | refine IdxN.lit rfl rfl ?_ | intro _); conv => whnf)
  clear g1 g2 g3
  obtain ⟨l, hil, hl4, hic⟩ := hp.items
  have hil : il = l.length := hil
  subst hil
  have hic : V.cells (.slice ib l.length ic) (l.flatMap icells) := hic
  have hor := hp.order
  have hwh := hp.wh
  refine loopz (σ := Nat × Int × Int)
   (fun x => [(4, .own 4 0), (7, .v (.slice (some ⟨p5, o5, none⟩) 6 ac3)), (8, .v (.slice (some ⟨q5, u5, none⟩) 6 cc3)), (17, .v (.int .i64 x.2.1)), (18, .v (.int .i64 x.2.2)), (19, .v (.int .i64 x.1))])
   (fun _ => [(4, .box b4 30 [.int .i64 6, .string ((tU p2).nm), .string snm, .slice s3.1 s3.2.1 s3.2.2, .slice s4.1 s4.2.1 s4.2.2, .slice s5.1 s5.2.1 s5.2.2, .slice ib l.length ic, .string ((tT p q).nm), .slice ((some ⟨g, 0, none⟩, 2, 2) : Option Addr × Nat × Nat).1 ((some ⟨g, 0, none⟩, 2, 2) : Option Addr × Nat × Nat).2.1 ((some ⟨g, 0, none⟩, 2, 2) : Option Addr × Nat × Nat).2.2, .slice swh.1 swh.2.1 swh.2.2, .slice sord.1 sord.2.1 sord.2.2, .bool sdesc, .slice sinn.1 sinn.2.1 sinn.2.2])])
   (fun j x V' => V.le V' ∧ ColsAt V' (itemsOf (tU p2) ++ itemsOf (tT p q)) (kindsOf (tU p2) ++ kindsOf (tT p q)) p5 o5 q5 u5 ∧ x.1 ≤ l.length ∧ l.length - x.1 = j ∧ x.2.1 = (((l.take x.1).filter isAgg).length : Nat) ∧ x.2.2 = (((l.take x.1).filter isPlain).length : Nat) ∧ ∀ y ∈ l.take x.1, ItemOk (itemsOf (tU p2) ++ itemsOf (tT p q)) y) l.length (0, 0, 0) ?_ ?_ ?_ ?_
  ·repeat' (first | exact sees_nil | refine sees_cons rfl rfl rfl ?_)
  ·repeat' (first | exact keeps_nil | refine keeps_cons rfl ?_ | refine keeps_free ?_)
  ·exact ⟨le_auto, (hat).mono le_auto, Nat.zero_le _, rfl, rfl, rfl, fun y hy => by simp at hy⟩
  rintro j ⟨i, na, np⟩ V' ⟨hV, hat', hi, hj, hna, hnp, hok⟩
  simp only at hi hj hna hnp hok
  conv => whnf
  apply br <;> intro g1 <;> conv => whnf
  ·have hi1 : i < l.length := by have := of_decide_eq_true g1; omega
   obtain ⟨x, hx⟩ : ∃ x, l[i]? = some x := ⟨_, List.getElem?_eq_getElem hi1⟩
   obtain ⟨pi, oi, hbi, hhi⟩ := cells_some hic (by
    obtain ⟨y, l', rfl⟩ := List.exists_cons_of_ne_nil (fun e : l = [] => by rw [e] at hi1; cases hi1)
    intro h; cases h)
   subst hbi
   have hxc := has_flat (n := 3) (fun _ => rfl) l oi hhi i x hx
   obtain ⟨xa, xt, xn⟩ := x
   repeat (first | (intro _; conv => whnf) | (refine br_t (by first | rfl | assumption) ?_; conv => whnf) | (refine br_f (by first | rfl | assumption) ?_; conv => whnf) | (refine IdxN.lit rfl rfl ?_; conv => whnf))
   refine IdxN.of (by omega) (by omega) ?_; conv => whnf
   refine LoadN.of (hxc.mono le_auto) 0 rfl rfl ?_; conv => whnf
   repeat (first | (intro _; conv => whnf) | (refine br_t (by first | rfl | assumption) ?_; conv => whnf) | (refine br_f (by first | rfl | assumption) ?_; conv => whnf) | (refine IdxN.lit rfl rfl ?_; conv => whnf))
   apply br <;> intro g2 <;> conv => whnf
   ·repeat (first | (intro _; conv => whnf) | (refine br_t (by first | rfl | assumption) ?_; conv => whnf) | (refine br_f (by first | rfl | assumption) ?_; conv => whnf) | (refine IdxN.lit rfl rfl ?_; conv => whnf))
    exact ret_pure ⟨_, rfl, fun h => absurd h (by decide)⟩
   ·repeat (first | (intro _; conv => whnf) | (refine br_t (by first | rfl | assumption) ?_; conv => whnf) | (refine br_f (by first | rfl | assumption) ?_; conv => whnf) | (refine IdxN.lit rfl rfl ?_; conv => whnf))
    apply br <;> intro g3 <;> conv => whnf
    ·repeat (first | (intro _; conv => whnf) | (refine br_t (by first | rfl | assumption) ?_; conv => whnf) | (refine br_f (by first | rfl | assumption) ?_; conv => whnf) | (refine IdxN.lit rfl rfl ?_; conv => whnf))
     exact ret_pure ⟨_, rfl, fun h => absurd h (by decide)⟩
    ·repeat (first | (intro _; conv => whnf) | (refine br_t (by first | rfl | assumption) ?_; conv => whnf) | (refine br_f (by first | rfl | assumption) ?_; conv => whnf) | (refine IdxN.lit rfl rfl ?_; conv => whnf))
     apply br <;> intro g4 <;> conv => whnf
     ·have e4 : xa = 1 := by simpa using g4
      subst e4
      repeat (first | (intro _; conv => whnf) | (refine br_t (by first | rfl | assumption) ?_; conv => whnf) | (refine br_f (by first | rfl | assumption) ?_; conv => whnf) | (refine IdxN.lit rfl rfl ?_; conv => whnf))
      apply br <;> intro g5 <;> conv => whnf
      ·repeat (first | (intro _; conv => whnf) | (refine br_t (by first | rfl | assumption) ?_; conv => whnf) | (refine br_f (by first | rfl | assumption) ?_; conv => whnf) | (refine IdxN.lit rfl rfl ?_; conv => whnf))
       exact ret_pure ⟨_, rfl, fun h => absurd h (by decide)⟩
      ·repeat (first | (intro _; conv => whnf) | (refine br_t (by first | rfl | assumption) ?_; conv => whnf) | (refine br_f (by first | rfl | assumption) ?_; conv => whnf) | (refine IdxN.lit rfl rfl ?_; conv => whnf))
       have hwi := wrap_nat (i := i) (by omega)
       refine ⟨j - 1, (i + 1, (IntKind.i64.wrap (na + 1)), np), by omega, ?_, ?_, View.le_trans hV le_auto, hat'.mono le_auto, hi1, by show _ - (i + 1) = _; omega, cnt_yes isAgg hx rfl hna hl4, cnt_no isPlain hx rfl hnp, all_snoc hx hok (.inl rfl)⟩
       ·repeat' (first | exact sees_nil | refine sees_cons rfl rfl rfl ?_ | refine sees_cons rfl rfl (by rw [← hwi]; rfl) ?_)
       ·repeat' (first | exact keeps_nil | refine keeps_cons rfl ?_ | refine keeps_free ?_)
     ·repeat (first | (intro _; conv => whnf) | (refine br_t (by first | rfl | assumption) ?_; conv => whnf) | (refine br_f (by first | rfl | assumption) ?_; conv => whnf) | (refine IdxN.lit rfl rfl ?_; conv => whnf))
      apply br <;> intro g6 <;> conv => whnf
      ·have e6 : xa = 0 := by simpa using g6
       repeat (first | (intro _; conv => whnf) | (refine br_t (by first | rfl | assumption) ?_; conv => whnf) | (refine br_f (by first | rfl | assumption) ?_; conv => whnf) | (refine IdxN.lit rfl rfl ?_; conv => whnf))
       refine CallN.pure (at_spec (itemsOf (tU p2) ++ itemsOf (tT p q)) 6 p5 ac3 o5 ⟨0, v0, xt, xn, none, 0, 0⟩ _ (hat'.hasI.mono le_auto) (by show 6 ≤ 1000000; decide) (by decide)) fun v V7 _ hV7 hv => ?_
       subst hv; conv => whnf
       apply br <;> intro g7 <;> conv => whnf
       ·repeat (first | (intro _; conv => whnf) | (refine br_t (by first | rfl | assumption) ?_; conv => whnf) | (refine br_f (by first | rfl | assumption) ?_; conv => whnf) | (refine IdxN.lit rfl rfl ?_; conv => whnf))
        exact ret_pure ⟨_, rfl, fun h => absurd h (by simpa using g7)⟩
       ·have g7' : (atA xt xn ((itemsOf (tU p2) ++ itemsOf (tT p q)).take 6)).2 = 0 := by simpa using g7
        obtain ⟨h0, h1⟩ := atA_range g7'
        obtain ⟨kk, hkk⟩ := Int.eq_ofNat_of_zero_le h0
        have h1 : (atA xt xn ((itemsOf (tU p2) ++ itemsOf (tT p q)).take 6)).1 < ((6 : Nat) : Int) := h1
        have hio : ItemOk (itemsOf (tU p2) ++ itemsOf (tT p q)) ⟨xa, xt, xn⟩ := .inr ⟨by have := of_decide_eq_false g2; exact Int.not_lt.1 this, by have := of_decide_eq_false g3; exact Int.not_lt.1 this, g7'⟩
        obtain ⟨kv, hkv⟩ : ∃ y, (kindsOf (tU p2) ++ kindsOf (tT p q))[kk]? = some y := ⟨_, List.getElem?_eq_getElem (by show kk < 6; omega)⟩
        have hone := has_one hat'.hasK (i := kk) (c := .int .i64 kv) (by rw [List.getElem?_map, hkv]; rfl)
        repeat (first | (intro _; conv => whnf) | (refine br_t (by first | rfl | assumption) ?_; conv => whnf) | (refine br_f (by first | rfl | assumption) ?_; conv => whnf) | (refine IdxN.lit rfl rfl ?_; conv => whnf))
        apply br <;> intro g8 <;> conv => whnf
        ·repeat (first | (intro _; conv => whnf) | (refine br_t (by first | rfl | assumption) ?_; conv => whnf) | (refine br_f (by first | rfl | assumption) ?_; conv => whnf) | (refine IdxN.lit rfl rfl ?_; conv => whnf))
         refine IdxN.of (by show 0 ≤ (atA xt xn ((itemsOf (tU p2) ++ itemsOf (tT p q)).take 6)).1; omega) (by show (atA xt xn ((itemsOf (tU p2) ++ itemsOf (tT p q)).take 6)).1 < ((6 : Nat) : Int); omega) ?_; conv => whnf
         repeat (first | (intro _; conv => whnf) | (refine br_t (by first | rfl | assumption) ?_; conv => whnf) | (refine br_f (by first | rfl | assumption) ?_; conv => whnf) | (refine IdxN.lit rfl rfl ?_; conv => whnf))
         refine LoadN.of (hone.mono le_auto) 0 (by show u5 + ((atA xt xn ((itemsOf (tU p2) ++ itemsOf (tT p q)).take 6)).1).toNat * 1 = u5 + kk + 0; rw [hkk]; omega) rfl ?_; conv => whnf
         repeat (first | (intro _; conv => whnf) | (refine br_t (by first | rfl | assumption) ?_; conv => whnf) | (refine br_f (by first | rfl | assumption) ?_; conv => whnf) | (refine IdxN.lit rfl rfl ?_; conv => whnf))
         apply br <;> intro g9 <;> conv => whnf
         ·repeat (first | (intro _; conv => whnf) | (refine br_t (by first | rfl | assumption) ?_; conv => whnf) | (refine br_f (by first | rfl | assumption) ?_; conv => whnf) | (refine IdxN.lit rfl rfl ?_; conv => whnf))
          exact ret_pure ⟨_, rfl, fun h => absurd h (by decide)⟩
         ·repeat (first | (intro _; conv => whnf) | (refine br_t (by first | rfl | assumption) ?_; conv => whnf) | (refine br_f (by first | rfl | assumption) ?_; conv => whnf) | (refine IdxN.lit rfl rfl ?_; conv => whnf))
          have hwi := wrap_nat (i := i) (by omega)
          refine ⟨j - 1, (i + 1, na, (IntKind.i64.wrap (np + 1))), by omega, ?_, ?_, View.le_trans hV le_auto, hat'.mono le_auto, hi1, by show _ - (i + 1) = _; omega, cnt_no isAgg hx (by simp [isAgg, e6]) hna, cnt_yes isPlain hx (by simp [isPlain, e6]) hnp hl4, all_snoc hx hok (hio)⟩
          ·repeat' (first | exact sees_nil | refine sees_cons rfl rfl rfl ?_ | refine sees_cons rfl rfl (by rw [← hwi]; rfl) ?_)
          ·repeat' (first | exact keeps_nil | refine keeps_cons rfl ?_ | refine keeps_free ?_)
        ·repeat (first | (intro _; conv => whnf) | (refine br_t (by first | rfl | assumption) ?_; conv => whnf) | (refine br_f (by first | rfl | assumption) ?_; conv => whnf) | (refine IdxN.lit rfl rfl ?_; conv => whnf))
         have hwi := wrap_nat (i := i) (by omega)
         refine ⟨j - 1, (i + 1, na, (IntKind.i64.wrap (np + 1))), by omega, ?_, ?_, View.le_trans hV le_auto, hat'.mono le_auto, hi1, by show _ - (i + 1) = _; omega, cnt_no isAgg hx (by simp [isAgg, e6]) hna, cnt_yes isPlain hx (by simp [isPlain, e6]) hnp hl4, all_snoc hx hok (hio)⟩
         ·repeat' (first | exact sees_nil | refine sees_cons rfl rfl rfl ?_ | refine sees_cons rfl rfl (by rw [← hwi]; rfl) ?_)
         ·repeat' (first | exact keeps_nil | refine keeps_cons rfl ?_ | refine keeps_free ?_)
      ·have e6 : xa ≠ 0 := by simpa using g6
       repeat (first | (intro _; conv => whnf) | (refine br_t (by first | rfl | assumption) ?_; conv => whnf) | (refine br_f (by first | rfl | assumption) ?_; conv => whnf) | (refine IdxN.lit rfl rfl ?_; conv => whnf))
       refine CallN.pure (at_spec (itemsOf (tU p2) ++ itemsOf (tT p q)) 6 p5 ac3 o5 ⟨0, v0, xt, xn, none, 0, 0⟩ _ (hat'.hasI.mono le_auto) (by show 6 ≤ 1000000; decide) (by decide)) fun v V7 _ hV7 hv => ?_
       subst hv; conv => whnf
       apply br <;> intro g7 <;> conv => whnf
       ·repeat (first | (intro _; conv => whnf) | (refine br_t (by first | rfl | assumption) ?_; conv => whnf) | (refine br_f (by first | rfl | assumption) ?_; conv => whnf) | (refine IdxN.lit rfl rfl ?_; conv => whnf))
        exact ret_pure ⟨_, rfl, fun h => absurd h (by simpa using g7)⟩
       ·have g7' : (atA xt xn ((itemsOf (tU p2) ++ itemsOf (tT p q)).take 6)).2 = 0 := by simpa using g7
        obtain ⟨h0, h1⟩ := atA_range g7'
        obtain ⟨kk, hkk⟩ := Int.eq_ofNat_of_zero_le h0
        have h1 : (atA xt xn ((itemsOf (tU p2) ++ itemsOf (tT p q)).take 6)).1 < ((6 : Nat) : Int) := h1
        have hio : ItemOk (itemsOf (tU p2) ++ itemsOf (tT p q)) ⟨xa, xt, xn⟩ := .inr ⟨by have := of_decide_eq_false g2; exact Int.not_lt.1 this, by have := of_decide_eq_false g3; exact Int.not_lt.1 this, g7'⟩
        obtain ⟨kv, hkv⟩ : ∃ y, (kindsOf (tU p2) ++ kindsOf (tT p q))[kk]? = some y := ⟨_, List.getElem?_eq_getElem (by show kk < 6; omega)⟩
        have hone := has_one hat'.hasK (i := kk) (c := .int .i64 kv) (by rw [List.getElem?_map, hkv]; rfl)
        repeat (first | (intro _; conv => whnf) | (refine br_t (by first | rfl | assumption) ?_; conv => whnf) | (refine br_f (by first | rfl | assumption) ?_; conv => whnf) | (refine IdxN.lit rfl rfl ?_; conv => whnf))
        apply br <;> intro g8 <;> conv => whnf
        ·repeat (first | (intro _; conv => whnf) | (refine br_t (by first | rfl | assumption) ?_; conv => whnf) | (refine br_f (by first | rfl | assumption) ?_; conv => whnf) | (refine IdxN.lit rfl rfl ?_; conv => whnf))
         refine IdxN.of (by show 0 ≤ (atA xt xn ((itemsOf (tU p2) ++ itemsOf (tT p q)).take 6)).1; omega) (by show (atA xt xn ((itemsOf (tU p2) ++ itemsOf (tT p q)).take 6)).1 < ((6 : Nat) : Int); omega) ?_; conv => whnf
         repeat (first | (intro _; conv => whnf) | (refine br_t (by first | rfl | assumption) ?_; conv => whnf) | (refine br_f (by first | rfl | assumption) ?_; conv => whnf) | (refine IdxN.lit rfl rfl ?_; conv => whnf))
         refine LoadN.of (hone.mono le_auto) 0 (by show u5 + ((atA xt xn ((itemsOf (tU p2) ++ itemsOf (tT p q)).take 6)).1).toNat * 1 = u5 + kk + 0; rw [hkk]; omega) rfl ?_; conv => whnf
         repeat (first | (intro _; conv => whnf) | (refine br_t (by first | rfl | assumption) ?_; conv => whnf) | (refine br_f (by first | rfl | assumption) ?_; conv => whnf) | (refine IdxN.lit rfl rfl ?_; conv => whnf))
         apply br <;> intro g9 <;> conv => whnf
         ·repeat (first | (intro _; conv => whnf) | (refine br_t (by first | rfl | assumption) ?_; conv => whnf) | (refine br_f (by first | rfl | assumption) ?_; conv => whnf) | (refine IdxN.lit rfl rfl ?_; conv => whnf))
          exact ret_pure ⟨_, rfl, fun h => absurd h (by decide)⟩
         ·repeat (first | (intro _; conv => whnf) | (refine br_t (by first | rfl | assumption) ?_; conv => whnf) | (refine br_f (by first | rfl | assumption) ?_; conv => whnf) | (refine IdxN.lit rfl rfl ?_; conv => whnf))
          have hwi := wrap_nat (i := i) (by omega)
          refine ⟨j - 1, (i + 1, (IntKind.i64.wrap (na + 1)), np), by omega, ?_, ?_, View.le_trans hV le_auto, hat'.mono le_auto, hi1, by show _ - (i + 1) = _; omega, cnt_yes isAgg hx (by simp [isAgg, e6]) hna hl4, cnt_no isPlain hx (by simp [isPlain, e6]) hnp, all_snoc hx hok (hio)⟩
          ·repeat' (first | exact sees_nil | refine sees_cons rfl rfl rfl ?_ | refine sees_cons rfl rfl (by rw [← hwi]; rfl) ?_)
          ·repeat' (first | exact keeps_nil | refine keeps_cons rfl ?_ | refine keeps_free ?_)
        ·repeat (first | (intro _; conv => whnf) | (refine br_t (by first | rfl | assumption) ?_; conv => whnf) | (refine br_f (by first | rfl | assumption) ?_; conv => whnf) | (refine IdxN.lit rfl rfl ?_; conv => whnf))
         have hwi := wrap_nat (i := i) (by omega)
         refine ⟨j - 1, (i + 1, (IntKind.i64.wrap (na + 1)), np), by omega, ?_, ?_, View.le_trans hV le_auto, hat'.mono le_auto, hi1, by show _ - (i + 1) = _; omega, cnt_yes isAgg hx (by simp [isAgg, e6]) hna hl4, cnt_no isPlain hx (by simp [isPlain, e6]) hnp, all_snoc hx hok (hio)⟩
         ·repeat' (first | exact sees_nil | refine sees_cons rfl rfl rfl ?_ | refine sees_cons rfl rfl (by rw [← hwi]; rfl) ?_)
         ·repeat' (first | exact keeps_nil | refine keeps_cons rfl ?_ | refine keeps_free ?_)
  ·have hin : l.length ≤ i := by have := of_decide_eq_false g1; omega
   have hall : ∀ y ∈ l, ItemOk (itemsOf (tU p2) ++ itemsOf (tT p q)) y := by rw [List.take_of_length_le hin] at hok; exact hok
   repeat (first | (intro _; conv => whnf) | (refine br_t (by first | rfl | assumption) ?_; conv => whnf) | (refine br_f (by first | rfl | assumption) ?_; conv => whnf) | (refine IdxN.lit rfl rfl ?_; conv => whnf))
   apply br <;> intro g2 <;> conv => whnf
   ·repeat (first | (intro _; conv => whnf) | (refine br_t (by first | rfl | assumption) ?_; conv => whnf) | (refine br_f (by first | rfl | assumption) ?_; conv => whnf) | (refine IdxN.lit rfl rfl ?_; conv => whnf))
    apply br <;> intro g3 <;> conv => whnf
    ·repeat (first | (intro _; conv => whnf) | (refine br_t (by first | rfl | assumption) ?_; conv => whnf) | (refine br_f (by first | rfl | assumption) ?_; conv => whnf) | (refine IdxN.lit rfl rfl ?_; conv => whnf))
     exact ret_pure ⟨_, rfl, fun h => absurd h (by decide)⟩
    ·have hmix : (∃ x ∈ l, x.agg ≠ 0) → ∀ x ∈ l, x.agg ≠ 0 := fun _ x hx h => by
      have := none_of_cnt hin hnp (by have := of_decide_eq_false g3; exact this) x hx
      simp [isPlain, h] at this
     repeat (first | (intro _; conv => whnf) | (refine br_t (by first | rfl | assumption) ?_; conv => whnf) | (refine br_f (by first | rfl | assumption) ?_; conv => whnf) | (refine IdxN.lit rfl rfl ?_; conv => whnf))
     apply br <;> intro g4 <;> conv => whnf
     ·repeat (first | (intro _; conv => whnf) | (refine br_t (by first | rfl | assumption) ?_; conv => whnf) | (refine br_f (by first | rfl | assumption) ?_; conv => whnf) | (refine IdxN.lit rfl rfl ?_; conv => whnf))
      exact ret_pure ⟨_, rfl, fun h => absurd h (by decide)⟩
     ·repeat (first | (intro _; conv => whnf) | (refine br_t (by first | rfl | assumption) ?_; conv => whnf) | (refine br_f (by first | rfl | assumption) ?_; conv => whnf) | (refine IdxN.lit rfl rfl ?_; conv => whnf))
      refine CallN.pure (rwhere_spec (itemsOf (tU p2) ++ itemsOf (tT p q)) (kindsOf (tU p2) ++ kindsOf (tT p q)) p5 o5 ac3 q5 u5 cc3 6 6 rfl rfl swh _ (hat'.mono le_auto) (hwh.mono le_auto)) fun v V8 _ hV8 ⟨ew, hv⟩ => ?_
      subst hv; conv => whnf
      apply br <;> intro g5 <;> conv => whnf
      ·repeat (first | (intro _; conv => whnf) | (refine br_t (by first | rfl | assumption) ?_; conv => whnf) | (refine br_f (by first | rfl | assumption) ?_; conv => whnf) | (refine IdxN.lit rfl rfl ?_; conv => whnf))
       exact ret_pure ⟨_, rfl, fun h => absurd h (by simpa using g5)⟩
      ·repeat (first | (intro _; conv => whnf) | (refine br_t (by first | rfl | assumption) ?_; conv => whnf) | (refine br_f (by first | rfl | assumption) ?_; conv => whnf) | (refine IdxN.lit rfl rfl ?_; conv => whnf))
       apply br <;> intro g6 <;> conv => whnf
       ·repeat (first | (intro _; conv => whnf) | (refine br_t (by first | rfl | assumption) ?_; conv => whnf) | (refine br_f (by first | rfl | assumption) ?_; conv => whnf) | (refine IdxN.lit rfl rfl ?_; conv => whnf))
        refine ret_pure ⟨_, rfl, fun _ => ⟨l, none, rfl, hl4, View.cells.mono hic le_auto, .inl ⟨?_, rfl⟩, hall, hmix, fun tb nm h => by cases h⟩⟩
        rcases hor with hor | ⟨go1, gtb, gnm, hor, hgo⟩
        ·rw [hor]
        ·have hor : sord = (some ⟨go1, 0, none⟩, 1, 1) := hor
         rw [hor] at g6
         exact absurd g6 (by simp)
       ·rcases hor with hor | ⟨go1, gtb, gnm, hor, hgo⟩
        ·have hor : sord = (none, 0, 0) := hor
         rw [hor] at g6
         exact absurd g6 (by decide)
        ·have hor : sord = (some ⟨go1, 0, none⟩, 1, 1) := hor
         subst hor
         repeat (first | (intro _; conv => whnf) | (refine br_t (by first | rfl | assumption) ?_; conv => whnf) | (refine br_f (by first | rfl | assumption) ?_; conv => whnf) | (refine IdxN.lit rfl rfl ?_; conv => whnf))
         refine LoadN.of (hgo.mono le_auto) 0 rfl rfl ?_; conv => whnf
         repeat (first | (intro _; conv => whnf) | (refine br_t (by first | rfl | assumption) ?_; conv => whnf) | (refine br_f (by first | rfl | assumption) ?_; conv => whnf) | (refine IdxN.lit rfl rfl ?_; conv => whnf))
         refine CallN.pure (at_spec (itemsOf (tU p2) ++ itemsOf (tT p q)) 6 p5 ac3 o5 (colN gtb gnm) _ (hat'.hasI.mono le_auto) (by show 6 ≤ 1000000; decide) (by decide)) fun v V9 _ hV9 hv => ?_
         subst hv; conv => whnf
         repeat (first | (intro _; conv => whnf) | (refine br_t (by first | rfl | assumption) ?_; conv => whnf) | (refine br_f (by first | rfl | assumption) ?_; conv => whnf) | (refine IdxN.lit rfl rfl ?_; conv => whnf))
         exact ret_pure ⟨_, rfl, fun h => ⟨l, some (gtb, gnm), rfl, hl4, View.cells.mono hic le_auto, .inr ⟨go1, gtb, gnm, rfl, hgo.mono le_auto, rfl⟩, hall, hmix, fun tb nm h2 => by
          simp only [Option.some.injEq, Prod.mk.injEq] at h2
          obtain ⟨rfl, rfl⟩ := h2
          exact h⟩⟩
   ·have hmix : (∃ x ∈ l, x.agg ≠ 0) → ∀ x ∈ l, x.agg ≠ 0 := fun ⟨x, hx, h⟩ => by
     have := none_of_cnt hin hna (by have := of_decide_eq_false g2; exact this) x hx
     simp [isAgg, h] at this
    repeat (first | (intro _; conv => whnf) | (refine br_t (by first | rfl | assumption) ?_; conv => whnf) | (refine br_f (by first | rfl | assumption) ?_; conv => whnf) | (refine IdxN.lit rfl rfl ?_; conv => whnf))
    refine CallN.pure (rwhere_spec (itemsOf (tU p2) ++ itemsOf (tT p q)) (kindsOf (tU p2) ++ kindsOf (tT p q)) p5 o5 ac3 q5 u5 cc3 6 6 rfl rfl swh _ (hat'.mono le_auto) (hwh.mono le_auto)) fun v V8 _ hV8 ⟨ew, hv⟩ => ?_
    subst hv; conv => whnf
    apply br <;> intro g5 <;> conv => whnf
    ·repeat (first | (intro _; conv => whnf) | (refine br_t (by first | rfl | assumption) ?_; conv => whnf) | (refine br_f (by first | rfl | assumption) ?_; conv => whnf) | (refine IdxN.lit rfl rfl ?_; conv => whnf))
     exact ret_pure ⟨_, rfl, fun h => absurd h (by simpa using g5)⟩
    ·repeat (first | (intro _; conv => whnf) | (refine br_t (by first | rfl | assumption) ?_; conv => whnf) | (refine br_f (by first | rfl | assumption) ?_; conv => whnf) | (refine IdxN.lit rfl rfl ?_; conv => whnf))
     apply br <;> intro g6 <;> conv => whnf
     ·repeat (first | (intro _; conv => whnf) | (refine br_t (by first | rfl | assumption) ?_; conv => whnf) | (refine br_f (by first | rfl | assumption) ?_; conv => whnf) | (refine IdxN.lit rfl rfl ?_; conv => whnf))
      refine ret_pure ⟨_, rfl, fun _ => ⟨l, none, rfl, hl4, View.cells.mono hic le_auto, .inl ⟨?_, rfl⟩, hall, hmix, fun tb nm h => by cases h⟩⟩
      rcases hor with hor | ⟨go1, gtb, gnm, hor, hgo⟩
      ·rw [hor]
      ·have hor : sord = (some ⟨go1, 0, none⟩, 1, 1) := hor
       rw [hor] at g6
       exact absurd g6 (by simp)
     ·rcases hor with hor | ⟨go1, gtb, gnm, hor, hgo⟩
      ·have hor : sord = (none, 0, 0) := hor
       rw [hor] at g6
       exact absurd g6 (by decide)
      ·have hor : sord = (some ⟨go1, 0, none⟩, 1, 1) := hor
       subst hor
       repeat (first | (intro _; conv => whnf) | (refine br_t (by first | rfl | assumption) ?_; conv => whnf) | (refine br_f (by first | rfl | assumption) ?_; conv => whnf) | (refine IdxN.lit rfl rfl ?_; conv => whnf))
       refine LoadN.of (hgo.mono le_auto) 0 rfl rfl ?_; conv => whnf
       repeat (first | (intro _; conv => whnf) | (refine br_t (by first | rfl | assumption) ?_; conv => whnf) | (refine br_f (by first | rfl | assumption) ?_; conv => whnf) | (refine IdxN.lit rfl rfl ?_; conv => whnf))
       refine CallN.pure (at_spec (itemsOf (tU p2) ++ itemsOf (tT p q)) 6 p5 ac3 o5 (colN gtb gnm) _ (hat'.hasI.mono le_auto) (by show 6 ≤ 1000000; decide) (by decide)) fun v V9 _ hV9 hv => ?_
       subst hv; conv => whnf
       repeat (first | (intro _; conv => whnf) | (refine br_t (by first | rfl | assumption) ?_; conv => whnf) | (refine br_f (by first | rfl | assumption) ?_; conv => whnf) | (refine IdxN.lit rfl rfl ?_; conv => whnf))
       exact ret_pure ⟨_, rfl, fun h => ⟨l, some (gtb, gnm), rfl, hl4, View.cells.mono hic le_auto, .inr ⟨go1, gtb, gnm, rfl, hgo.mono le_auto, rfl⟩, hall, hmix, fun tb nm h2 => by
        simp only [Option.some.injEq, Prod.mk.injEq] at h2
        obtain ⟨rfl, rfl⟩ := h2
        exact h⟩⟩
end Go.Proofs.YtenpginanhnkbaaGreat
end
