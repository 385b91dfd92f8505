/- One part of a proof: an evaluator of the model, shown right, and contracts that it yields. No condition beyond those that each theorem names. -/
import Derived.Test.YtepojdlgfmmjgaaGreatLP
import Derived.Test.YtepojdlgfmmjgaaGreatZI
import Derived.Test.YtepojdlgfmmjgaaGreatZTA
import Derived.Test.YtepojdlgfmmjgaaGreatJE
set_option linter.unusedSimpArgs false
set_option linter.unusedVariables false
set_option linter.unusedSectionVars false
set_option linter.deprecated false
section
namespace Go.Z
open Go.X Go.RowKit Go.Proofs Go.Proofs.LB
def tagN (l : List Int) (i : Nat) : Nat := (l.getD i 0).toNat
theorem tagN_eq {l : List Int} (h : ∀ x ∈ l, 0 ≤ x ∧ x < 65536) {i : Nat} {x : Int} (hx : l[i]? = some x) : (tagN l i : Int) = x := by
 have := (h x (List.mem_of_getElem? hx)).1
 unfold tagN
 rw [List.getD_eq_getElem?_getD, hx]
 simp
 omega
theorem tagN_lt {l : List Int} (h : ∀ x ∈ l, 0 ≤ x ∧ x < 65536) (i : Nat) : tagN l i < 65536 := by
 cases hx : l[i]? with
 | none => unfold tagN; rw [List.getD_eq_getElem?_getD, hx]; simp
 | some x =>
  have h1 := tagN_eq h hx
  have := (h x (List.mem_of_getElem? hx)).2
  omega
theorem rising_at {l : List Int} (h : Rising l) : ∀ (d i : Nat) (x y : Int), l[i]? = some x → l[i + d + 1]? = some y → x < y
 | 0, i, x, y, hx, hy => h i x y hx hy
 | d + 1, i, x, y, hx, hy => by
  have hlt : i + d + 1 < l.length := by have := (List.getElem?_eq_some_iff.1 hy).1; omega
  have h1 := rising_at h d i x _ hx (List.getElem?_eq_getElem hlt)
  have h2 := h (i + d + 1) _ y (List.getElem?_eq_getElem hlt) hy
  omega
theorem tagN_rise {l : List Int} (hr : Rising l) (hn : ∀ x ∈ l, 0 ≤ x ∧ x < 65536) {i j : Nat} (hij : i < j) (hj : j < l.length) : tagN l i < tagN l j := by
 have h1 := List.getElem?_eq_getElem (show i < l.length by omega)
 have h2 := List.getElem?_eq_getElem hj
 have e1 := tagN_eq hn h1
 have e2 := tagN_eq hn h2
 obtain ⟨d, rfl⟩ : ∃ d, j = i + d + 1 := ⟨j - i - 1, by omega⟩
 have := rising_at hr d i _ _ h1 h2
 omega
def Tgh (up : List Int) (G : Nat → List Int) (i : Nat) : Nat :=
 if i < 16384 then (if i / 16 = 16 + up.length then tagN up (i % 16) else i % 16) else if i % 256 = 0 then tagN (G (i / 16384 - 1)) (i % 16384 / 256 - 1) else i % 16
def Kgh (G : Nat → List Int) (i : Nat) : Int := if i < 16384 then ((i % 16 : Nat) : Int) else if i % 16384 = 0 then ((G (i / 16384 - 1)).length : Nat) else ((i % 16 : Nat) : Int)
def sigG (up : List Int) (G : Nat → List Int) (i j : Nat) : Value := sval (Tgh up G i) (Kgh G i) j
structure GhL (l : List Int) : Prop where
 num : ∀ x ∈ l, 0 ≤ x ∧ x < 65536
 len : l.length ≤ 40
theorem sigG_ok {up : List Int} {G : Nat → List Int} (hr : Rising up) (hn : ∀ x ∈ up, 0 ≤ x ∧ x < 65536) (h8 : up.length ≤ 8) (hG : ∀ g, GhL (G g)) : SigOk (sigG up G) := ⟨Tgh up G, Kgh G, fun i => by
  unfold Tgh
  split
  ·split
   ·exact tagN_lt hn _
   ·omega
  ·split
   ·exact tagN_lt (hG _).num _
   ·omega, fun i => by
  unfold Kgh
  split
  ·omega
  ·split
   ·have := (hG (i / 16384 - 1)).len
    omega
   ·omega, fun _ _ => rfl, fun i k h1 h2 h3 => by
  have hik : i < 16384 ↔ k < 16384 := by omega
  constructor
  ·unfold Tgh
   by_cases c : i < 16384
   ·rw [if_pos c, if_pos (hik.1 c), ← h1]
    split
    ·exact tagN_rise hr hn h2 (by omega)
    ·exact h2
   ·rw [if_neg c, if_neg (fun e => c (hik.2 e)), if_neg (by omega), if_neg (by omega)]
    exact h2
  ·unfold Kgh
   by_cases c : i < 16384
   ·rw [if_pos c, if_pos (hik.1 c)]; omega
   ·rw [if_neg c, if_neg (fun e => c (hik.2 e)), if_neg (by omega), if_neg (by omega)]
    omega, fun i h h2 => by
  have hm : mate i < 16384 := by unfold mate; split <;> omega
  have e1 : Kgh G i = ((i % 16 : Nat) : Int) := by unfold Kgh; rw [if_pos (by omega)]
  have e2 : Kgh G (mate i) = ((mate i % 16 : Nat) : Int) := by unfold Kgh; rw [if_pos hm]
  rw [e1, e2]
  unfold mate xor1
  split <;> split <;> omega, fun g => by
  have := (hG g).len
  unfold Kgh gbase
  rw [if_neg (by omega), if_pos (by omega), show 16384 * (g + 1) / 16384 - 1 = g by omega]
  omega⟩
theorem glen_eq {up : List Int} {G : Nat → List Int} (g : Nat) : glen (sigG up G) g = (G g).length := by
 have e : sigG up G (gbase g) 4 = .int .i64 ((G g).length : Nat) := by
  show sval _ (Kgh G (gbase g)) 4 = _
  unfold Kgh gbase
  rw [if_neg (by omega), if_pos (by omega), show 16384 * (g + 1) / 16384 - 1 = g by omega]
  rfl
 rw [glen, e]
 simp
theorem gtags_eq {up : List Int} {G : Nat → List Int} (hG : ∀ g, GhL (G g)) (g : Nat) : gtags (sigG up G) g = G g := by
 apply List.ext_getElem?
 intro p
 unfold gtags
 rw [List.getElem?_map, glen_eq]
 by_cases hp : p < (G g).length
 ·have h40 := (hG g).len
  rw [List.getElem?_range hp, List.getElem?_eq_getElem hp]
  simp only [Option.map_some, Option.some.injEq]
  have e : sigG up G (gbase g + 256 * (p + 1)) 0 = .int .u16 (tagN (G g) p : Nat) := by
   show sval (Tgh up G _) _ 0 = _
   unfold Tgh gbase
   rw [if_neg (by omega), if_pos (by omega), show (16384 * (g + 1) + 256 * (p + 1)) / 16384 - 1 = g by omega, show (16384 * (g + 1) + 256 * (p + 1)) % 16384 / 256 - 1 = p by omega]
   rfl
  rw [gtag, e]
  exact tagN_eq (hG g).num (List.getElem?_eq_getElem hp)
 ·rw [List.getElem?_eq_none (by simpa using hp), List.getElem?_eq_none (by omega)]
  rfl
end Go.Z
end

section
namespace Go.Z
open Go.X Go.RowKit Go.Proofs Go.Proofs.LB
set_option maxRecDepth 100000
noncomputable section
def gho (h : Heap) (v : Value) : Option Nat := match v with
 | .func (.yield 1) ⟨[.int .i64 (.ofNat n), .int .i64 (.ofNat g)]⟩ _ => (match h.get (n + 1) with
  | some (.lab _ g') => (match Nat.beq g' g with | true => some g | false => none)
  | _ => none)
 | _ => none
def newG (h : Heap) (nx g : Nat) : Heap := (h.ins (nx + 1) (some (.lab false g))).ins nx (some .dead)
section
variable {σ : Nat → Nat → Value} [SigOk σ] {w0 : World} {h : Heap} {ρ : Ren} {w : World}
theorem glen_le (g : Nat) : glen σ g ≤ 40 := by
 obtain ⟨T, K, hT, hK, hs, hord, hmate, hgh⟩ := SigOk.ex (σ := σ)
 have hk := hgh g
 have e : σ (gbase g) 4 = .int .i64 (K (gbase g)) := hs _ _
 have e2 : glen σ g = (K (gbase g)).toNat := by rw [glen, e]
 omega
theorem ghost_of (k : WI σ w0 h ρ w) {v y : Value} {g : Nat} (hr : Rep σ ρ v y) (hg : gho h v = some g) : ∃ a : Lab, y = a.slice ∧ a.l = gtags σ g ∧ a.at (viewOf w) ∧ a.l.length ≤ 40 := by
 unfold gho at hg
 split at hg
 case h_2 => cases hg
 rename_i n g0 a0
 split at hg
 case h_2 => cases hg
 rename_i q g' ho
 split at hg
 case h_2 => cases hg
 rename_i hgg
 have hgg := Nat.eq_of_beq_eq_true hgg
 cases hg
 subst hgg
 obtain ⟨base, c, rfl, hat⟩ := hr.gs_inv
 refine ⟨⟨base, c, gtags σ g'⟩, by rw [Lab.slice, gtags_len], rfl, ?_, by show (gtags σ g').length ≤ 40; rw [gtags_len]; exact glen_le g'⟩
 rcases hat with h0 | ⟨b, off, rfl, h1, h2⟩
 ·have : gtags σ g' = [] := List.eq_nil_of_length_eq_zero (by rw [gtags_len]; exact h0)
  rw [this]; exact lab_nil _ _ _
 ·obtain ⟨cs, t, fr, hx, hc, hn⟩ := k.rel _ b off _ h2 ho
  refine ⟨fun _ => ⟨b, off, rfl, fun i u hu => ?_⟩, hn⟩
  rw [List.getElem?_map] at hu
  cases hi : (gtags σ g')[i]? with
  | none => rw [hi] at hu; cases hu
  | some x =>
   rw [hi] at hu; cases hu
   have := hc i x hi
   show w.cell? ⟨b, off + i, none⟩ = _
   simp [World.cell?, hx, this]
theorem WI.deadName (k : WI σ w0 h ρ w) {nx b c : Nat} (hn : ρ nx = none) (hb : b < w.heap.size) : WI σ w0 (h.ins nx (some .dead)) (ρ.add nx b c) w := by
 have hold : ∀ m, m ≠ nx → ∀ x, (ρ.add nx b c) m = some x → ρ m = some x := fun m hm x hx => by simpa [Ren.add, hm] using hx
 have hget : ∀ m y, m ≠ nx → (h.ins nx (some .dead)).get m = some y → h.get m = some y := fun m y hm hy => by
  rcases Heap.ins_get hy with ⟨e, _⟩ | ⟨_, e⟩
  ·exact absurd e hm
  ·exact e
 have hdead : ∀ y, (h.ins nx (some .dead)).get nx = some y → y = .dead := fun y hy => by
  rcases Heap.ins_get hy with ⟨_, e⟩ | ⟨e, _⟩
  ·exact e
  ·exact absurd rfl e
 have hnl : ∀ m, Live (h.ins nx (some .dead)) m → m ≠ nx ∧ Live h m := fun m ⟨y, hy, hl⟩ => by
  by_cases e : m = nx
  ·subst e; rw [hdead y hy] at hl; cases hl
  ·exact ⟨e, y, hget m y e hy, hl⟩
 refine ⟨fun m b' d y hm hy => ?_, fun m b' d hm => ?_, fun m m' b' d d' hm hm' l1 l2 => ?_, fun m b' d hm l => ?_, fun m b' d y hm hy hd => ?_, k.kept⟩
 ·by_cases e : m = nx
  ·subst e; rw [hdead y hy]; trivial
  ·exact (k.rel m b' d y (hold m e _ hm) (hget m y e hy)).mono (Ren.add_le hn)
 ·by_cases e : m = nx
  ·subst e
   rw [Ren.add_same, Option.some.injEq, Prod.mk.injEq] at hm
   omega
  ·exact k.lt m b' d (hold m e _ hm)
 ·obtain ⟨e1, k1⟩ := hnl m l1
  obtain ⟨e2, k2⟩ := hnl m' l2
  exact k.inj m m' b' d d' (hold m e1 _ hm) (hold m' e2 _ hm') k1 k2
 ·obtain ⟨e1, k1⟩ := hnl m l
  exact k.own m b' d (hold m e1 _ hm) k1
 ·by_cases e : m = nx
  ·subst e; rw [hdead y hy] at hd; cases hd
  ·exact k.old m b' d y (hold m e _ hm) (hget m y e hy) hd
theorem fresh_none {nx m : Nat} (hfr : Fresh ρ nx) (hm : nx ≤ m) : ρ m = none := by
 cases hx : ρ m with
 | none => rfl
 | some p => exact absurd (hfr m p hx) (by omega)
theorem ghost_out (k : WI σ w0 h ρ w) {nx g : Nat} (hfr : Fresh ρ nx) {r : Lab} {W : World} (ho : Owned w W r) (hr : r.l = gtags σ g) :
  ∃ ρ', ρ.le ρ' ∧ New ρ ρ' nx ∧ Fresh ρ' (nx + 2) ∧ Rep σ ρ' (gval nx g) r.slice ∧ WI σ w0 (newG h nx g) ρ' W := by
 obtain ⟨base, cap, l⟩ := r
 have hr : l = gtags σ g := hr
 have hlen : l.length = glen σ g := by rw [hr, gtags_len]
 have hn := fresh_none hfr (Nat.le_refl nx)
 have hn1 := fresh_none hfr (Nat.le_succ nx)
 by_cases h0 : l = []
 ·refine ⟨ρ, Ren.le_refl _, New.refl _ _, fun m x hm => Nat.lt_succ_of_lt (Nat.lt_succ_of_lt (hfr m x hm)), ?_, (k.below ho.below).weaken' fun m x o hm hg => ?_⟩
  ·have e : Lab.slice ⟨base, cap, l⟩ = .slice base (glen σ g) cap := by rw [← hlen]; rfl
   rw [e]
   exact .gs (.inl (by rw [← hlen, h0]; rfl))
  ·have hm2 := hfr m x hm
   left
   rcases Heap.ins_get hg with ⟨e, _⟩ | ⟨_, e⟩
   ·omega
   ·rcases Heap.ins_get e with ⟨e, _⟩ | ⟨_, e⟩
    ·omega
    ·exact e
 ·obtain ⟨b, cap', cur, hb, hc, hbn, hg, hle, hcm, hsz, ht⟩ := ho.cells h0
  have hb : base = some ⟨b, 0, none⟩ := hb
  have hc : cap = cap' := hc
  subst hb; subst hc
  have ht : cur.toList.take l.length = u16s l := ht
  have k1 := WI.row k ho.below hn1 (g := b) (c := 0) hbn hg (o := .lab false g) rfl ⟨cur, 68, (0, 0), rfl, fun i u hu => by
   rw [← hr] at hu
   have hlt := (List.getElem?_eq_some_iff.1 hu).1
   have : (cur.toList.take l.length)[i]? = some (.int .u16 u) := by rw [ht, List.getElem?_map, hu]; rfl
   rw [List.getElem?_take, if_pos hlt, Array.getElem?_toList] at this
   rw [Nat.zero_add]; exact this, by rw [← hr]; exact ho.num⟩
  have hblt : b < W.heap.size := (Array.getElem?_eq_some_iff.1 hg).1
  have hn' : (ρ.add (nx + 1) b 0) nx = none := by
   unfold Ren.add
   rw [if_neg (by omega)]; exact hn
  have k2 := k1.deadName (nx := nx) (b := b) (c := cap) hn' hblt
  have hle1 : ρ.le (ρ.add (nx + 1) b 0) := Ren.add_le hn1
  have hle2 : (ρ.add (nx + 1) b 0).le ((ρ.add (nx + 1) b 0).add nx b cap) := Ren.add_le hn'
  have hin : ∀ m x, ((ρ.add (nx + 1) b 0).add nx b cap) m = some x → m = nx ∨ m = nx + 1 ∨ ρ m = some x := fun m x hm => by
   unfold Ren.add at hm
   split at hm
   ·exact .inl (by assumption)
   ·split at hm
    ·exact .inr (.inl (by assumption))
    ·exact .inr (.inr hm)
  refine ⟨_, Ren.le_trans hle1 hle2, ?_, fun m x hm => ?_, ?_, k2⟩
  ·intro m x hm
   rcases hin m x hm with e | e | e
   ·exact .inr (by omega)
   ·exact .inr (by omega)
   ·exact .inl e
  ·rcases hin m x hm with e | e | e
   ·omega
   ·omega
   ·have := hfr m x e; omega
  ·have e : Lab.slice ⟨some ⟨b, 0, none⟩, cap, l⟩ = .slice (some ⟨b, 0, none⟩) (glen σ g) cap := by rw [← hlen]; rfl
   rw [e]
   refine .gs (.inr ⟨b, 0, rfl, Ren.add_same, hle2 _ _ Ren.add_same⟩)
theorem rep_tags {σ : Nat → Nat → Value} {ρ : Ren} : ∀ {A : List Value} {l : List Int}, RepTs σ A l → RepL σ ρ A (u16s l)
 | _, _, .nil => .nil
 | _, _, .cons a r => by
  refine .cons ?_ (rep_tags r)
  cases a with
  | lit _ => exact .plain rfl
  | @sym i t e _ =>
   have := Rep.sym (σ := σ) (ρ := ρ) (i := i) (j := 0) (by rw [e]; rfl)
   rwa [e] at this
theorem row_out (k : WI σ w0 h ρ w) {nx : Nat} (hfr : Fresh ρ nx) {r : Lab} {W : World} (ho : Owned w W r) {cells : List Value} (hr : RepTs σ cells r.l) (h0 : r.l ≠ []) :
  ∃ ρ', ρ.le ρ' ∧ New ρ ρ' nx ∧ Fresh ρ' (nx + 1) ∧ Rep σ ρ' (.slice (some ⟨nx, 0, some 0⟩) cells.length 0) r.slice ∧ WI σ w0 (h.ins nx (some (.grown 68 1 cells))) ρ' W := by
 obtain ⟨base, cap, l⟩ := r
 have hn := fresh_none hfr (Nat.le_refl nx)
 have h0 : l ≠ [] := h0
 have hr : RepTs σ cells l := hr
 obtain ⟨b, cap', cur, hb, hc, hbn, hg, hle, hcm, hsz, ht⟩ := ho.cells h0
 have hb : base = some ⟨b, 0, none⟩ := hb
 have hc : cap = cap' := hc
 subst hb; subst hc
 have ht : cur.toList.take l.length = u16s l := ht
 have hle : l.length ≤ cap := hle
 have hcc : u16s l ++ cur.toList.drop l.length = cur.toList := by rw [← ht, List.take_append_drop]
 have k1 := WI.row k ho.below hn (g := b) (c := cap) hbn hg (o := .grown 68 1 cells) rfl ⟨u16s l, cur.toList.drop l.length, by rw [hcc], rep_tags hr, by rw [hcc, Array.length_toList, hsz, Nat.mul_one], hcm, Nat.one_pos⟩
 refine ⟨_, Ren.add_le hn, New.add, fun m x hm => ?_, ?_, k1⟩
 ·unfold Ren.add at hm
  split at hm
  ·omega
  ·exact Nat.lt_succ_of_lt (hfr m x hm)
 ·have e : Lab.slice ⟨some ⟨b, 0, none⟩, cap, l⟩ = .slice (some ⟨b, 0, none⟩) cells.length (cap - 0) := by rw [hr.length]; rfl
  rw [e]
  exact .gr Ren.add_same (.inl rfl)
end
def mayG (lab : Nat → Bool) : Prim := fun h nx args => match args with
 | [v] => (match gho h v with
  | some g => (match lab g with | true => some [(.bool true, h, nx)] | false => none)
  | none => none)
 | _ => none
def ownG (tab : Nat → Nat → Option Nat) : Prim := fun h nx args => match args with
 | [v, u] => (match gho h v, gho h u with
  | some a, some b => (match tab a b with | some r => some [(.int .i64 (.ofNat r), h, nx)] | none => none)
  | _, _ => none)
 | _ => none
def normG (tab : Nat → Option Nat) : Prim := fun h nx args => match args with
 | [u] => (match gho h u with
  | some g => (match tab g with | some g2 => some [(.tuple ⟨[gval nx g2, .int .i64 0]⟩, newG h nx g2, nx + 2)] | none => none)
  | none => none)
 | _ => none
def cloneG : Prim := fun h nx args => match args with
 | [u] => (match gho h u with
  | some g => some [(gval nx g, newG h nx g, nx + 2)]
  | none => none)
 | _ => none
def joinG (tab : Nat → Nat → Option (List Value)) : Prim := fun h nx args => match args with
 | [v, u] => (match gho h v, gho h u with
  | some a, some b => (match tab a b with
   | some [] => some [(.slice none 0 0, h, nx)]
   | some (c :: l) => some [(.slice (some ⟨nx, 0, some 0⟩) (c :: l).length 0, h.ins nx (some (.grown 68 1 (c :: l))), nx + 1)]
   | none => none)
  | _, _ => none)
 | _ => none
section
variable {σ : Nat → Nat → Value} [SigOk σ]
theorem mayG_ok {lab : Nat → Bool} (hl : ∀ g, lab g = true → Rising (gtags σ g) ∧ (gtags σ g).length ≤ 8) : PrimOk σ 8 (mayG lab) := .of fun w0 args h nx outs ho ρ vs w hfr ha hw => by
 unfold mayG at ho
 split at ho
 case h_2 => cases ho
 rename_i v
 split at ho
 case h_2 => cases ho
 rename_i g hg
 split at ho
 case h_2 => cases ho
 rename_i hlg
 cases ho
 cases ha with
 | cons a1 ha =>
 cases ha
 obtain ⟨a, rfl, e1, hat, h40⟩ := ghost_of hw a1 hg
 refine (calls_of_pspec (may_spec a (viewOf w) hat)).mono ?_
 rintro e W ⟨u, rfl, ⟨_, b, hu, hb⟩, hB⟩
 have hbt : b = true := hb.2 (by rw [e1]; exact hl g hlg)
 exact ⟨(.bool true, h, nx), List.mem_singleton.2 rfl, _, ρ, by rw [hu, hbt], Ren.le_refl _, New.refl _ _, Nat.le_refl _, hfr, .plain rfl, hw.below hB⟩
theorem ownmay_ok {tab : Nat → Nat → Option Nat} (ht : ∀ a b r, tab a b = some r → ownE (gtags σ a) (normL (gtags σ b)) = r) : PrimOk σ 185 (ownG tab) := .of fun w0 args h nx outs ho ρ vs w hfr ha hw => by
 unfold ownG at ho
 split at ho
 case h_2 => cases ho
 rename_i v u
 split at ho
 case h_2 => cases ho
 rename_i ga gb hga hgb
 split at ho
 case h_2 => cases ho
 rename_i r hr
 cases ho
 cases ha with
 | cons a1 ha =>
 cases ha with
 | cons a2 ha =>
 cases ha
 obtain ⟨a, rfl, e1, hat, h40⟩ := ghost_of hw a1 hga
 obtain ⟨c, rfl, e2, hct, h41⟩ := ghost_of hw a2 hgb
 refine (ownmay_calls hat hct (by omega) (by omega)).mono ?_
 rintro e W ⟨rfl, hB⟩
 exact ⟨(.int .i64 (.ofNat r), h, nx), List.mem_singleton.2 rfl, _, ρ, by rw [e1, e2, ht _ _ _ hr]; rfl, Ren.le_refl _, New.refl _ _, Nat.le_refl _, hfr, .plain rfl, hw.below hB⟩
theorem normG_ok {tab : Nat → Option Nat} (ht : ∀ g g2, tab g = some g2 → normL (gtags σ g) = gtags σ g2 ∧ (gtags σ g2).length ≤ 8) : PrimOk σ 187 (normG tab) := .of fun w0 args h nx outs ho ρ vs w hfr ha hw => by
 unfold normG at ho
 split at ho
 case h_2 => cases ho
 rename_i u
 split at ho
 case h_2 => cases ho
 rename_i g hg
 split at ho
 case h_2 => cases ho
 rename_i g2 hg2
 cases ho
 cases ha with
 | cons a1 ha =>
 cases ha
 obtain ⟨a, rfl, e1, hat, h40⟩ := ghost_of hw a1 hg
 obtain ⟨h1, h2⟩ := ht g g2 hg2
 refine (norm_calls hat (by omega)).mono ?_
 rintro e W ⟨b, c, ho, rfl⟩
 rw [e1, h1] at ho ⊢
 obtain ⟨ρ', hle, hnew, hfr', hrep, hw'⟩ := ghost_out (σ := σ) (g := g2) hw hfr ho rfl
 refine ⟨_, List.mem_singleton.2 rfl, _, ρ', rfl, hle, hnew, by show nx ≤ nx + 2; omega, hfr', ?_, hw'⟩
 rw [normV, if_neg (by show ¬ 8 < (gtags σ g2).length; omega)]
 exact .tup (.cons hrep (.cons (.plain rfl) .nil))
theorem cloneG_of {f : FuncId} (hcl : ∀ {a : Lab} {w : World}, a.at (viewOf w) → a.l.length ≤ 1000 → Calls Tryz.prog f #[a.slice] w fun e w' => ∃ r : Lab, e = .returned r.slice ∧ r.l = a.l ∧ Owned w w' r) : PrimOk σ f cloneG := .of fun w0 args h nx outs ho ρ vs w hfr ha hw => by
 unfold cloneG at ho
 split at ho
 case h_2 => cases ho
 rename_i u
 split at ho
 case h_2 => cases ho
 rename_i g hg
 cases ho
 cases ha with
 | cons a1 ha =>
 cases ha
 obtain ⟨a, rfl, e1, hat, h40⟩ := ghost_of hw a1 hg
 refine (hcl hat (by omega)).mono ?_
 rintro e W ⟨r, rfl, hr, ho⟩
 obtain ⟨ρ', hle, hnew, hfr', hrep, hw'⟩ := ghost_out (σ := σ) (g := g) hw hfr ho (by rw [hr, e1])
 exact ⟨_, List.mem_singleton.2 rfl, _, ρ', rfl, hle, hnew, by show nx ≤ nx + 2; omega, hfr', hrep, hw'⟩
theorem joinG_of {f : FuncId} {tab : Nat → Nat → Option (List Value)} (ht : ∀ a b l, tab a b = some l → RepTs σ l (normL (gtags σ a ++ gtags σ b)))
  (hj : ∀ {a c : Lab} {w : World}, a.at (viewOf w) → c.at (viewOf w) → a.l.length + c.l.length ≤ 1000 → Calls Tryz.prog f #[a.slice, c.slice] w fun e w' => ∃ r : Lab, e = .returned r.slice ∧ r.l = normL (a.l ++ c.l) ∧ Owned w w' r)
  (h0 : ∀ {a c : Lab} {w : World}, a.at (viewOf w) → c.at (viewOf w) → a.l = [] → c.l = [] → Calls Tryz.prog f #[a.slice, c.slice] w fun e w' => e = .returned (.slice none 0 0) ∧ Below w.heap.size w w') : PrimOk σ f (joinG tab) := .of fun w0 args h nx outs ho ρ vs w hfr ha hw => by
 unfold joinG at ho
 split at ho
 case h_2 => cases ho
 rename_i v u
 split at ho
 case h_2 => cases ho
 rename_i ga gb hga hgb
 cases ha with
 | cons a1 ha =>
 cases ha with
 | cons a2 ha =>
 cases ha
 obtain ⟨a, rfl, e1, hat, h40⟩ := ghost_of hw a1 hga
 obtain ⟨c, rfl, e2, hct, h41⟩ := ghost_of hw a2 hgb
 split at ho
 case h_3 => cases ho
 ·rename_i hl
  cases ho
  have hr := ht _ _ _ hl
  have hnil : normL (a.l ++ c.l) = [] := by rw [e1, e2]; exact List.eq_nil_of_length_eq_zero hr.length.symm
  have hall : ∀ x, ¬ x ∈ a.l ++ c.l := fun x hx => by have := ((normL_ok (a.l ++ c.l)).mem x).2 hx; rw [hnil] at this; cases this
  refine (h0 hat hct (List.eq_nil_iff_forall_not_mem.2 fun x hx => hall x (List.mem_append_left _ hx)) (List.eq_nil_iff_forall_not_mem.2 fun x hx => hall x (List.mem_append_right _ hx))).mono ?_
  rintro e W ⟨rfl, hB⟩
  exact ⟨_, List.mem_singleton.2 rfl, _, ρ, rfl, Ren.le_refl _, New.refl _ _, Nat.le_refl _, hfr, .plain rfl, hw.below hB⟩
 ·rename_i x l hl
  cases ho
  have hr := ht _ _ _ hl
  refine (hj hat hct (by omega)).mono ?_
  rintro e W ⟨r, rfl, hre, ho⟩
  rw [← e1, ← e2, ← hre] at hr
  obtain ⟨ρ', hle, hnew, hfr', hrep, hw'⟩ := row_out hw hfr ho hr (fun e => by have := hr.length; rw [e] at this; cases this)
  exact ⟨_, List.mem_singleton.2 rfl, _, ρ', rfl, hle, hnew, by show nx ≤ nx + 1; omega, hfr', hrep, hw'⟩
end
end
end Go.Z
end
