/- One part of a proof: an evaluator of the model, shown right, and contracts that it yields. No condition beyond those that each theorem names. -/
import Derived.Test.YtepojdlgfmmjgaaGreatJB0
import Derived.Test.YtepojdlgfmmjgaaGreatLP
import Derived.Test.YtepojdlgfmmjgaaGreatSE
import Derived.Lib.OwnBridge
set_option linter.unusedSimpArgs false
set_option linter.unusedVariables false
set_option linter.unusedSectionVars false
set_option linter.deprecated false
section
namespace Go.Z
open Go.X Go.RowKit Go.Proofs Go.Proofs.LB
set_option maxRecDepth 100000
def normL (l : List Int) : List Int := Lib.compact (sortI l)
theorem normL_ok (l : List Int) : NormOf l (normL l) := compact_norm l
theorem NormOf.eq {l r : List Int} (h : NormOf l r) : r = normL l := h.unique (normL_ok l)
theorem normL_len (l : List Int) : (normL l).length ≤ l.length := (normL_ok l).len
structure Owned (w w' : World) (r : Lab) : Prop where
 num : ∀ x ∈ r.l, 0 ≤ x ∧ x < 65536
 own : r.l ≠ [] → w'.ownsRow w.heap.size 68 1 r.slice r.l.length (u16s r.l)
 below : Below w.heap.size w w'
theorem Owned.cells {w w' : World} {r : Lab} (h : Owned w w' r) (hn : r.l ≠ []) : ∃ g cap cur, r.base = some ⟨g, 0, none⟩ ∧ r.cap = cap ∧ w.heap.size ≤ g ∧ w'.heap[g]? = some (.cells cur 68 (0, 0)) ∧ r.l.length ≤ cap ∧ cap ≤ maxLen ∧ cur.size = cap ∧ cur.toList.take r.l.length = u16s r.l := by
 obtain ⟨base, cap, l⟩ := r
 rcases (h.own hn).2 with ⟨_, h0⟩ | ⟨g, cap', cur, e, h1, h2, h3, h4, h5, h6⟩
 ·exact absurd (List.eq_nil_of_length_eq_zero h0) hn
 ·simp only [Lab.slice, Value.slice.injEq, true_and] at e
  obtain ⟨rfl, rfl⟩ := e
  exact ⟨g, cap, cur, rfl, rfl, h1, h2, h3, h4, by rw [h5, Nat.mul_one], by rw [← h6, Nat.mul_one]⟩
theorem Owned.at {w w' : World} {r : Lab} (h : Owned w w' r) : r.at (viewOf w') := by
 refine ⟨fun hn => ?_, h.num⟩
 obtain ⟨g, cap, cur, hb, _, _, hg, _, _, _, ht⟩ := h.cells hn
 refine ⟨g, 0, hb, fun i v hi => ?_⟩
 have hlt : i < r.l.length := by have := (List.getElem?_eq_some_iff.1 hi).1; rwa [List.length_map] at this
 show w'.cell? ⟨g, 0 + i, none⟩ = some v
 have hi : (u16s r.l)[i]? = some v := hi
 rw [← ht, List.getElem?_take, if_pos hlt] at hi
 simp [World.cell?, hg, ← hi]
theorem lab_below {a : Lab} {W W' : World} (h : a.at (viewOf W)) (hB : Below W.heap.size W W') : a.at (viewOf W') := by
 refine ⟨fun hne => ?_, h.num⟩
 obtain ⟨p, off, hb, hh⟩ := h.has hne
 refine ⟨p, off, hb, fun i v hi => ?_⟩
 have h1 : W.cell? ⟨p, off + i, none⟩ = some v := hh i v hi
 have hlt : p < W.heap.size := by
  by_cases hp : p < W.heap.size
  ·exact hp
  ·have : W.heap[p]? = none := Array.getElem?_eq_none (by omega)
   simp [World.cell?, this] at h1
 exact (World.cell?_of_block (a := ⟨p, off + i, none⟩) (hB.block p hlt)).trans h1
theorem calls_of_row {f : FuncId} {args : List Value} {w : World} {R : List Int → Prop} (h : Go.X.Does Tryz.prog f args (viewOf w) [] (RowOf R)) : Calls Tryz.prog f args.toArray w fun e w' => ∃ r : Lab, e = .returned r.slice ∧ R r.l ∧ Owned w w' r := by
 refine (h w ⟨fun _ _ _ hv => hv, fun i r hr => by simp at hr, fun i j r r' b _ hr => by simp at hr⟩).mono ?_
 rintro e w' ⟨v, V', bs, he, ⟨r, hv, hb, hr, hR⟩, hp, hk, hg, hn⟩
 have hbel : Below w.heap.size w w' := ⟨hk.os, hk.tape, hk.output, hk.size, fun k hk' => hk.block k hk' (fun ⟨r, hr, _⟩ => by cases hr)⟩
 subst hv
 refine ⟨r, he, hR, hr.num, fun hne => ?_, hbel⟩
 obtain ⟨base, cap, l⟩ := r
 simp only [Lab.slice] at *
 have hl0 : l.length ≠ 0 := fun e => hne (List.eq_nil_of_length_eq_zero e)
 have hb : bs = [.row (.slice base l.length cap) 68 1 l.length] := by
  rcases hb with hb | ⟨_, e0⟩
  ·exact hb
  ·simp only [Value.slice.injEq] at e0
   exact absurd e0.2.1 hl0
 subst hb
 rcases hp.ok 0 _ rfl with ⟨base', e0, h0⟩ | ⟨g, cap', cur, hv', hc0, hheap, hn1, hn2, hsz, hfree⟩
 ·exact absurd h0 hl0
 simp only [Value.slice.injEq, true_and] at hv'
 obtain ⟨rfl, rfl⟩ := hv'
 have hbl : (Res.row (.slice (some ⟨g, 0, none⟩) l.length cap) 68 1 l.length).blk = some g := by simp [Res.blk, rowBlk, hc0]
 have hgn : w.heap.size ≤ g := by
  rcases hn g ⟨_, List.mem_cons_self, hbl⟩ with ⟨r, hr, _⟩ | h1
  ·cases hr
  ·exact h1
 obtain ⟨p, off, hb, hh⟩ := hr.has hne
 simp only [Option.some.injEq, Addr.mk.injEq, and_true] at hb
 obtain ⟨rfl, rfl⟩ := hb
 refine ⟨len_u16 l, .inr ⟨g, cap, cur, rfl, hgn, hheap, hn1, hn2, hsz, ?_⟩⟩
 apply List.ext_getElem?
 intro i
 rw [List.getElem?_take, Nat.mul_one]
 split
 ·rename_i hi
  obtain ⟨x, hx⟩ : ∃ x, (u16s l)[i]? = some x := ⟨_, List.getElem?_eq_getElem (by rw [List.length_map]; exact hi)⟩
  have := hp.sub g (0 + i) x (hh i x hx)
  rw [World.cell?, hheap] at this
  simp only [Option.isSome_none, Bool.false_eq_true, if_false, Nat.zero_add] at this
  rw [hx, ← this]
  simp
 ·rw [List.getElem?_eq_none (by rw [List.length_map]; omega)]
theorem clone_calls {a : Lab} {w : World} (h : a.at (viewOf w)) (h8 : a.l.length ≤ 1000) : Calls Tryz.prog 108 #[a.slice] w fun e w' => ∃ r : Lab, e = .returned r.slice ∧ r.l = a.l ∧ Owned w w' r := calls_of_row (clone_spec a _ h h8)
theorem cloneL_calls {a : Lab} {w : World} (h : a.at (viewOf w)) (h8 : a.l.length ≤ 1000) : Calls Tryz.prog 34 #[a.slice] w fun e w' => ∃ r : Lab, e = .returned r.slice ∧ r.l = a.l ∧ Owned w w' r := calls_of_row (cloneL_spec a _ h h8)
theorem rjoin_calls {a c : Lab} {w : World} (h : a.at (viewOf w)) (hc : c.at (viewOf w)) (h8 : a.l.length + c.l.length ≤ 1100000) : Calls Tryz.prog 10 #[a.slice, c.slice] w fun e w' => ∃ r : Lab, e = .returned r.slice ∧ r.l = normL (a.l ++ c.l) ∧ Owned w w' r :=
 (calls_of_row ((rjoin_spec a c _ h hc h8).mono fun _ _ _ _ h => h.to)).mono fun e w' ⟨r, he, hn, ho⟩ => ⟨r, he, NormOf.eq hn, ho⟩
theorem rjoin0_calls {a c : Lab} {w : World} (h : a.at (viewOf w)) (hc : c.at (viewOf w)) (ea : a.l = []) (ec : c.l = []) : Calls Tryz.prog 10 #[a.slice, c.slice] w fun e w' => e = .returned (.slice none 0 0) ∧ Below w.heap.size w w' := by
 refine (rjoin_spec a c _ h hc (by rw [ea, ec]; decide) w ⟨fun _ _ _ hv => hv, fun i r hr => by simp at hr, fun i j r r' b _ hr => by simp at hr⟩).mono ?_
 rintro e w' ⟨v, V', bs, he, ⟨r, hv, hb, hr, hn, hz⟩, hp, hk, hg, hnw⟩
 refine ⟨?_, ⟨hk.os, hk.tape, hk.output, hk.size, fun k hk' => hk.block k hk' (fun ⟨r, hr, _⟩ => by cases hr)⟩⟩
 rw [he, hz]
 have := hn.len
 rw [ea, ec] at this
 exact List.eq_nil_of_length_eq_zero (Nat.le_zero.1 this)
end Go.Z
end

section
namespace Go.Z
open Go.X Go.RowKit Go.Proofs Go.Proofs.LB Go.Sort
set_option maxRecDepth 100000
theorem sorted_end {w w1 : World} {g cap nn q : Nat} {os : Array Obj} {ss : List Int} (hown : w1.ownsRow w.heap.size 68 1 (.slice (some ⟨g, 0, none⟩) ss.length cap) ss.length (u16s ss)) (hbel : Below w.heap.size w w1) (hbg : w.heap.size ≤ g) (hnum : ∀ x ∈ ss, 0 ≤ x ∧ x < 65536) :
  Owned w (putRow (Value.int .u16) (Sort.ahead (grow (putRow (Value.int .u16) (Sort.ahead w1 nn) g 0 (sortI ss).toArray) os) q) g 0 (normL ss ++ List.replicate (ss.length - (normL ss).length) 0).toArray) ⟨some ⟨g, 0, none⟩, cap, normL ss⟩ := by
 have hl2 := sortI_len ss
 have hle := normL_len ss
 refine ⟨(normL_ok ss).num hnum, fun _ => ?_, ?_⟩
 ·rcases hown.2 with ⟨h0, _⟩ | ⟨g', cap', cur, hv, hbase, hb, h1, h2, h3, h4⟩
  ·cases h0
  cases hv
  have hs := ownsRow_sortedI (n := nn) (os := os) (ts := sortI ss) hl2 hbase hb h1 h2 h3
  have hc := Lib.ownsRow_putRow (q := q) (k := (normL ss).length) (ys := normL ss ++ List.replicate (ss.length - (normL ss).length) 0) hs (by simp; omega) (by omega)
  rw [List.take_left] at hc
  exact hc
 ·rcases hown.2 with ⟨h0, _⟩ | ⟨g', cap', cur, hv, hbase, hb, h1, h2, h3, h4⟩
  ·cases h0
  cases hv
  exact Lib.below_putRow (hbel.grown (grownBy_sortedI _) hbel.size (fun j hj => by cases hj; exact hbase)) hbg
theorem normL_nil : normL [] = [] := List.eq_nil_of_length_eq_zero (by have := normL_len []; simpa using this)
set_option maxHeartbeats 2000000 in
theorem sorted_calls {a : Lab} {w : World} (h : a.at (viewOf w)) (h8 : a.l.length ≤ 1000) : Calls Tryz.prog 58 #[a.slice] w fun e w' => ∃ b c, e = .returned (.slice b (normL a.l).length c) ∧ Owned w w' ⟨b, c, normL a.l⟩ := by
 have hcl := clone_calls h h8
 by_cases h0 : a.l = []
 ·rw [h0, normL_nil]
  rw [h0] at hcl
  go_enter Tryz.func58, Tryz.ntmps58
  go_wp2_with (first
   | (go_at_call 108; refine hcl.mono ?_; rintro e w1 ⟨⟨b, c, l⟩, rfl, rfl, ho⟩; simp only [Lab.slice, List.length_nil])
   | (go_at_call 109; refine (Su.Sort_int_nil b c _).mono ?_; rintro e w2 ⟨rfl, rfl⟩)
   | (go_at_call 110; refine (compactU_empty b c _).mono ?_; rintro e w3 ⟨rfl, rfl⟩))
  go_ret
  exact ⟨b, c, rfl, ho⟩
 ·generalize a.slice = arg at hcl
  generalize a.l = ss at *
  have hcl2 : Calls Tryz.prog 108 #[arg] w fun e w1 => ∃ g c, e = .returned (.slice (some ⟨g, 0, none⟩) ss.length c) ∧ Aside (Owned w w1 ⟨some ⟨g, 0, none⟩, c, ss⟩ ∧ w.heap.size ≤ g ∧ g < w1.heap.size ∧ ss.length ≤ c ∧ Holds (Value.int .u16) w1 g 0 ss.toArray) ∧
    Calls Tryz.prog 109 #[.slice (some ⟨g, 0, none⟩) ss.length c] w1 fun e w2 => e = .returned (.tuple #[]) ∧ ∃ nn os, Aside (w2 = grow (putRow (Value.int .u16) (Sort.ahead w1 nn) g 0 (sortI ss).toArray) os) ∧
    Calls Tryz.prog 110 #[.slice (some ⟨g, 0, none⟩) ss.length c] w2 fun e w3 => e = .returned (.slice (some ⟨g, 0, none⟩) (normL ss).length c) ∧ Aside (Owned w w3 ⟨some ⟨g, 0, none⟩, c, normL ss⟩) := by
   refine hcl.mono ?_
   rintro e w1 ⟨⟨b, c, l⟩, rfl, rfl, ho⟩
   have h0 : l ≠ [] := h0
   obtain ⟨g, cap, cur, hb, hc, hbg, hg, hn1, hn2, hsz, ht⟩ := ho.cells h0
   replace hb : b = some ⟨g, 0, none⟩ := hb
   replace hc : c = cap := hc
   subst hb; subst hc
   have hn1 : l.length ≤ c := hn1
   have hgl : g < w1.heap.size := (Array.getElem?_eq_some_iff.1 hg).1
   have hH : Holds (Value.int .u16) w1 g 0 l.toArray := holds_of_blockI hg ht
   have hl2 := sortI_len l
   have h8 : l.length ≤ 1000 := h8
   refine ⟨g, c, rfl, ⟨ho, hbg, hgl, hn1, hH⟩, (Su.slices_Sort_int g 0 c l w1 hH hgl (by omega)).mono ?_⟩
   rintro e w2 ⟨rfl, nn, os, rfl⟩
   have hH2 : Holds (Value.int .u16) (grow (putRow (Value.int .u16) (Sort.ahead w1 nn) g 0 (sortI l).toArray) os) g 0 (sortI l).toArray :=
    holds_grow (Value.int .u16) _ os g 0 _ (by simpa [putRow, mapBlock, Sort.ahead] using hgl) (holds_putRow (Value.int .u16) _ g 0 _ _ (holds_ahead (Value.int .u16) w1 nn g 0 _ hH) (by simpa using hl2))
   have hcomp := compactU g 0 c (sortI l) _ hH2 (by omega) (by omega)
   rw [hl2] at hcomp
   refine ⟨rfl, nn, os, rfl, hcomp.mono ?_⟩
   rintro e w3 ⟨rfl, q, rfl⟩
   exact ⟨rfl, sorted_end (ho.own h0) ho.below hbg ho.num⟩
  clear hcl
  go_enter Tryz.func58, Tryz.ntmps58
  go_wp2_with (first
   | (go_at_call 108; refine hcl2.mono ?_; rintro e w1 ⟨g, c, rfl, X, hsort⟩)
   | (go_at_call 109; refine hsort.mono ?_; rintro e w2 ⟨rfl, nn, os, Y, hcomp⟩)
   | (go_at_call 110; refine hcomp.mono ?_; rintro e w3 ⟨rfl, Z⟩))
  go_ret
  exact ⟨_, c, rfl, Z.out⟩
end Go.Z
end
