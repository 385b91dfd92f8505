/- One part of a proof: an evaluator of the model, shown right, and contracts that it yields. No condition beyond those that each theorem names. -/
import Derived.Test.YtnhllgedoimhkaaGreatDoorSC
set_option linter.unusedSimpArgs false
set_option linter.unusedVariables false
set_option linter.unusedSectionVars false
set_option linter.deprecated false
section
namespace Go.Proofs.LB
open Go.X
set_option maxRecDepth 100000
theorem Does.toBox {P : Program} {f : FuncId} {args : List Value} {V : View} {R : Value → View → List Res → Prop} {Q : Value → List Res → Prop} (h : Does P f args V [] R)
  (hR : ∀ v V' bs, V.le V' → R v V' bs → ∃ base cap n ty z known, v = .slice base n cap ∧ bs = [.row v ty z n] ∧ 0 < n ∧ known.length = n * z ∧ V'.cells v known ∧ ∀ g ex, base = some ⟨g, 0, none⟩ → Q v [.box g ty (known ++ ex)]) :
  Does P f args V [] (fun v V' bs => V' = V ∧ Q v bs) := by
 intro w hw
 refine (h w hw).mono fun e w' ⟨v, V', bs, he, hr, hp, hk, hg, hn⟩ => ?_
 obtain ⟨base, cap, n, ty, z, known, hv, hbs, h0, hl, hkn, hQ⟩ := hR v V' bs hg.1 hr
 subst hv; subst hbs
 have hok : Res.ok w' V' (.row (.slice base n cap) ty z n) := hp.ok 0 _ rfl
 rcases hok with ⟨base', _, h2⟩ | ⟨g, cap', cur, hv', hc0, hheap, hn1, hn2, hsz, hfree⟩
 ·omega
 simp only [Value.slice.injEq, true_and] at hv'
 obtain ⟨rfl, rfl⟩ := hv'
 have hkn : V'.has g 0 known := hkn
 have hbl : (Res.row (.slice (some ⟨g, 0, none⟩) n cap) ty z n).blk = some g := by simp [Res.blk, rowBlk, hc0]
 have hgn : w.heap.size ≤ g := by
  rcases hn g ⟨_, List.mem_cons_self, hbl⟩ with ⟨r, hr, _⟩ | h1
  ·cases hr
  ·exact h1
 have hnone : ∀ o, V g o = none := fun o => by
  cases hv : V g o with
  | none => rfl
  | some v => exact absurd (sub_lt hw.sub hv) (by omega)
 have hcur : cur.toList = known ++ cur.toList.drop (n * z) := by
  have e : cur.toList.take (n * z) = known := by
   apply List.ext_getElem?
   intro i
   rw [List.getElem?_take]
   split
   ·rename_i hi
    obtain ⟨x, hx⟩ : ∃ x, known[i]? = some x := ⟨_, List.getElem?_eq_getElem (by omega)⟩
    have := hp.sub g (0 + i) x (hkn i x hx)
    rw [World.cell?, hheap] at this
    simp only [Option.isSome_none, Bool.false_eq_true, if_false, Nat.zero_add] at this
    rw [hx, ← this]
    simp
   ·rw [List.getElem?_eq_none (by omega)]
  rw [← e, List.take_append_drop]
 refine ⟨_, V, [.box g ty (known ++ cur.toList.drop (n * z))], he, ⟨rfl, hQ _ _ rfl⟩, ⟨fun b o v hv => hp.sub b o v (hg.1 b o v hv), ?_, ?_⟩, hk, ⟨View.le_refl _, fun _ _ _ h => .inl h⟩, ?_⟩
 ·intro i r hr
  cases i with
  | zero =>
   simp only [List.getElem?_cons_zero, Option.some.injEq] at hr
   subst hr
   exact ⟨by rw [← hcur]; exact hheap, hnone⟩
  | succ i => simp at hr
 ·intro i j r r' c hij hi hj _ _
  have e1 : i = 0 := by have := (List.getElem?_eq_some_iff.1 hi).1; simp only [List.length_cons, List.length_nil] at this; omega
  have e2 : j = 0 := by have := (List.getElem?_eq_some_iff.1 hj).1; simp only [List.length_cons, List.length_nil] at this; omega
  exact absurd (e1.trans e2.symm) hij
 ·rintro c ⟨r, hr, hc⟩
  right
  rw [List.mem_singleton.1 hr] at hc
  simp only [Res.blk, Option.some.injEq] at hc
  omega
theorem setAt_nil : ∀ (l : List Value) (n : Nat), setAt l n [] = l
 | [], n => by cases n <;> rfl
 | x :: l, n => by cases n <;> simp [setAt, setAt_nil l]
theorem setAt_one (l : List Value) (n : Nat) (x : Value) : setAt l n [x] = l.set n x := by rw [setAt_step, setAt_nil]
theorem cloneW_spec (cells : List Value) (p off c : Nat) (V : View) (h : V.has p off cells) (h0 : cells ≠ []) (h1 : allOne cells = true) (hl : cells.length ≤ 1000) :
  Does Tryz.prog 43 [.slice (some ⟨p, off, none⟩) cells.length c] V [] (fun v V' bs => V' = V ∧ ∃ g cap ex, v = .slice (some ⟨g, 0, none⟩) cells.length cap ∧ bs = [.box g 64 (cells ++ ex)]) := by
 have hpos : 0 < cells.length := List.length_pos_iff.2 h0
 have main : Does Tryz.prog 43 [.slice (some ⟨p, off, none⟩) cells.length c] V [] (fun v V' bs => ∃ base cap, v = .slice base cells.length cap ∧ bs = [.row v 64 1 cells.length] ∧ V'.cells v cells) := by
  refine does_of_zfun [] mixed (args := [.v _]) (ms := []) Tryz.func43 (by kernel_rfl) rfl ?_; conv => whnf
  repeat' ((first | refine br_t rfl ?_ | refine br_f rfl ?_ | refine IdxN.lit rfl rfl ?_ | intro _); conv => whnf)
  rename_i b1 V1 hV1 hb1
  refine AppN.to cells.length (Nat.zero_add _) [] cells hb1 rfl (show V1.has p off cells from (h.mono le_auto)) (Nat.mul_one _).symm h1 (by omega) (by decide) fun base' cap' V3 hV3 hc3 => ?_; conv => whnf
  exact ⟨[7], by simp, [_], rfl, base', cap', rfl, rfl, hc3⟩
 refine (Does.toBox (Q := fun v bs => ∃ g cap ex, v = .slice (some ⟨g, 0, none⟩) cells.length cap ∧ bs = [.box g 64 (cells ++ ex)]) main fun v V' bs _ ⟨base, cap, hv, hb, hh⟩ => ?_)
 exact ⟨base, cap, cells.length, _, 1, cells, hv, hb, hpos, (Nat.mul_one _).symm, hh, fun g ex hb => ⟨g, cap, ex, by rw [hv, hb], rfl⟩⟩
theorem growW0_spec (V : View) : PSpec 58 [.slice none 0 0, .int .i64 0] V (fun v _ => v = .slice none 0 0) := by
 refine does_of_zfun [] mixed (args := [.v _, .v _]) (ms := []) Tryz.func58 (by kernel_rfl) rfl ?_; conv => whnf
 repeat' ((first | refine br_t rfl ?_ | refine br_f rfl ?_ | refine IdxN.lit rfl rfl ?_ | intro _); conv => whnf)
 exact ret_pure rfl
set_option maxHeartbeats 1000000 in
/-- slices of nothing, one behind the other -/
theorem concat0_spec (M : List Value) (n g cap : Nat) (V : View) (h : V.has g 0 M) (hM : ∀ j, j < n → ∃ b k, M[j]? = some (.slice b 0 k)) (hl : n ≤ 1000) :
  PSpec 44 [.slice (some ⟨g, 0, none⟩) n cap] V (fun v _ => ∃ b c, v = .slice b 0 c) := by
 refine does_of_zfun [] mixed (args := [.v _]) (ms := []) Tryz.func44 (by kernel_rfl) rfl ?_; conv => whnf
 repeat' ((first | refine br_t rfl ?_ | refine br_f rfl ?_ | refine IdxN.lit rfl rfl ?_ | intro _); conv => whnf)
 refine loopz (σ := Nat) (fun z => [(0, .v (.slice (some ⟨g, 0, none⟩) n cap)), (3, .v (.int .i64 0)), (9, .v (.slice (some ⟨g, 0, none⟩) n cap)), (10, .v (.int .i64 (n : Int))), (11, .v (.int .i64 (z : Int)))]) (fun _ => [])
  (fun j z V' => V.le V' ∧ z ≤ n ∧ n - z = j) n 0 ?_ ?_ ?_ ?_
 ·repeat' (first | exact sees_nil | refine sees_cons rfl rfl rfl ?_)
 ·exact keeps_nil
 ·exact ⟨View.le_refl _, Nat.zero_le _, Nat.sub_zero _⟩
 rintro j i V' ⟨hV, hi, hj⟩
 conv => whnf
 apply br <;> intro h3 <;> conv => whnf
 ·have h3 : i < n := by have := of_decide_eq_true h3; omega
  obtain ⟨xb, xc, hx⟩ := hM i h3
  have hcell := has_one h hx
  refine IdxN.of (by omega) (by omega) ?_; conv => whnf
  refine LoadN.of (hcell.mono le_auto) 0 (by show 0 + i * 1 = 0 + i + 0; omega) rfl ?_; conv => whnf
  repeat' ((first | refine br_t rfl ?_ | refine br_f rfl ?_ | refine IdxN.lit rfl rfl ?_ | intro _); conv => whnf)
  have hwr := wrap_nat (i := i) (by omega)
  rw [hwr]
  refine ⟨j - 1, i + 1, by omega, ?_, keeps_nil, hV, by omega, by omega⟩
  repeat' (first | exact sees_nil | refine sees_cons rfl rfl rfl ?_)
 have h3 : ¬ i < n := by have := of_decide_eq_false h3; omega
 repeat' ((first | refine br_t rfl ?_ | refine br_f rfl ?_ | refine IdxN.lit rfl rfl ?_ | intro _); conv => whnf)
 refine CallN.pure (growW0_spec _) fun v V1 _ hV1 hv => ?_
 subst hv; conv => whnf
 repeat' ((first | refine br_t rfl ?_ | refine br_f rfl ?_ | refine IdxN.lit rfl rfl ?_ | intro _); conv => whnf)
 refine loopz (σ := Nat × Option Addr × Nat) (fun z => [(0, .v (.slice (some ⟨g, 0, none⟩) n cap)), (6, .row 33), (25, .v (.slice (some ⟨g, 0, none⟩) n cap)), (26, .v (.int .i64 (n : Int))), (27, .v (.int .i64 (z.1 : Int)))]) (fun z => [(33, .row (.slice z.2.1 0 z.2.2) 37 1 0)])
  (fun j z V' => V.le V' ∧ z.1 ≤ n ∧ n - z.1 = j ∧ V'.cells (.slice z.2.1 0 z.2.2) []) n (0, none, 0) ?_ ?_ ?_ ?_
 ·repeat' (first | exact sees_nil | refine sees_cons rfl rfl rfl ?_)
 ·repeat' (first | exact keeps_nil | refine keeps_cons rfl ?_ | refine keeps_free ?_)
 ·exact ⟨View.le_trans hV hV1, Nat.zero_le _, Nat.sub_zero _, rfl⟩
 rintro j2 ⟨i2, b0, k0⟩ V2 ⟨hV2, hi2, hj2, hxs⟩
 simp only at hi2 hj2 hxs
 conv => whnf
 apply br <;> intro h5 <;> conv => whnf
 ·have h5 : i2 < n := by have := of_decide_eq_true h5; omega
  obtain ⟨xb, xc, hx⟩ := hM i2 h5
  have hcell := has_one h hx
  refine IdxN.of (by omega) (by omega) ?_; conv => whnf
  refine LoadN.of (hcell.mono le_auto) 0 (by show 0 + i2 * 1 = 0 + i2 + 0; omega) rfl ?_; conv => whnf
  repeat' ((first | refine br_t rfl ?_ | refine br_f rfl ?_ | refine IdxN.lit rfl rfl ?_ | intro _); conv => whnf)
  refine AppN.toR 0 rfl [] [] (hxs.mono le_auto) rfl (.inl rfl) rfl rfl (by omega) (by decide) fun base' cap' V5 hV5 hc5 hcap5 => ?_; conv => whnf
  repeat' ((first | refine br_t rfl ?_ | refine br_f rfl ?_ | refine IdxN.lit rfl rfl ?_ | intro _); conv => whnf)
  have hwr := wrap_nat (i := i2) (by omega)
  rw [hwr]
  refine ⟨j2 - 1, (i2 + 1, base', cap'), by omega, ?_, ?_, le_auto, by show i2 + 1 ≤ _; omega, by show n - (i2 + 1) = _; omega, hc5⟩
  ·repeat' (first | exact sees_nil | refine sees_cons rfl rfl rfl ?_)
  ·repeat' (first | exact keeps_nil | refine keeps_cons rfl ?_ | refine keeps_free ?_)
 ·repeat' ((first | refine br_t rfl ?_ | refine br_f rfl ?_ | refine IdxN.lit rfl rfl ?_ | intro _); conv => whnf)
  exact ret_pure ⟨_, _, rfl⟩
def ints (n : Nat) : List Value := (List.range n).map fun i => .int .i64 (i : Nat)
theorem ints_at {n i : Nat} (h : i < n) : (ints n)[i]? = some (.int .i64 (i : Nat)) := by simp [ints, List.getElem?_range h]
theorem ints_succ (n : Nat) : ints (n + 1) = ints n ++ [.int .i64 (n : Nat)] := by simp [ints, List.range_succ]
theorem ints_len (n : Nat) : (ints n).length = n := by simp [ints]
theorem underW : Tryz.prog.underlying 64 = some (.slice (Tryz.prog.elem 64)) := by kernel_rfl
theorem sizeW (w : World) : (sizeOf (Tryz.prog.elem 64)).run Tryz.prog w = .ok 1 w := run_of_pureRun (by kernel_rfl) w
theorem get_one {L : List Value} {o i : Nat} {x : Value} (ho : o = i) (h : L[i]? = some x) : (L.drop o).take 1 = [x] := by
 subst ho
 obtain ⟨hlt, rfl⟩ := List.getElem?_eq_some_iff.1 h
 rw [List.drop_eq_getElem_cons hlt]; rfl
set_option maxHeartbeats 2000000 in
theorem merge_spec (ls : List (List UInt8)) (cs ws : List Value) (wb ob : Option Addr) (wc oc : Nat) (V : View) (hb : BsC V ls cs) (hw : WrC V cs ws) (hws : V.cells (.slice wb cs.length wc) ws) (hos : V.cells (.slice ob cs.length oc) (ints cs.length)) (h0 : 0 < cs.length) (hl : cs.length ≤ 1000) :
  PSpec 32 [.slice wb cs.length wc, .slice ob cs.length oc] V (fun v V' => ∃ b c, v = .slice b cs.length c ∧ V'.cells (.slice b cs.length c) cs) := by
 have hwl := hw.len
 obtain ⟨p, off, rfl, hwh⟩ := cells_some hws (fun e => by rw [e] at hwl; simp at hwl; omega)
 obtain ⟨po, oo, rfl, hoh⟩ := cells_some hos (fun e => by have := ints_len cs.length; rw [e] at this; simp at this; omega)
 generalize hn : cs.length = n at *
 refine does_of_zfun [] mixed (args := [.v _, .v _]) (ms := []) Tryz.func32 (by kernel_rfl) rfl ?_; conv => whnf
 subst hwl
 refine CallN.new 10 rfl (cloneW_spec ws p off wc _ hwh (fun e => by rw [e] at h0; exact absurd h0 (Nat.lt_irrefl _)) hw.one (by omega)) fun v V1 bs hV1 ⟨hVe, g, cap, ex, hv, hbs⟩ => ⟨_, .v (.slice (some ⟨g, 0, none⟩) ws.length cap), hbs, by subst hv; rfl, ?_⟩
 subst hVe; subst hv
 conv => whnf
 repeat' ((first | refine br_t rfl ?_ | refine br_f rfl ?_ | refine IdxN.lit rfl rfl ?_ | intro _); conv => whnf)
 refine loopz (σ := Nat × List Value × Option Addr × Nat) (fun z => [(1, .v (.slice (some ⟨po, oo, none⟩) ws.length oc)), (5, .v (.slice (some ⟨g, 0, none⟩) ws.length cap)), (6, .row 41), (11, .v (.slice (some ⟨po, oo, none⟩) ws.length oc)), (12, .v (.int .i64 (ws.length : Int))), (13, .v (.int .i64 (z.1 : Int)))])
  (fun z => [(10, .box g 64 z.2.1), (41, .row (.slice z.2.2.1 z.1 z.2.2.2) 37 1 z.1)])
  (fun j z V' => V1.le V' ∧ z.1 ≤ ws.length ∧ ws.length - z.1 = j ∧ ws.length ≤ z.2.1.length ∧ (∀ k, k < z.1 → ∃ b c, z.2.1[k]? = some (.slice b 0 c)) ∧ (∀ k, z.1 ≤ k → k < ws.length → z.2.1[k]? = ws[k]?) ∧ V'.cells (.slice z.2.2.1 z.1 z.2.2.2) (cs.take z.1)) ws.length (0, ws ++ ex, none, 0) ?_ ?_ ?_ ?_
 ·repeat' (first | exact sees_nil | refine sees_cons rfl rfl rfl ?_)
 ·repeat' (first | exact keeps_nil | refine keeps_cons rfl ?_ | refine keeps_free ?_)
 ·exact ⟨View.le_refl _, Nat.zero_le _, Nat.sub_zero _, by show _ ≤ (ws ++ ex).length; rw [List.length_append]; omega, fun k hk => absurd hk (Nat.not_lt_zero _), fun k _ hk => List.getElem?_append_left hk, rfl⟩
 rintro j ⟨i, M, b0, k0⟩ V' ⟨hV, hi, hj, hML, hM0, hM1, hxs⟩
 simp only at hi hj hML hM0 hM1 hxs
 conv => whnf
 apply br <;> intro h3 <;> conv => whnf
 ·have h3 : i < ws.length := by have := of_decide_eq_true h3; omega
  obtain ⟨xb, l, xc, hl1, hx, hlc, _⟩ := hb.get (i := i) (by omega)
  obtain ⟨wx, hwx⟩ : ∃ wx, ws[i]? = some wx := ⟨_, List.getElem?_eq_getElem h3⟩
  obtain ⟨q, rfl, hq⟩ := hw.at' i _ wx hx hwx
  have hMi : M[i]? = some (.slice (some ⟨q, 0, none⟩) 1 1) := by rw [hM1 i (Nat.le_refl _) h3, hwx]
  have hord := has_one hoh (ints_at h3)
  refine IdxN.of (by omega) (by omega) ?_; conv => whnf
  refine LoadN.of (hord.mono le_auto) 0 (by show oo + i * 1 = oo + i + 0; omega) rfl ?_; conv => whnf
  repeat' ((first | refine br_t rfl ?_ | refine br_f rfl ?_ | refine IdxN.lit rfl rfl ?_ | intro _); conv => whnf)
  refine br_t (decide_eq_true (by omega)) ?_; conv => whnf
  refine IdxN.of (by omega) (by omega) ?_; conv => whnf
  refine LoadN.own 10 rfl (l := [.slice (some ⟨q, 0, none⟩) 1 1]) (by show 0 + i * 1 + 1 ≤ M.length; omega) (get_one (by show 0 + i * 1 = i; omega) hMi) ?_; conv => whnf
  repeat' ((first | refine br_t rfl ?_ | refine br_f rfl ?_ | refine IdxN.lit rfl rfl ?_ | intro _); conv => whnf)
  refine IdxN.of (by omega) (by omega) ?_; conv => whnf
  refine LoadN.own 10 rfl (l := [.slice (some ⟨q, 0, none⟩) 1 1]) (by show 0 + i * 1 + 1 ≤ M.length; omega) (get_one (by show 0 + i * 1 = i; omega) hMi) ?_; conv => whnf
  repeat' ((first | refine br_t rfl ?_ | refine br_f rfl ?_ | refine IdxN.lit rfl rfl ?_ | intro _); conv => whnf)
  refine LoadN.of (hq.mono le_auto) 0 rfl rfl ?_; conv => whnf
  repeat' ((first | refine br_t rfl ?_ | refine br_f rfl ?_ | refine IdxN.lit rfl rfl ?_ | intro _); conv => whnf)
  rename_i b1 V2 hV2 g2
  have hcl : (cs.take i).length = i := by rw [List.length_take]; omega
  refine AppN.to (i + 1) rfl (cs.take i) [.slice xb l.length xc] (hxs.mono le_auto) (by rw [hcl]; exact (Nat.mul_one _).symm) g2 rfl rfl (by omega) (by decide) fun base' cap' V3 hV3 hc3 => ?_; conv => whnf
  repeat' ((first | refine br_t rfl ?_ | refine br_f rfl ?_ | refine IdxN.lit rfl rfl ?_ | intro _); conv => whnf)
  refine IdxN.of (by omega) (by omega) ?_; conv => whnf
  refine LoadN.own 10 rfl (l := [.slice (some ⟨q, 0, none⟩) 1 1]) (by show 0 + i * 1 + 1 ≤ M.length; omega) (get_one (by show 0 + i * 1 = i; omega) hMi) ?_; conv => whnf
  refine ⟨⟨_, fun w => slice_loP _ _ (.inr ⟨q, 0, rfl⟩) 1 1 1 underW sizeW (Nat.le_refl _) w, ?_⟩⟩
  conv => whnf
  refine IdxN.of (by omega) (by omega) ?_; conv => whnf
  refine StoN.own 10 rfl (by show 0 + i * 1 + 1 ≤ M.length; omega) ?_; conv => whnf
  repeat' ((first | refine br_t rfl ?_ | refine br_f rfl ?_ | refine IdxN.lit rfl rfl ?_ | intro _); conv => whnf)
  have hwr := wrap_nat (i := i) (by omega)
  rw [hwr]
  have hset : ∀ x, setAt M (0 + i * 1) [x] = M.set i x := fun x => by rw [setAt_one]; congr 1; omega
  refine ⟨j - 1, (i + 1, setAt M (0 + i * 1) [.slice (some ⟨q, 0, none⟩) 0 0], base', cap'), by omega, ?_, ?_, le_auto, by show i + 1 ≤ _; omega, by show ws.length - (i + 1) = _; omega, ?_, ?_, ?_, ?_⟩
  ·repeat' (first | exact sees_nil | refine sees_cons rfl rfl rfl ?_)
  ·repeat' (first | exact keeps_nil | refine keeps_cons rfl ?_ | refine keeps_free ?_)
  ·show ws.length ≤ (setAt M (0 + i * 1) _).length
   rw [hset, List.length_set]; exact hML
  ·intro k hk
   show ∃ b c, (setAt M (0 + i * 1) _)[k]? = _
   rw [hset, List.getElem?_set]
   by_cases hki : i = k
   ·subst hki
    rw [if_pos rfl, if_pos (by omega)]
    exact ⟨_, _, rfl⟩
   ·rw [if_neg hki]
    exact hM0 k (by have : k < i + 1 := hk; omega)
  ·intro k hk hk2
   show (setAt M (0 + i * 1) _)[k]? = _
   have hk : i + 1 ≤ k := hk
   rw [hset, List.getElem?_set, if_neg (by omega)]
   exact hM1 k (by omega) hk2
  ·show V3.cells (.slice base' (i + 1) cap') (cs.take (i + 1))
   rw [take_succV hx]
   exact hc3
 ·have h3 : ¬ i < ws.length := by have := of_decide_eq_false h3; omega
  have hie : i = ws.length := by omega
  subst hie
  repeat' ((first | refine br_t rfl ?_ | refine br_f rfl ?_ | refine IdxN.lit rfl rfl ?_ | intro _); conv => whnf)
  refine CallN.lend 10 rfl fun hle => CallN.pure (concat0_spec M ws.length g cap _ View.add_has hM0 hl) fun v V4 _ hV4 ⟨b, c, hv⟩ => ⟨⟨_, rfl⟩, rfl, ?_⟩
  subst hv; conv => whnf
  repeat' ((first | refine br_t rfl ?_ | refine br_f rfl ?_ | refine IdxN.lit rfl rfl ?_ | intro _); conv => whnf)
  have ht : cs.take ws.length = cs := List.take_of_length_le (by omega)
  rw [ht] at hxs
  refine AppN.toR ws.length rfl cs [] (hxs.mono le_auto) (by rw [hn]; exact (Nat.mul_one _).symm) (.inl rfl) rfl rfl (by omega) (by decide) fun base' cap' V5 hV5 hc5 hcap5 => ?_; conv => whnf
  repeat' ((first | refine br_t rfl ?_ | refine br_f rfl ?_ | refine IdxN.lit rfl rfl ?_ | intro _); conv => whnf)
  rw [List.append_nil] at hc5
  exact ret_pure ⟨_, _, rfl, hc5⟩
end Go.Proofs.LB
end
