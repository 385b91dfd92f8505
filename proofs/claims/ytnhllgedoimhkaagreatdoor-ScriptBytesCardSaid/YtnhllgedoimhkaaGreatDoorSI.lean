/- One part of a proof: an evaluator of the model, shown right, and contracts that it yields. No condition beyond those that each theorem names. -/
import Derived.Test.YtnhllgedoimhkaaGreatDoorSF
set_option linter.unusedSimpArgs false
set_option linter.unusedVariables false
set_option linter.unusedSectionVars false
set_option linter.deprecated false
section
namespace Go.Proofs.LB
open Go.X
set_option maxRecDepth 100000
def spare : List Value := [.int .u8 229, .int .u8 229, .int .u8 229]
theorem slice_capP (t : TypeId) (base : Option Addr) (hp : Plain base) (n cap : Nat) (ht : Tryz.prog.underlying t = some (.slice (Tryz.prog.elem t))) (hz : ∀ w, (sizeOf (Tryz.prog.elem t)).run Tryz.prog w = .ok 1 w) (w : World) :
  (Instr.sliceAt t (.slice base n cap) none (some (.int .i64 (cap : Nat))) none).run Tryz.prog w = .ok (.slice base cap cap) w := slice_hiP t base hp n cap cap ht hz (Nat.le_refl _) w
set_option maxHeartbeats 1000000 in
theorem kept_spec (bs : List UInt8) (g : Nat) (base : Option Addr) (cap : Nat) (V : View) (hx : V.has g 0 (u8L bs ++ spare)) (h : V.cells (.slice base bs.length cap) (u8L bs)) (hl : bs.length ≤ 1000) :
  PSpec 17 [.slice (some ⟨g, 0, none⟩) bs.length (bs.length + 3), .slice base bs.length cap] V (fun v _ => v = .bool true) := by
 have hx1 : V.has g 0 (u8L bs) := fun i v hi => hx i v (by rw [List.getElem?_append_left (List.getElem?_eq_some_iff.1 hi).1]; exact hi)
 have w3 : IntKind.i64.wrap ((bs.length : Int) + 3) = ((bs.length + 3 : Nat) : Int) := by rw [wrapE]; omega
 refine does_of_zfun [] mixed (args := [.v _, .v _]) (ms := []) Tryz.func17 (by kernel_rfl) rfl ?_; conv => whnf
 repeat' ((first | refine br_t rfl ?_ | refine br_f rfl ?_ | refine IdxN.lit rfl rfl ?_ | intro _); conv => whnf)
 refine ⟨⟨_, fun w => slice_capP _ _ (.inr ⟨g, 0, rfl⟩) bs.length (bs.length + 3) underB sizeB1 w, ?_⟩⟩
 conv => whnf
 repeat' ((first | refine br_t rfl ?_ | refine br_f rfl ?_ | refine IdxN.lit rfl rfl ?_ | intro _); conv => whnf)
 refine LoadN.str _ hx1 rfl ?_
 rw [strOf_of]
 conv => whnf
 repeat' ((first | refine br_t rfl ?_ | refine br_f rfl ?_ | refine IdxN.lit rfl rfl ?_ | intro _); conv => whnf)
 rcases base with _ | ⟨p, off, _ | sp⟩
 ·have hb : bs = [] := by
   have : u8L bs = [] := h
   cases bs with
   | nil => rfl
   | cons x l => cases this
  conv => whnf
  refine br_f (by rw [hb]; simp) ?_; conv => whnf
  repeat' ((first | refine br_t rfl ?_ | refine br_f rfl ?_ | refine IdxN.lit rfl rfl ?_ | intro _); conv => whnf)
  rw [w3]
  refine br_f (decide_eq_false (by omega)) ?_; conv => whnf
  repeat' ((first | refine br_t rfl ?_ | refine br_f rfl ?_ | refine IdxN.lit rfl rfl ?_ | intro _); conv => whnf)
  refine loopz (σ := Nat) (fun i => [(0, .v (.slice (some ⟨g, 0, none⟩) bs.length (bs.length + 3))), (1, .v (.slice none bs.length cap)), (5, .v (.slice (some ⟨g, 0, none⟩) (bs.length + 3) (bs.length + 3))), (6, .v (.int .i64 ((bs.length + i : Nat) : Int)))]) (fun _ => []) (fun j i V' => V.le V' ∧ i ≤ 3 ∧ 3 - i = j) 3 0 ?_ ?_ ?_ ?_
  ·repeat' (first | exact sees_nil | refine sees_cons rfl rfl rfl ?_)
  ·exact keeps_nil
  ·exact ⟨View.le_refl _, Nat.zero_le _, rfl⟩
  rintro j i V' ⟨hV, hi, hj⟩
  conv => whnf
  rw [w3]
  apply br <;> intro h5 <;> conv => whnf
  ·have h5 : i < 3 := by have := of_decide_eq_true h5; omega
   have hsp : (u8L bs ++ spare)[bs.length + i]? = some (.int .u8 229) := by
    rw [List.getElem?_append_right (by rw [u8L_len]; omega), u8L_len, Nat.add_sub_cancel_left]
    match i, h5 with
    | 0, _ => rfl
    | 1, _ => rfl
    | 2, _ => rfl
   have hcell := has_one hx hsp
   refine IdxN.of (by omega) (by omega) ?_; conv => whnf
   refine LoadN.of (hcell.mono le_auto) 0 (by show 0 + (bs.length + i) * 1 = 0 + (bs.length + i) + 0; omega) rfl ?_; conv => whnf
   repeat' ((first | refine br_t rfl ?_ | refine br_f rfl ?_ | refine IdxN.lit rfl rfl ?_ | intro _); conv => whnf)
   have hw : IntKind.i64.wrap (((bs.length + i : Nat) : Int) + 1) = ((bs.length + (i + 1) : Nat) : Int) := by rw [wrapE]; omega
   refine ⟨j - 1, i + 1, by omega, ?_, keeps_nil, hV, h5, by omega⟩
   repeat' (first | exact sees_nil | refine sees_cons rfl rfl rfl ?_ | refine sees_cons rfl rfl (by rw [← hw]; rfl) ?_)
  ·repeat' ((first | refine br_t rfl ?_ | refine br_f rfl ?_ | refine IdxN.lit rfl rfl ?_ | intro _); conv => whnf)
   exact ret_pure rfl
 ·have h : V.has p off (u8L bs) := h
  refine LoadN.str _ h rfl ?_
  rw [strOf_of]
  conv => whnf
  refine br_f (by simp) ?_; conv => whnf
  repeat' ((first | refine br_t rfl ?_ | refine br_f rfl ?_ | refine IdxN.lit rfl rfl ?_ | intro _); conv => whnf)
  rw [w3]
  refine br_f (decide_eq_false (by omega)) ?_; conv => whnf
  repeat' ((first | refine br_t rfl ?_ | refine br_f rfl ?_ | refine IdxN.lit rfl rfl ?_ | intro _); conv => whnf)
  refine loopz (σ := Nat) (fun i => [(0, .v (.slice (some ⟨g, 0, none⟩) bs.length (bs.length + 3))), (1, .v (.slice (some ⟨p, off, none⟩) bs.length cap)), (5, .v (.slice (some ⟨g, 0, none⟩) (bs.length + 3) (bs.length + 3))), (6, .v (.int .i64 ((bs.length + i : Nat) : Int)))]) (fun _ => []) (fun j i V' => V.le V' ∧ i ≤ 3 ∧ 3 - i = j) 3 0 ?_ ?_ ?_ ?_
  ·repeat' (first | exact sees_nil | refine sees_cons rfl rfl rfl ?_)
  ·exact keeps_nil
  ·exact ⟨View.le_refl _, Nat.zero_le _, rfl⟩
  rintro j i V' ⟨hV, hi, hj⟩
  conv => whnf
  rw [w3]
  apply br <;> intro h5 <;> conv => whnf
  ·have h5 : i < 3 := by have := of_decide_eq_true h5; omega
   have hsp : (u8L bs ++ spare)[bs.length + i]? = some (.int .u8 229) := by
    rw [List.getElem?_append_right (by rw [u8L_len]; omega), u8L_len, Nat.add_sub_cancel_left]
    match i, h5 with
    | 0, _ => rfl
    | 1, _ => rfl
    | 2, _ => rfl
   have hcell := has_one hx hsp
   refine IdxN.of (by omega) (by omega) ?_; conv => whnf
   refine LoadN.of (hcell.mono le_auto) 0 (by show 0 + (bs.length + i) * 1 = 0 + (bs.length + i) + 0; omega) rfl ?_; conv => whnf
   repeat' ((first | refine br_t rfl ?_ | refine br_f rfl ?_ | refine IdxN.lit rfl rfl ?_ | intro _); conv => whnf)
   have hw : IntKind.i64.wrap (((bs.length + i : Nat) : Int) + 1) = ((bs.length + (i + 1) : Nat) : Int) := by rw [wrapE]; omega
   refine ⟨j - 1, i + 1, by omega, ?_, keeps_nil, hV, h5, by omega⟩
   repeat' (first | exact sees_nil | refine sees_cons rfl rfl rfl ?_ | refine sees_cons rfl rfl (by rw [← hw]; rfl) ?_)
  ·repeat' ((first | refine br_t rfl ?_ | refine br_f rfl ?_ | refine IdxN.lit rfl rfl ?_ | intro _); conv => whnf)
   exact ret_pure rfl
 ·exact h.elim
set_option maxHeartbeats 1000000 in
theorem spoil_spec (g n c : Nat) (cells : List Value) (V : View) (hl : cells.length = c) (hc : c ≤ 2000) :
  Does Tryz.prog 18 [.slice (some ⟨g, 0, none⟩) n c] V [.box g 5 cells] (fun v _ bs => ∃ cells', bs = [.box g 5 cells']) := by
 refine does_of_zfun [] mixed (args := [.v _]) (ms := [(1000, .box g 5 cells)]) Tryz.func18 (by kernel_rfl) rfl ?_; conv => whnf
 repeat' ((first | refine br_t rfl ?_ | refine br_f rfl ?_ | refine IdxN.lit rfl rfl ?_ | intro _); conv => whnf)
 refine ⟨⟨_, fun w => slice_capP _ _ (.inr ⟨g, 0, rfl⟩) n c underB sizeB1 w, ?_⟩⟩
 conv => whnf
 repeat' ((first | refine br_t rfl ?_ | refine br_f rfl ?_ | refine IdxN.lit rfl rfl ?_ | intro _); conv => whnf)
 refine loopz (σ := Nat × List Value) (fun z => [(2, .v (.slice (some ⟨g, 0, none⟩) c c)), (3, .v (.int .i64 (z.1 : Int)))]) (fun z => [(1000, .box g 5 z.2)]) (fun j z V' => V.le V' ∧ z.1 ≤ c ∧ c - z.1 = j ∧ z.2.length = c) c (0, cells) ?_ ?_ ?_ ?_
 ·repeat' (first | exact sees_nil | refine sees_cons rfl rfl rfl ?_)
 ·repeat' (first | exact keeps_nil | refine keeps_cons rfl ?_ | refine keeps_free ?_)
 ·exact ⟨View.le_refl _, Nat.zero_le _, Nat.sub_zero _, hl⟩
 rintro j ⟨i, M⟩ V' ⟨hV, hi, hj, hM⟩
 simp only at hi hj hM
 conv => whnf
 apply br <;> intro h3 <;> conv => whnf
 ·have h3 : i < c := by have := of_decide_eq_true h3; omega
  refine IdxN.of (by omega) (by omega) ?_; conv => whnf
  refine StoN.own 1000 rfl (by show 0 + i * 1 + 1 ≤ M.length; omega) ?_; conv => whnf
  repeat' ((first | refine br_t rfl ?_ | refine br_f rfl ?_ | refine IdxN.lit rfl rfl ?_ | intro _); conv => whnf)
  have hwr := wrap_nat (i := i) (by omega)
  rw [hwr]
  refine ⟨j - 1, (i + 1, setAt M (0 + i * 1) [.int .u8 90]), by omega, ?_, ?_, hV, by show i + 1 ≤ _; omega, by show c - (i + 1) = _; omega, ?_⟩
  ·repeat' (first | exact sees_nil | refine sees_cons rfl rfl rfl ?_)
  ·repeat' (first | exact keeps_nil | refine keeps_cons rfl ?_ | refine keeps_free ?_)
  ·show (setAt M (0 + i * 1) _).length = c
   rw [setAt_one, List.length_set]; exact hM
 ·repeat' ((first | refine br_t rfl ?_ | refine br_f rfl ?_ | refine IdxN.lit rfl rfl ?_ | intro _); conv => whnf)
  exact ⟨[1000], by simp, [_], rfl, M, rfl⟩
def TwinOk : Prop := ∀ (bs : List UInt8) (base : Option Addr) (cap : Nat) (V : View), V.cells (.slice base bs.length cap) (u8L bs) → bs.length ≤ cap → bs.length ≤ 1000 →
 Does Tryz.prog 15 [.slice base bs.length cap] V [] (fun v V' r => V' = V ∧ ∃ g, v = .slice (some ⟨g, 0, none⟩) bs.length (bs.length + 3) ∧ r = [.box g 5 (u8L bs ++ spare)])
theorem vals_cut {V' : View} {l : List Val} {base : Option Addr} {b : Nat} {bs : List UInt8} (h : ValsAt V' l base) (hb : ∀ o u, V' b o = some u → (u8L bs)[o]? = some u) : ValsAt (V'.cut b) l base := by
 refine ⟨fun hn => ?_, h.len⟩
 obtain ⟨p, off, h1, h2⟩ := h.has hn
 refine ⟨p, off, h1, fun i v hi => ?_⟩
 have hp : p ≠ b := by
  rintro rfl
  obtain ⟨r, l', rfl⟩ := List.exists_cons_of_ne_nil hn
  have := hb _ _ (h2 0 (.int .i64 r.k) rfl)
  have := List.mem_of_getElem? this
  obtain ⟨x, _, hx⟩ := List.mem_map.1 this
  cases hx
 exact View.cut_of (h2 i v hi) hp
set_option maxHeartbeats 400000 in
theorem scriptbytes_spec (htwin : TwinOk) (hbeg : ∀ V, PSpec 13 [] V (fun v _ => v = .bool true)) (bs : List UInt8) (base : Option Addr) (cap : Nat) (l : List Val) (lb : Option Addr) (lc : Nat) (V : View)
  (h : V.cells (.slice base bs.length cap) (u8L bs)) (hc : bs.length ≤ cap) (hs : ValsAt V l lb) :
  PSpec 4 [.slice base bs.length cap, .slice lb l.length lc] V (fun v _ => v = .bool true) := by
 refine does_of_zfun [(9, [(0, []), (1, []), (2, []), (3, []), (4, []), (5, []), (6, []), (7, []), (8, []), (11, []), (9, []), (10, []), (12, []), (13, []), (14, []), (15, []), (16, [])])] mixed (args := [.v _, .v _]) (ms := []) Tryz.func4 (by kernel_rfl) rfl ?_; conv => whnf
 refine CallN.pure (hbeg _) fun v V1 _ hV1 hv => ?_
 subst hv; conv => whnf
 repeat' ((first | refine br_t rfl ?_ | refine br_f rfl ?_ | refine IdxN.lit rfl rfl ?_ | intro _); conv => whnf)
 apply br <;> intro h3 <;> conv => whnf
 ·repeat' ((first | refine br_t rfl ?_ | refine br_f rfl ?_ | refine IdxN.lit rfl rfl ?_ | intro _); conv => whnf)
  exact ret_pure rfl
 have h3 : bs.length ≤ 1000 := by have := of_decide_eq_false h3; omega
 repeat' ((first | refine br_t rfl ?_ | refine br_f rfl ?_ | refine IdxN.lit rfl rfl ?_ | intro _); conv => whnf)
 refine CallN.pure (light_spec l lb lc 40 _ (hs.mono le_auto) (by decide)) fun v V2 _ hV2 ⟨b, hv, hb⟩ => ?_
 subst hv; conv => whnf
 apply br <;> intro h4 <;> conv => whnf
 ·repeat' ((first | refine br_t rfl ?_ | refine br_f rfl ?_ | refine IdxN.lit rfl rfl ?_ | intro _); conv => whnf)
  exact ret_pure rfl
 have h4 : b = true := by simpa using h4
 obtain ⟨h5, _⟩ := hb h4
 repeat' ((first | refine br_t rfl ?_ | refine br_f rfl ?_ | refine IdxN.lit rfl rfl ?_ | intro _); conv => whnf)
 refine CallN.new 19 rfl (htwin bs base cap _ (h.mono le_auto) hc h3) fun v V3 r hV3 ⟨hVe, g, hv, hr⟩ => ⟨_, .v (.slice (some ⟨g, 0, none⟩) bs.length (bs.length + 3)), hr, by subst hv; rfl, ?_⟩
 subst hVe; subst hv
 conv => whnf
 repeat' ((first | refine br_t rfl ?_ | refine br_f rfl ?_ | refine IdxN.lit rfl rfl ?_ | intro _); conv => whnf)
 refine CallN.lendP (pre := u8L bs) (ex := spare) 19 rfl fun hle => CallN.pure (decode_spec bs (some ⟨g, 0, none⟩) (bs.length + 3) _ (.inr View.add_has) (by omega) h3) fun v V4 _ hV4 ⟨b1, c1, hv, hs1⟩ => ⟨⟨_, rfl⟩, rfl, fun hbk hcut => ?_⟩
 subst hv
 have hs1 := vals_cut hs1 hbk
 have hVV : V.le (V4.cut g) := View.le_trans hV1 (View.le_trans hV2 hcut)
 clear hcut hle hV3
 conv => whnf
 repeat' ((first | refine br_t rfl ?_ | refine br_f rfl ?_ | refine IdxN.lit rfl rfl ?_ | intro _); conv => whnf)
 refine CallN.lend 19 rfl fun hle2 => CallN.pure (kept_spec bs g base cap _ View.add_has ((h.mono hVV).mono hle2) h3) fun v V5 _ hV5 hv => ⟨⟨_, rfl⟩, rfl, ?_⟩
 subst hv; conv => whnf
 repeat' ((first | refine br_t rfl ?_ | refine br_f rfl ?_ | refine IdxN.lit rfl rfl ?_ | intro _); conv => whnf)
 refine CallN.box 19 rfl (spoil_spec g bs.length (bs.length + 3) _ _ (by rw [List.length_append, u8L_len]; rfl) (by omega)) fun v V6 r2 hV6 ⟨cells', hr2⟩ => ⟨_, _, hr2, ?_⟩
 conv => whnf
 repeat' ((first | refine br_t rfl ?_ | refine br_f rfl ?_ | refine IdxN.lit rfl rfl ?_ | intro _); conv => whnf)
 have hV7 : V.le V6 := View.le_trans hVV hV6
 have hs1 := hs1.mono hV6
 clear hle2 hV5 hV4 hbk hV6 hVV hV1 hV2
 refine CallN.pure (rdecode_spec bs base cap _ (.inr (h.mono hV7)) hc h3) fun v V8 _ hV8 ⟨b2, c2, hv, hs2⟩ => ?_
 subst hv
 refine Prot.refl ?_; conv => whnf
 repeat' ((first | refine br_t rfl ?_ | refine br_f rfl ?_ | refine IdxN.lit rfl rfl ?_ | intro _); conv => whnf)
 refine CallN.pure (samesteps_spec (decS bs) b1 b2 c1 c2 _ (hs1.mono hV8) hs2) fun v V9 _ hV9 hv => ?_
 subst hv
 refine Prot.refl ?_; conv => whnf
 repeat' ((first | refine br_t rfl ?_ | refine br_f rfl ?_ | refine IdxN.lit rfl rfl ?_ | intro _); conv => whnf)
 have hVA : V.le V9 := View.le_trans hV7 (View.le_trans hV8 hV9)
 refine CallN.pure (encode_spec l lb lc _ (hs.mono hVA) (by omega)) fun v V10 _ hV10 ⟨e1, f1, hv, he1, _⟩ => ?_
 subst hv
 refine Prot.refl ?_; conv => whnf
 have nil : ∀ {r : List UInt8}, u8L r = [] → r = [] := fun {r} hh => by
  cases r with
  | nil => rfl
  | cons x r => cases hh
 generalize hE : encS l = E at *
 rcases e1 with _ | ⟨p1, o1, _ | sp1⟩
 ·have hb1 := nil (show u8L E = [] from he1)
  conv => whnf
  repeat' ((first | refine br_t rfl ?_ | refine br_f rfl ?_ | refine IdxN.lit rfl rfl ?_ | intro _); conv => whnf)
  refine CallN.pure (rencode_spec l lb lc _ (hs.mono (View.le_trans hVA hV10)) (by omega)) fun v V11 _ hV11 hv => ?_
  rw [hE] at hv
  obtain ⟨e2, f2, hv, he2, _⟩ := hv
  subst hv
  refine Prot.refl ?_; conv => whnf
  rcases e2 with _ | ⟨p2, o2, _ | sp2⟩
  ·have hb2 := nil (show u8L E = [] from he2)
   conv => whnf
   repeat' ((first | refine br_t rfl ?_ | refine br_f rfl ?_ | refine IdxN.lit rfl rfl ?_ | intro _); conv => whnf)
   exact ret_pure (show Value.bool _ = Value.bool true from congrArg Value.bool (by first | (simp; done) | (simp [hb1]; done) | (simp [hb2]; done)))
  ·have he2 : V11.has p2 o2 (u8L E) := he2
   conv => whnf
   refine br_t rfl ?_; conv => whnf
   refine LoadN.str _ he2 rfl ?_
   rw [strOf_of]
   conv => whnf
   repeat' ((first | refine br_t rfl ?_ | refine br_f rfl ?_ | refine IdxN.lit rfl rfl ?_ | intro _); conv => whnf)
   exact ret_pure (show Value.bool _ = Value.bool true from congrArg Value.bool (by first | (simp; done) | (simp [hb1]; done)))
  ·exact he2.elim
 ·have he1 : V10.has p1 o1 (u8L E) := he1
  conv => whnf
  refine br_t rfl ?_; conv => whnf
  refine LoadN.str _ he1 rfl ?_
  rw [strOf_of]
  conv => whnf
  repeat' ((first | refine br_t rfl ?_ | refine br_f rfl ?_ | refine IdxN.lit rfl rfl ?_ | intro _); conv => whnf)
  refine CallN.pure (rencode_spec l lb lc _ (hs.mono (View.le_trans hVA hV10)) (by omega)) fun v V11 _ hV11 hv => ?_
  rw [hE] at hv
  obtain ⟨e2, f2, hv, he2, _⟩ := hv
  subst hv
  refine Prot.refl ?_; conv => whnf
  rcases e2 with _ | ⟨p2, o2, _ | sp2⟩
  ·have hb2 := nil (show u8L E = [] from he2)
   conv => whnf
   repeat' ((first | refine br_t rfl ?_ | refine br_f rfl ?_ | refine IdxN.lit rfl rfl ?_ | intro _); conv => whnf)
   exact ret_pure (show Value.bool _ = Value.bool true from congrArg Value.bool (by first | (simp; done) | (simp [hb1]; done) | (simp [hb2]; done)))
  ·have he2 : V11.has p2 o2 (u8L E) := he2
   conv => whnf
   refine br_t rfl ?_; conv => whnf
   refine LoadN.str _ he2 rfl ?_
   rw [strOf_of]
   conv => whnf
   repeat' ((first | refine br_t rfl ?_ | refine br_f rfl ?_ | refine IdxN.lit rfl rfl ?_ | intro _); conv => whnf)
   exact ret_pure (show Value.bool _ = Value.bool true from congrArg Value.bool (by first | (simp; done) | (simp [hb1]; done)))
  ·exact he2.elim
 ·exact he1.elim
end Go.Proofs.LB
end
