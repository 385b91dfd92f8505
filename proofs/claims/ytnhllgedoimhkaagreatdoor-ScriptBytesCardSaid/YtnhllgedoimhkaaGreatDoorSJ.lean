/- One part of a proof: an evaluator of the model, shown right, and contracts that it yields. No condition beyond those that each theorem names. -/
import Derived.Test.YtnhllgedoimhkaaGreatDoorSI
import Derived.Test.YtnhllgedoimhkaaGreatDoorXY
import Derived.Deep.OwnRows
import Derived.Laws.CopyOwn
set_option linter.unusedSimpArgs false
set_option linter.unusedVariables false
set_option linter.unusedSectionVars false
set_option linter.deprecated false
section
namespace Go.Proofs.LB
open Go.X Go.RowKit
set_option maxRecDepth 100000
theorem info8 : (Tryz.prog.info? 5).map (fun i => (i.zero, i.size, i.bytes)) = some (some (.int .u8 0), 1, 1) := by kernel_rfl
theorem sz8 : (Tryz.prog.info? 5).map (·.size) = some 1 := by kernel_rfl
def twS (b : Value) (n : Nat) : St := (((St.put ⟨initEnv [.v b] 0, memOf []⟩ (some 2) (.v (.slice none 0 0))).put (some 5) (.v b)).put (some 6) (.v (.int .i64 (n : Int)))).put (some 7) (.v (.int .i64 (IntKind.i64.wrap ((n : Int) + 3))))
def twM (b : Value) (n g : Nat) (Z : List Value) : St := ((twS b n).newBox 8 (.box g 5 Z)).put (some 8) (.v (.slice (some ⟨g, 0, none⟩) (n + 3) (n + 3)))
def twN (b : Value) (n g : Nat) (Z : List Value) : St := (twM b n g Z).put (some 3) (.v (.slice (some ⟨g, 0, none⟩) (n + 3) (n + 3)))
def twO (b : Value) (n g : Nat) (Z : List Value) : St := (twN b n g Z).put (some 9) (.v (.slice (some ⟨g, 0, none⟩) (n + 3) (n + 3)))
def twP (b : Value) (n g : Nat) (Z : List Value) : St := (twO b n g Z).put (some 10) (.v b)
def twQ (b : Value) (n g : Nat) (Z Y : List Value) : St := St.put ⟨(twP b n g Z).env, upd (twP b n g Z).mem 8 (.box g 5 Y)⟩ (some 11) (.v (.int .i64 (n : Int)))
def twRest : Option Code → Code
 | some (.seq _ (.seq _ (.seq _ c))) => c
 | _ => .skip
set_option maxHeartbeats 1000000 in
theorem twin_ok : TwinOk := by
 intro bs base cap V h hc hl w hp
 obtain ⟨i, hi, hzz⟩ := Option.map_eq_some_iff.1 info8
 simp only [Prod.mk.injEq] at hzz
 obtain ⟨hz, hs, hb⟩ := hzz
 have w3 : IntKind.i64.wrap ((bs.length : Int) + 3) = ((bs.length + 3 : Nat) : Int) := by rw [wrapE]; omega
 have key : ∀ a, Inv w (blksM (memOf [])) V 27 ⟨initEnv [.v (.slice base bs.length cap)] 0, memOf []⟩ V a w → Code.wp Tryz.prog (Tryz.f15.body.get!) (bodyPost Tryz.prog Tryz.f15 fun e w' => ∃ v V' bs', e = .returned v ∧ (V' = V ∧ ∃ g, v = .slice (some ⟨g, 0, none⟩) bs.length (bs.length + 3) ∧ bs' = [.box g 5 (u8L bs ++ spare)]) ∧ Pre V' bs' w' ∧ Kept (blksOf []) w w' ∧ Grows (blksOf []) w.heap.size V V' ∧ ∀ b, blksOf bs' b → blksOf [] b ∨ w.heap.size ≤ b) a w := by
  intro a inv
  show Code.wp _ (.seq _ (.seq _ (.seq _ _))) _ _ _
  refine wp_seq (wp_region_list (wpList_plain rfl fun K hK => xop_sound inv (K := fun st' V' => V' = V ∧ st' = (St.put ⟨initEnv [.v (.slice base bs.length cap)] 0, memOf []⟩ (some 2) (.v (.slice none 0 0)))) ⟨rfl, rfl⟩ (fun d hd => by cases hd; decide) fun st' V' a1 w1 inv ⟨hv, hst⟩ => hK _ _ ?_))
  subst hv; subst hst
  clear hK K
  show Code.wp _ (.seq _ (.seq _ (.seq _ _))) _ _ _
  refine wp_seq (wp_region_list (wpList_plain rfl fun K hK => xop_sound inv (K := fun st' V'' => V'' = V' ∧ st' = (St.put (St.put ⟨initEnv [.v (.slice base bs.length cap)] 0, memOf []⟩ (some 2) (.v (.slice none 0 0))) (some 5) (.v (.slice base bs.length cap)))) ⟨rfl, rfl⟩ (fun d hd => by cases hd; decide) fun st' V'' a2 w2 inv ⟨hv, hst⟩ => hK _ _ ?_))
  subst hv; subst hst
  clear hK K
  refine wpList_plain rfl fun K hK => xop_sound inv (K := fun st' V3 => V3 = V'' ∧ st' = (St.put (St.put (St.put ⟨initEnv [.v (.slice base bs.length cap)] 0, memOf []⟩ (some 2) (.v (.slice none 0 0))) (some 5) (.v (.slice base bs.length cap))) (some 6) (.v (.int .i64 (bs.length : Int))))) ⟨rfl, rfl⟩ (fun d hd => by cases hd; decide) fun st' V3 a3 w3' inv ⟨hv, hst⟩ => hK _ _ ?_
  subst hv; subst hst
  clear hK K
  refine wpList_plain rfl fun K hK => xop_sound inv (K := fun st' V4 => V4 = V3 ∧ st' = twS (.slice base bs.length cap) bs.length) ⟨rfl, rfl⟩ (fun d hd => by cases hd; decide) fun st' V4 a4 w4 inv ⟨hv, hst⟩ => hK _ _ ?_
  subst hv; subst hst
  clear hK K
  have e7 : a4.eval (.tmp 7) = .int .i64 ((bs.length + 3 : Nat) : Int) := by rw [← w3]; exact inv.val (x := .tmp 7) rfl
  refine wpList_make_row _ rfl (.tmp 7) (.tmp 7) 37 rfl 5 i (.int .u8 0) Tryz.underlying37 hi hz hs rfl .i64 .i64 (bs.length + 3) e7 e7 (by rw [hb]; omega) (by omega) ?_
  obtain ⟨Z, hZ⟩ : ∃ Z, Z = (madeCells #[Value.int .u8 0] (bs.length + 3)).toList := ⟨_, rfl⟩
  have hZa : Z.toArray = madeCells #[Value.int .u8 0] (bs.length + 3) := by rw [hZ]
  have hZl : Z.length = bs.length + 3 := by rw [hZ]; simp [madeCells]
  have inv5 := (inv.newBox (d := 8) (by decide) 5 Z).put (dst := some 8) (s := .v (.slice (some ⟨w4.heap.size, 0, none⟩) (bs.length + 3) (bs.length + 3))) (fun d hd => by cases hd; decide) rfl
  rw [hZa] at inv5
  have hput : ∀ (a : Act) (x y : Value), (a.put (some 8) x).put (some 8) y = a.put (some 8) y := fun a x y => by simp [Act.put]
  rw [hput] at inv5
  generalize w4.heap.size = g at inv5 ⊢
  generalize w4.alloc _ = w5 at inv5 ⊢
  generalize a4.put (some 8) _ = a5 at inv5 ⊢
  have inv5 : Inv w (blksM (memOf [])) V4 27 (twM (.slice base bs.length cap) bs.length g Z) V4 a5 w5 := inv5
  refine wpList_plain rfl fun K hK => xop_sound inv5 (K := fun st' V5 => V5 = V4 ∧ st' = twN (.slice base bs.length cap) bs.length g Z) ⟨rfl, rfl⟩ (fun d hd => by cases hd; decide) fun st' V5 a6 w6 inv ⟨hv, hst⟩ => hK _ _ ?_
  subst hv; subst hst
  clear hK K
  show Code.wp _ (.seq _ (.seq _ _)) _ _ _
  refine wp_seq (wp_region_list ?_)
  refine wpList_plain rfl fun K hK => xop_sound inv (K := fun st' V6 => V6 = V5 ∧ st' = twO (.slice base bs.length cap) bs.length g Z) ⟨rfl, rfl⟩ (fun d hd => by cases hd; decide) fun st' V6 a7 w7 inv ⟨hv, hst⟩ => hK _ _ ?_
  subst hv; subst hst
  clear hK K
  refine wpList_plain rfl fun K hK => xop_sound inv (K := fun st' V7 => V7 = V6 ∧ st' = twP (.slice base bs.length cap) bs.length g Z) ⟨rfl, rfl⟩ (fun d hd => by cases hd; decide) fun st' V7 a8 w8 inv ⟨hv, hst⟩ => hK _ _ ?_
  subst hv; subst hst
  clear hK K
  have ed : a8.eval (.tmp 9) = .slice (some ⟨g, 0, none⟩) (bs.length + 3) (bs.length + 3) := inv.val (x := .tmp 9) rfl
  have es : a8.eval (.tmp 10) = .slice base bs.length cap := inv.val (x := .tmp 10) rfl
  have hbox := (inv.boxAt (id := 8) rfl).1
  have rest : ∀ (X : List Value) (a9 : Act) (w9 : World), X.length = 3 → Inv w (blksM (memOf [])) V7 27 (twQ (.slice base bs.length cap) bs.length g Z (u8L bs ++ X)) V7 a9 w9 → Code.wp Tryz.prog (twRest Tryz.f15.body) (bodyPost Tryz.prog Tryz.f15 fun e w' => ∃ v V' bs', e = .returned v ∧ (V' = V7 ∧ ∃ g, v = .slice (some ⟨g, 0, none⟩) bs.length (bs.length + 3) ∧ bs' = [.box g 5 (u8L bs ++ spare)]) ∧ Pre V' bs' w' ∧ Kept (blksOf []) w w' ∧ Grows (blksOf []) w.heap.size V7 V' ∧ ∀ b, blksOf bs' b → blksOf [] b ∨ w.heap.size ≤ b) a9 w9 := by
   intro X a9 w9 hX inv
   refine body_of_zcode (R := fun v V' bs' => V' = V7 ∧ ∃ g, v = .slice (some ⟨g, 0, none⟩) bs.length (bs.length + 3) ∧ bs' = [.box g 5 (u8L bs ++ spare)]) [] mixed ?_ inv ?_
   ·kernel_rfl
   ·have w4' : ∀ i : Nat, i ≤ 3 → IntKind.i64.wrap (((bs.length + i : Nat) : Int) + 1) = ((bs.length + (i + 1) : Nat) : Int) := fun i _ => by rw [wrapE]; omega
    conv => whnf
    repeat' ((first | refine br_t rfl ?_ | refine br_f rfl ?_ | refine IdxN.lit rfl rfl ?_ | intro _); conv => whnf)
    obtain ⟨x0, x1, x2, rfl⟩ : ∃ x0 x1 x2, X = [x0, x1, x2] := by
     match X, hX with
     | [a, b, c], _ => exact ⟨a, b, c, rfl⟩
    refine loopz (σ := Nat × List Value) (fun z => [(0, .v (.slice base bs.length cap)), (3, .v (.slice (some ⟨g, 0, none⟩) (bs.length + 3) (bs.length + 3))), (4, .v (.int .i64 ((bs.length + z.1 : Nat) : Int)))]) (fun z => [(8, .box g 5 z.2)]) (fun j z V' => V' = V7 ∧ z.1 ≤ 3 ∧ 3 - z.1 = j ∧ z.2 = u8L bs ++ (spare.take z.1 ++ [x0, x1, x2].drop z.1)) 3 (0, u8L bs ++ [x0, x1, x2]) ?_ ?_ ?_ ?_
    ·repeat' (first | exact sees_nil | refine sees_cons rfl rfl rfl ?_)
    ·repeat' (first | exact keeps_nil | refine keeps_cons rfl ?_ | refine keeps_free ?_)
    ·exact ⟨rfl, Nat.zero_le _, rfl, rfl⟩
    rintro j ⟨i, M⟩ V' ⟨rfl, hi, hj, hM⟩
    simp only at hi hj hM
    have hMl : M.length = bs.length + 3 := by
     rw [hM, List.length_append, u8L_len, List.length_append, List.length_take, List.length_drop]
     show bs.length + (min i 3 + (3 - i)) = _
     omega
    conv => whnf
    apply br <;> intro h3 <;> conv => whnf
    ·have h3 : i < 3 := by have := of_decide_eq_true h3; omega
     refine IdxN.of (by omega) (by omega) ?_; conv => whnf
     refine StoN.own 8 rfl (by show 0 + (bs.length + i) * 1 + 1 ≤ M.length; omega) ?_; conv => whnf
     repeat' ((first | refine br_t rfl ?_ | refine br_f rfl ?_ | refine IdxN.lit rfl rfl ?_ | intro _); conv => whnf)
     rw [w4' i (by omega)]
     refine ⟨j - 1, (i + 1, setAt M (0 + (bs.length + i) * 1) [.int .u8 229]), by omega, ?_, ?_, rfl, h3, by show 3 - (i + 1) = _; omega, ?_⟩
     ·repeat' (first | exact sees_nil | refine sees_cons rfl rfl rfl ?_)
     ·repeat' (first | exact keeps_nil | refine keeps_cons rfl ?_ | refine keeps_free ?_)
     ·show setAt M (0 + (bs.length + i) * 1) [.int .u8 229] = _
      rw [setAt_one, hM, List.set_append_right _ _ (by rw [u8L_len]; omega), u8L_len, show 0 + (bs.length + i) * 1 - bs.length = i by omega]
      match i, h3 with
      | 0, _ => rfl
      | 1, _ => rfl
      | 2, _ => rfl
    ·have h3 : i = 3 := by have := of_decide_eq_false h3; omega
     subst h3
     repeat' ((first | refine br_t rfl ?_ | refine br_f rfl ?_ | refine IdxN.lit rfl rfl ?_ | intro _); conv => whnf)
     refine ⟨⟨_, fun w => slice_hiP _ _ (.inr ⟨g, 0, rfl⟩) (bs.length + 3) (bs.length + 3) bs.length underB sizeB1 (by omega) w, ?_⟩⟩
     conv => whnf
     repeat' ((first | refine br_t rfl ?_ | refine br_f rfl ?_ | refine IdxN.lit rfl rfl ?_ | intro _); conv => whnf)
     exact ⟨[8], by simp, [_], rfl, rfl, g, rfl, by rw [hM]; rfl⟩
  by_cases h0 : bs.length = 0
  ·refine wpList_copy_nothing rfl (.tmp 9) (.tmp 10) 37 37 rfl 5 Tryz.underlying37 sz8 (some ⟨g, 0, none⟩) base (bs.length + 3) (bs.length + 3) bs.length cap ed es (by simp [h0]) ?_
   refine rest Z _ _ (by omega) ?_
   have hbs : u8L bs = [] := List.eq_nil_of_length_eq_zero (by rw [u8L_len]; exact h0)
   have he : (⟨(twP (.slice base bs.length cap) bs.length g Z).env, upd (twP (.slice base bs.length cap) bs.length g Z).mem 8 (.box g 5 (u8L bs ++ Z))⟩ : St) = twP (.slice base bs.length cap) bs.length g Z := by
    rw [hbs, List.nil_append]
    have hm : (twP (.slice base bs.length cap) bs.length g Z).mem 8 = some (.box g 5 Z) := rfl
    generalize twP (.slice base bs.length cap) bs.length g Z = s at hm
    cases s with
    | mk e m =>
     congr 1
     funext k
     by_cases hk : k = 8
     ·subst hk; rw [upd_same]; exact hm.symm
     ·rw [upd_ne _ _ hk]
   have hp2 := inv.put (dst := some 11) (s := .v (.int .i64 (bs.length : Int))) (v := .int .i64 (bs.length : Int)) (fun d hd => by cases hd; decide) rfl
   rw [← he] at hp2
   have hg0 : goInt 0 = Value.int .i64 (bs.length : Int) := by rw [h0]; rfl
   rw [hg0]
   exact hp2
  ·obtain ⟨p, off, hb2, hh⟩ := cells_some h (fun e => h0 (by rw [← u8L_len, e]; rfl))
   refine wpList_copy_own rfl (.tmp 9) (.tmp 10) 37 37 rfl 5 Tryz.underlying37 sz8 g 0 (bs.length + 3) (bs.length + 3) ⟨p, off, none⟩ bs.length cap ed (by rw [es, hb2]) Z.toArray 5 hbox (u8L bs) (by rw [u8L_len]; simp [Nat.min_def]) (fun j v hj => by rw [add_lit]; exact inv.mp.sub _ _ _ (hh j v hj)) (by simp [u8L_len]; omega) (fun v hv => allOne_spec (one_u8L bs) v hv) ?_
   refine rest (Z.drop bs.length) _ _ (by rw [List.length_drop]; omega) ?_
   have hst := (inv.store (id := 8) (b := g) (t := 5) (old := Z) (new := u8L bs ++ Z.drop bs.length) rfl).put (dst := some 11) (s := .v (.int .i64 (bs.length : Int))) (v := .int .i64 (bs.length : Int)) (fun d hd => by cases hd; decide) rfl
   have hg1 : goInt ((u8L bs).length : Nat) = Value.int .i64 (bs.length : Int) := by rw [u8L_len]; rfl
   rw [hg1]
   have hw9 : (Z.toArray.toList.take 0 ++ (u8L bs ++ Z.toArray.toList.drop (0 + (u8L bs).length))).toArray = (u8L bs ++ Z.drop bs.length).toArray := by simp [u8L_len]
   rw [hw9]
   exact hst
 exact calls_of_wp (c := Tryz.f15.body.get!) Tryz.func15 rfl (key _ (inv_init (pre_memOf (ms := []) hp) rfl (show 1 ≤ 27 by decide)))
end Go.Proofs.LB
end
