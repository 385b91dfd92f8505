/- One part of a proof: an evaluator of the model, shown right, and contracts that it yields. No condition beyond those that each theorem names. -/
import Derived.Sort.WalkA
import Derived.Lib.RowBridge
import Derived.Test.YtnhllgedoimhkaaGreatDoorProg
import Derived.Test.YtnhllgedoimhkaaGreatDoorZI
set_option linter.unusedSimpArgs false
set_option linter.unusedVariables false
set_option linter.unusedSectionVars false
set_option linter.deprecated false
section
namespace Go.Proofs
open Go.RowKit Go.Sort
section so426
set_option maxHeartbeats 1000000 in
theorem nan242 (x : Int) (w : World) : Calls Tryz.prog 242 #[.int .i64 x] w fun e w' => e = .returned (.bool false) ∧ w' = w := by
 go_enter Tryz.func242, Tryz.ntmps242
 go_wp2
 go_ret
 exact ⟨rfl, rfl⟩
set_option maxHeartbeats 1000000 in
theorem less432 (x y : Int) (w : World) : Calls Tryz.prog 432 #[.int .i64 x, .int .i64 y] w fun e w' => e = .returned (.bool (Sort.ltInt x y)) ∧ w' = w := by
 go_enter Tryz.func432, Tryz.ntmps432
 go_wp2_with (go_at_call 242; refine (nan242 _ _).mono ?_; rintro e w' ⟨rfl, rfl⟩)
 go_ret
 exact ⟨rfl, rfl⟩
set_option maxHeartbeats 8000000 in
set_option maxRecDepth 1000000 in
/-- WALK 1 OF THE PLAN, at int: THE LIBRARY's OWN TEXT COMPUTES 'Sort.insertionSort'; nothing else turns but the count of draws. -/
theorem ins426_sorts (blk off cap a b : Nat) (d : Array Int) (w : World) (hH : Holds (Value.int .i64) w blk off d) (hab : a ≤ b) (hb : b ≤ d.size) (hsz : d.size < 4611686018427387904) :
  Calls Tryz.prog 426 #[.slice (some ⟨blk, off, none⟩) d.size cap, .int .i64 a, .int .i64 b] w fun e w' =>
   e = .returned (.tuple #[]) ∧ ∃ n, w' = putRow (Value.int .i64) (Sort.ahead w n) blk off (Sort.insertionSort ltInt d a b) := by
 go_enter Tryz.func426, Tryz.ntmps426
 go_wp2
 go_loopw [6] (fun vi wr => ∃ (i n : Nat) (dk : Array Int), vi = .int .i64 i ∧ a < i ∧ i ≤ b + 1 ∧ dk.size = d.size ∧ wr = putRow (Value.int .i64) (Sort.ahead w n) blk off dk ∧
   insOuter ltInt a b i dk = insOuter ltInt a b (a + 1) d) (fun vi _ => b + 1 - (intOf vi).toNat)
 case atStart => exact ⟨a + 1, 0, d, by go_num, by omega, by omega, rfl, (putRow_self _ _ _ _ _ hH).symm, rfl⟩
 case round =>
  obtain ⟨i, n, dk, rfl, hai, hib, hsk, hwr, hO⟩ := hrel
  have HO : Hid (insOuter ltInt a b i dk = insOuter ltInt a b (a + 1) d) := hO
  clear hO
  go_wp2
  ·-- i < b: the inner loop
   go_loopw [7] (fun vj wr2 => ∃ (j m : Nat) (dj : Array Int), vj = .int .i64 j ∧ a ≤ j ∧ j ≤ i ∧ dj.size = d.size ∧ wr2 = putRow (Value.int .i64) (Sort.ahead w m) blk off dj ∧
     insInner ltInt a j dj = insInner ltInt a i dk) (fun vj _ => (intOf vj).toNat)
   case atStart => exact ⟨i, n, dk, rfl, by omega, Nat.le_refl _, hsk, rfl, rfl⟩
   case round =>
    obtain ⟨j, m, dj, rfl, haj, hji, hsj, hw2, hI⟩ := hrel
    have hlt : i < b := by assumption
    obtain ⟨G, hG⟩ : ∃ G : Nat → Int, ∀ t, G t = dj[t]! := ⟨fun t => dj[t]!, fun _ => rfl⟩
    have hcw : ∀ t, t < d.size → wr.cell? ⟨blk, off + t, none⟩ = some (.int .i64 (G t)) := fun t ht => by
     rw [hw2, hG]; exact cell?_putRow _ _ _ _ d dj (holds_ahead _ _ _ _ _ _ hH) hsj t (by omega)
    have hfw : ∀ t, t < d.size → wr.frozen? ⟨blk, off + t, none⟩ = false := fun t ht => by
     rw [hw2, frozen?_putRow]; exact ((holds_ahead _ _ m _ _ _ hH) t ht).2
    have HW : Hid (wr = putRow (Value.int .i64) (Sort.ahead w m) blk off dj) := hw2
    have HG : Hid (∀ t, G t = dj[t]!) := hG
    have HI : Hid (insInner ltInt a j dj = insInner ltInt a i dk) := hI
    clear hw2 hG hI hH
    have out : (j ≤ a ∨ ltInt dj[j]! dj[j - 1]! = false) → ∀ q, ∃ i' n' dk', Value.int .i64 ((i : Int) + 1) = .int .i64 (i' : Nat) ∧ a < i' ∧ i' ≤ b + 1 ∧ dk'.size = d.size ∧
      wr.drewN q = putRow (Value.int .i64) (Sort.ahead w n') blk off dk' ∧ insOuter ltInt a b i' dk' = insOuter ltInt a b (a + 1) d := fun hs q =>
     ⟨i + 1, m + q, dj, by go_num, by omega, by omega, hsj, by rw [HW.out]; exact putRow_drewN _ _ _ _ _ _ _,
      by rw [← HO.out, insOuter_go _ _ _ _ _ hlt, ← HI.out, insInner_stop _ _ _ _ hs]⟩
    have OUT : Hid _ := out
    clear out
    go_wp2
    by_cases hja : a < j
    ·go_quiet (first | (go_at_call 432; refine Calls.quiet_of_same (less432 _ _ _)))
     go_wp2
     ·-- Less: the swap, j--
      have hl : ltInt (G j) (G (j - 1)) = true := by assumption
      go_region
      all_goals go_wp2
      go_roundw
      case rel =>
       refine ⟨j - 1, m + (nq + 1), swp dj j (j - 1), by congr 1; omega, by omega, by omega, by rw [size_swp]; exact hsj, ?_, ?_⟩
       ·rw [HW.out, HG.out, HG.out]
        exact swap_worldA _ w m (nq + 1) blk off dj j (j - 1) (by omega) (by omega)
       ·rw [← HI.out, insInner_go ltInt a j dj hja (by rw [← HG.out, ← HG.out]; exact hl)]
      case measure => simp [intOf]; omega
     ·-- not Less
      have hl : ltInt (G j) (G (j - 1)) = false := by assumption
      go_roundw
      case rel => exact OUT.out (Or.inr (by rw [← HG.out, ← HG.out]; exact hl)) nq
      case measure => simp [intOf]; omega
    ·go_quiet (first | (go_at_call 432; refine Calls.quiet_of_same (less432 _ _ _)))
     go_wp2
     go_roundw
     case rel => exact OUT.out (Or.inl (by omega)) nq
     case measure => simp [intOf]; omega
  ·-- the outer loop is at its end
   have hge : ¬ i < b := by assumption
   go_end0
   exact ⟨rfl, n, by unfold Sort.insertionSort; rw [← HO.out, insOuter_stop _ _ _ _ _ hge]⟩
end so426
section so524
set_option maxHeartbeats 1000000 in
theorem nan555 (x : Int) (w : World) : Calls Tryz.prog 555 #[.int .u64 x] w fun e w' => e = .returned (.bool false) ∧ w' = w := by
 go_enter Tryz.func555, Tryz.ntmps555
 go_wp2
 go_ret
 exact ⟨rfl, rfl⟩
set_option maxHeartbeats 1000000 in
theorem less530 (x y : Int) (w : World) : Calls Tryz.prog 530 #[.int .u64 x, .int .u64 y] w fun e w' => e = .returned (.bool (Sort.ltInt x y)) ∧ w' = w := by
 go_enter Tryz.func530, Tryz.ntmps530
 go_wp2_with (go_at_call 555; refine (nan555 _ _).mono ?_; rintro e w' ⟨rfl, rfl⟩)
 go_ret
 exact ⟨rfl, rfl⟩
set_option maxHeartbeats 8000000 in
set_option maxRecDepth 1000000 in
/-- WALK 1 OF THE PLAN, at int: THE LIBRARY's OWN TEXT COMPUTES 'Sort.insertionSort'; nothing else turns but the count of draws. -/
theorem ins524_sorts (blk off cap a b : Nat) (d : Array Int) (w : World) (hH : Holds (Value.int .u64) w blk off d) (hab : a ≤ b) (hb : b ≤ d.size) (hsz : d.size < 4611686018427387904) :
  Calls Tryz.prog 524 #[.slice (some ⟨blk, off, none⟩) d.size cap, .int .i64 a, .int .i64 b] w fun e w' =>
   e = .returned (.tuple #[]) ∧ ∃ n, w' = putRow (Value.int .u64) (Sort.ahead w n) blk off (Sort.insertionSort ltInt d a b) := by
 go_enter Tryz.func524, Tryz.ntmps524
 go_wp2
 go_loopw [6] (fun vi wr => ∃ (i n : Nat) (dk : Array Int), vi = .int .i64 i ∧ a < i ∧ i ≤ b + 1 ∧ dk.size = d.size ∧ wr = putRow (Value.int .u64) (Sort.ahead w n) blk off dk ∧
   insOuter ltInt a b i dk = insOuter ltInt a b (a + 1) d) (fun vi _ => b + 1 - (intOf vi).toNat)
 case atStart => exact ⟨a + 1, 0, d, by go_num, by omega, by omega, rfl, (putRow_self _ _ _ _ _ hH).symm, rfl⟩
 case round =>
  obtain ⟨i, n, dk, rfl, hai, hib, hsk, hwr, hO⟩ := hrel
  have HO : Hid (insOuter ltInt a b i dk = insOuter ltInt a b (a + 1) d) := hO
  clear hO
  go_wp2
  ·-- i < b: the inner loop
   go_loopw [7] (fun vj wr2 => ∃ (j m : Nat) (dj : Array Int), vj = .int .i64 j ∧ a ≤ j ∧ j ≤ i ∧ dj.size = d.size ∧ wr2 = putRow (Value.int .u64) (Sort.ahead w m) blk off dj ∧
     insInner ltInt a j dj = insInner ltInt a i dk) (fun vj _ => (intOf vj).toNat)
   case atStart => exact ⟨i, n, dk, rfl, by omega, Nat.le_refl _, hsk, rfl, rfl⟩
   case round =>
    obtain ⟨j, m, dj, rfl, haj, hji, hsj, hw2, hI⟩ := hrel
    have hlt : i < b := by assumption
    obtain ⟨G, hG⟩ : ∃ G : Nat → Int, ∀ t, G t = dj[t]! := ⟨fun t => dj[t]!, fun _ => rfl⟩
    have hcw : ∀ t, t < d.size → wr.cell? ⟨blk, off + t, none⟩ = some (.int .u64 (G t)) := fun t ht => by
     rw [hw2, hG]; exact cell?_putRow _ _ _ _ d dj (holds_ahead _ _ _ _ _ _ hH) hsj t (by omega)
    have hfw : ∀ t, t < d.size → wr.frozen? ⟨blk, off + t, none⟩ = false := fun t ht => by
     rw [hw2, frozen?_putRow]; exact ((holds_ahead _ _ m _ _ _ hH) t ht).2
    have HW : Hid (wr = putRow (Value.int .u64) (Sort.ahead w m) blk off dj) := hw2
    have HG : Hid (∀ t, G t = dj[t]!) := hG
    have HI : Hid (insInner ltInt a j dj = insInner ltInt a i dk) := hI
    clear hw2 hG hI hH
    have out : (j ≤ a ∨ ltInt dj[j]! dj[j - 1]! = false) → ∀ q, ∃ i' n' dk', Value.int .i64 ((i : Int) + 1) = .int .i64 (i' : Nat) ∧ a < i' ∧ i' ≤ b + 1 ∧ dk'.size = d.size ∧
      wr.drewN q = putRow (Value.int .u64) (Sort.ahead w n') blk off dk' ∧ insOuter ltInt a b i' dk' = insOuter ltInt a b (a + 1) d := fun hs q =>
     ⟨i + 1, m + q, dj, by go_num, by omega, by omega, hsj, by rw [HW.out]; exact putRow_drewN _ _ _ _ _ _ _,
      by rw [← HO.out, insOuter_go _ _ _ _ _ hlt, ← HI.out, insInner_stop _ _ _ _ hs]⟩
    have OUT : Hid _ := out
    clear out
    go_wp2
    by_cases hja : a < j
    ·go_quiet (first | (go_at_call 530; refine Calls.quiet_of_same (less530 _ _ _)))
     go_wp2
     ·-- Less: the swap, j--
      have hl : ltInt (G j) (G (j - 1)) = true := by assumption
      go_region
      all_goals go_wp2
      go_roundw
      case rel =>
       refine ⟨j - 1, m + (nq + 1), swp dj j (j - 1), by congr 1; omega, by omega, by omega, by rw [size_swp]; exact hsj, ?_, ?_⟩
       ·rw [HW.out, HG.out, HG.out]
        exact swap_worldA _ w m (nq + 1) blk off dj j (j - 1) (by omega) (by omega)
       ·rw [← HI.out, insInner_go ltInt a j dj hja (by rw [← HG.out, ← HG.out]; exact hl)]
      case measure => simp [intOf]; omega
     ·-- not Less
      have hl : ltInt (G j) (G (j - 1)) = false := by assumption
      go_roundw
      case rel => exact OUT.out (Or.inr (by rw [← HG.out, ← HG.out]; exact hl)) nq
      case measure => simp [intOf]; omega
    ·go_quiet (first | (go_at_call 530; refine Calls.quiet_of_same (less530 _ _ _)))
     go_wp2
     go_roundw
     case rel => exact OUT.out (Or.inl (by omega)) nq
     case measure => simp [intOf]; omega
  ·-- the outer loop is at its end
   have hge : ¬ i < b := by assumption
   go_end0
   exact ⟨rfl, n, by unfold Sort.insertionSort; rw [← HO.out, insOuter_stop _ _ _ _ _ hge]⟩
end so524
end Go.Proofs
end

section
namespace Go.Z
open Go.X Go.Proofs
open Go.RowKit
noncomputable section
def rowP (el : TypeId) (q : IntKind) (h : Heap) (nx : Nat) : List Int → Out
 | [] => (.slice none 0 0, h, nx)
 | k :: ks => (.slice (some ⟨nx, 0, some 0⟩) (ks.length + 1) 0, h.ins nx (some (.perm el ((k :: ks).map (Value.int q)))), nx + 1)
def keysP (fi : FuncId) (q : IntKind) (el : TypeId) (h : Heap) (nx : Nat) (args : List Value) : Option (List Out) := match args with
 | [.slice none 0 0, .func (.func g) ⟨[]⟩ ⟨[.pointer (some ⟨k, 0, none⟩)]⟩] => (match Nat.beq g fi, h.get k with
  | true, some (.cells _ [.map none]) => some [(.slice none 0 0, h, nx)]
  | true, some (.cells _ [.map (some m)]) => (match h.get m with
   | some (.map es) => (match Nat.ble es.length 100, keysOf q es with
    | true, some ks => some [rowP el q h nx ks]
    | _, _ => none)
   | _ => none)
  | _, _ => none)
 | _ => none
section
variable {P : Program} {σ : Nat → Nat → Value} {w0 : World} {h : Heap} {ρ : Ren} {w : World}
theorem keysP_ok {fa fi : FuncId} {q : IntKind} {el : TypeId} (hA : AppendsKeys P fa fi q el) : CallOk P σ (fun g' args h nx => if g' = fa then (match keysP fi q el h nx args with | some l => .ok l | none => .no []) else .no []) := by
 intro w0 f args h nx outs ho ρ vs w hf ha hw
 dsimp only at ho
 split at ho
 case isFalse => cases ho
 rename_i hfa
 subst hfa
 split at ho
 case h_2 => cases ho
 rename_i l hl
 cases ho
 unfold keysP at hl
 split at hl
 case h_2 => cases hl
 rename_i g k
 split at hl
 case h_3 => cases hl
 case h_1 =>
  rename_i t hg hk
  cases hl
  have hg := Nat.eq_of_beq_eq_true hg
  subst hg
  cases ha with
  | cons a1 ha =>
  cases ha with
  | cons a2 ha =>
  cases ha
  have e1 := a1.of_plain rfl
  subst e1
  obtain ⟨Bn, c1, hBn, rfl⟩ := a2.fn1_inv
  obtain ⟨l', hO, hl'⟩ := hw.rel k Bn c1 _ hBn hk
  cases hl' with
  | cons r1 hl' =>
  cases hl'
  have e1 := r1.of_plain rfl
  subst e1
  have hcell : w.cell? ⟨Bn, 0, none⟩ = some (.map none) := by simp [World.cell?, hO]
  refine (hA.nil Bn w hcell (hw.lt _ _ _ hBn)).mono ?_
  rintro e W ⟨rfl, hB⟩
  exact ⟨(.slice none 0 0, h, nx), List.mem_singleton.2 rfl, _, ρ, rfl, Ren.le_refl _, New.refl _ _, Nat.le_refl _, hf, .plain rfl, hw.below hB⟩
 rename_i t m hg hk
 split at hl
 case h_2 => cases hl
 rename_i es hm
 split at hl
 case h_2 => cases hl
 rename_i ks hlen hks
 cases hl
 have hg := Nat.eq_of_beq_eq_true hg
 have hlen := Nat.le_of_ble_eq_true hlen
 subst hg
 cases ha with
 | cons a1 ha =>
 cases ha with
 | cons a2 ha =>
 cases ha
 have e1 := a1.of_plain rfl
 subst e1
 obtain ⟨Bn, c1, hBn, rfl⟩ := a2.fn1_inv
 obtain ⟨l', hO, hl'⟩ := hw.rel k Bn c1 _ hBn hk
 cases hl' with
 | cons r1 hl' =>
 cases hl'
 obtain ⟨bm, c2, hbm, rfl⟩ := r1.map_inv
 obtain ⟨ms, clock, hM, hrel, hborn⟩ := hw.rel m bm c2 _ hbm hm
 have hcell : w.cell? ⟨Bn, 0, none⟩ = some (.map (some bm)) := by simp [World.cell?, hO]
 have hkeys := keysOf_eq hks
 have hkint : ∀ e ∈ ms.toList, ∃ k : Int, e.key = .int q k := fun e he => by
  obtain ⟨v, hv⟩ := hrel.back e he
  have : e.key ∈ es.map (·.1) := List.mem_map.2 ⟨_, hv, rfl⟩
  rw [hkeys] at this
  obtain ⟨k, _, hk⟩ := List.mem_map.1 this
  exact ⟨k, hk.symm⟩
 have hperm : (ms.toList.map (·.key)).Perm (ks.map (Value.int q)) := by
  rw [← hkeys]
  refine (List.perm_ext_iff_of_nodup hrel.nodupM hrel.nodup).2 fun x => ⟨fun hx => ?_, fun hx => ?_⟩
  ·obtain ⟨e, he, rfl⟩ := List.mem_map.1 hx
   obtain ⟨v, hv⟩ := hrel.back e he
   exact List.mem_map.2 ⟨_, hv, rfl⟩
  ·obtain ⟨y, hy, rfl⟩ := List.mem_map.1 hx
   obtain ⟨e, he, hk, _⟩ := hrel.fwd y hy
   exact List.mem_map.2 ⟨e, he, hk⟩
 have hsz : ms.size ≤ 100 := by have := hrel.len; simp at this; omega
 refine (hA.full Bn bm ms clock w hborn.lt hborn.nd hkint hsz hcell (hw.lt _ _ _ hBn) hM).mono ?_
 rintro e W ⟨v, ls, rfl, hp, hown, hnil, hB⟩
 have hpp := perm_int (hp.trans hperm)
 refine ⟨rowP el q h nx ks, List.mem_singleton.2 rfl, ?_⟩
 cases ls with
 | nil =>
  have := hnil.2 rfl
  subst this
  obtain rfl := hpp.symm.eq_nil
  exact ⟨_, ρ, rfl, Ren.le_refl _, New.refl _ _, Nat.le_refl _, hf, .plain rfl, hw.below hB⟩
 | cons k1 ls =>
  obtain ⟨k0, ks', rfl⟩ : ∃ k0 ks', ks = k0 :: ks' := by
   cases ks with
   | nil => exact absurd hpp.eq_nil (by simp)
   | cons a r => exact ⟨a, r, rfl⟩
  have hll : ls.length = ks'.length := by simpa using hpp.length_eq
  obtain ⟨hlen1, h2 | ⟨g', cap, cur, rfl, hbase, hblk, hle, hcap, hsize, htake⟩⟩ := hown
  ·simp at h2
  ·have hadd := Ren.add_le (b := g') (c := cap) hf.none
   refine ⟨_, ρ.add nx g' cap, rfl, hadd, New.add, Nat.le_succ nx, hf.add, ?_, ?_⟩
   ·have := Rep.gr (σ := σ) (ρ := ρ.add nx g' cap) (n := nx) (b := g') (c := cap) (off := 0) (off' := 0) (k := 0) (len := ks'.length + 1) (z := 0) Ren.add_same (.inl rfl)
    show Rep σ _ (.slice (some ⟨nx, 0, some 0⟩) (ks'.length + 1) 0) _
    simpa [hll] using this
   ·refine hw.row hB hf.none hbase hblk rfl ?_
    refine ⟨(k1 :: ls).map (Value.int q), cur.toList.drop ((ls.length + 1) * 1), ?_, (hpp.map (Value.int q)), fun v hv => ?_, ?_, hcap⟩
    ·rw [← htake]
     simp
    ·obtain ⟨k, _, rfl⟩ := List.mem_map.1 hv; rfl
    ·rw [← htake]
     simp
     simpa using hsize
end
def insI (k : Int) : List Int → List Int
 | [] => [k]
 | j :: l => match decide (k ≤ j) with | true => k :: j :: l | false => j :: insI k l
def sortI : List Int → List Int
 | [] => []
 | k :: l => insI k (sortI l)
theorem insI_perm (k : Int) : ∀ l, (insI k l).Perm (k :: l)
 | [] => .refl _
 | j :: l => by
  unfold insI
  cases decide (k ≤ j) with
  | true => exact .refl _
  | false => exact ((insI_perm k l).cons j).trans (.swap k j l)
theorem sortI_perm : ∀ l, (sortI l).Perm l
 | [] => .refl _
 | k :: l => (insI_perm k _).trans ((sortI_perm l).cons k)
theorem insI_sorted (k : Int) : ∀ {l : List Int}, l.Pairwise (· ≤ ·) → (insI k l).Pairwise (· ≤ ·)
 | [], _ => by simp [insI]
 | j :: l, h => by
  unfold insI
  rw [List.pairwise_cons] at h
  cases hd : decide (k ≤ j) with
  | true =>
   have hkj : k ≤ j := of_decide_eq_true hd
   refine List.pairwise_cons.2 ⟨fun x hx => ?_, List.pairwise_cons.2 h⟩
   rcases List.mem_cons.1 hx with rfl | hx
   ·exact hkj
   ·exact Int.le_trans hkj (h.1 x hx)
  | false =>
   have hkj : ¬ k ≤ j := of_decide_eq_false hd
   refine List.pairwise_cons.2 ⟨fun x hx => ?_, insI_sorted k h.2⟩
   rcases List.mem_cons.1 ((insI_perm k l).mem_iff.1 hx) with rfl | hx
   ·omega
   ·exact h.1 x hx
theorem sortI_sorted : ∀ l, (sortI l).Pairwise (· ≤ ·)
 | [] => .nil
 | k :: l => insI_sorted k (sortI_sorted l)
theorem sorted_unique : ∀ {l m : List Int}, l.Perm m → l.Pairwise (· ≤ ·) → m.Pairwise (· ≤ ·) → l = m
 | [], m, h, _, _ => h.symm.eq_nil.symm
 | a :: l, [], h, _, _ => absurd h.eq_nil (by simp)
 | a :: l, b :: m, h, hl, hm => by
  rw [List.pairwise_cons] at hl hm
  have hab : a = b := by
   have h1 : a ∈ b :: m := h.mem_iff.1 (by simp)
   have h2 : b ∈ a :: l := h.mem_iff.2 (by simp)
   rcases List.mem_cons.1 h1 with e | h1
   ·exact e
   ·rcases List.mem_cons.1 h2 with e | h2
    ·exact e.symm
    ·exact Int.le_antisymm (hl.1 b h2) (hm.1 a h1)
  subst hab
  rw [sorted_unique ((List.perm_cons a).1 h) hl.2 hm.2]
def intsOf (q : IntKind) : List Value → Option (List Int)
 | [] => some []
 | .int q' k :: r => if q' = q then (match intsOf q r with | some ks => some (k :: ks) | none => none) else none
 | _ :: _ => none
theorem intsOf_eq {q : IntKind} : ∀ {l : List Value} {ks : List Int}, intsOf q l = some ks → l = ks.map (Value.int q)
 | [], ks, h => by cases h; rfl
 | v :: r, ks, h => by
  unfold intsOf at h
  split at h
  ·rename_i he; cases he
  ·rename_i q' k' r' he
   cases he
   split at h
   ·rename_i hq
    subst hq
    split at h
    ·rename_i ks' hks
     cases h
     simp [intsOf_eq hks]
    ·cases h
   ·cases h
  ·cases h
def rowCellsOf : HO → Option (TypeId × List Value)
 | .perm t l => some (t, l)
 | .grown t 1 l => some (t, l)
 | _ => none
def sortZ (q : IntKind) (h : Heap) (nx : Nat) (args : List Value) : Option (List Out) := match args with
 | [.slice (some ⟨n, 0, some 0⟩) len _, .int .i64 (.ofNat a), .int .i64 (.ofNat b)] => (match h.get n with
  | some o => (match rowCellsOf o with
   | some (t, l) => (match intsOf q l with
    | some ks => (match Nat.beq a 0 && Nat.beq b len && Nat.beq ks.length len && Nat.blt 0 len && Nat.ble len 100000 with
     | true => some [(.tuple #[], h.ins n (some (.grown t 1 ((sortI ks).map (Value.int q)))), nx)]
     | false => none)
    | none => none)
   | none => none)
  | none => none)
 | _ => none
open Go.Sort in
def InsSaid (P : Program) (f : FuncId) (q : IntKind) : Prop := ∀ (blk off cap a b : Nat) (d : Array Int) (w : World) (hH : Holds (Value.int q) w blk off d) (hab : a ≤ b) (hb : b ≤ d.size) (hsz : d.size < 4611686018427387904),
  Calls P f #[.slice (some ⟨blk, off, none⟩) d.size cap, .int .i64 a, .int .i64 b] w fun e w' =>
   e = .returned (.tuple #[]) ∧ ∃ n, w' = putRow (Value.int q) (Sort.ahead w n) blk off (Sort.insertionSort ltInt d a b)
section
variable {P : Program} {σ : Nat → Nat → Value} {w0 : World} {h : Heap} {ρ : Ren} {w : World}
theorem repL_ints {q : IntKind} : ∀ {ks : List Int} {l : List Value}, RepL σ ρ (ks.map (Value.int q)) l → l = ks.map (Value.int q)
 | [], _, .nil => rfl
 | k :: ks, _, .cons a r => by
  have := a.of_plain rfl
  subst this
  rw [repL_ints r]
  rfl
theorem row_ints (k : WI σ w0 h ρ w) {n b c : Nat} (hn : ρ n = some (b, c)) {o : HO} (ho : h.get n = some o) {t : TypeId} {l : List Value} (hr : rowCellsOf o = some (t, l)) {q : IntKind} {ks : List Int} (hk : intsOf q l = some ks) :
  o.live = true ∧ ∃ (ls : List Int) (rest : List Value), ls.Perm ks ∧ w.heap[b]? = some (.cells (ls.map (Value.int q) ++ rest).toArray t (0, 0)) ∧ (ls.map (Value.int q) ++ rest).length = c ∧ c ≤ maxLen := by
 have hrel := k.rel n b c o hn ho
 have hl := intsOf_eq hk
 unfold rowCellsOf at hr
 split at hr
 ·cases hr
  obtain ⟨l', rest, hx, hp, _, hlen, hc⟩ := hrel
  subst hl
  refine ⟨rfl, ?_⟩
  obtain ⟨ls, rfl⟩ : ∃ ls : List Int, l' = ls.map (Value.int q) := by
   have hall : ∀ v ∈ l', ∃ z : Int, v = .int q z := fun v hv => by
    obtain ⟨z, _, hz⟩ := List.mem_map.1 (hp.mem_iff.1 hv)
    exact ⟨z, hz.symm⟩
   clear hp hx hlen
   induction l' with
   | nil => exact ⟨[], rfl⟩
   | cons v l' ih =>
    obtain ⟨z, rfl⟩ := hall v (by simp)
    obtain ⟨ls, rfl⟩ := ih fun u hu => hall u (by simp [hu])
    exact ⟨z :: ls, rfl⟩
  exact ⟨ls, rest, perm_int hp, hx, hlen, hc⟩
 ·cases hr
  obtain ⟨l', rest, hx, hrl, hlen, hc, _⟩ := hrel
  subst hl
  have := repL_ints hrl
  subst this
  exact ⟨rfl, ks, rest, .refl _, hx, by rw [hlen]; omega, hc⟩
 ·cases hr
theorem WI.drewN (k : WI σ w0 h ρ w) (n : Nat) : WI σ w0 h ρ (w.drewN n) :=
 ⟨k.rel, k.lt, k.inj, k.own, k.old, ⟨k.kept.os, k.kept.tape, k.kept.output, k.kept.size, k.kept.block⟩⟩
open Go.Sort in
theorem sorts_to {ls ks : List Int} (hp : ls.Perm ks) : (Sort.insertionSort ltInt ls.toArray 0 ls.toArray.size).toList = sortI ks ∧ (Sort.insertionSort ltInt ls.toArray 0 ls.toArray.size).size = ls.length := by
 obtain ⟨⟨hsz, _, hperm⟩, hso⟩ := insertionSort_holds (lt := ltInt) swo_ltInt ls.toArray 0 ls.toArray.size (Nat.zero_le _) (Nat.le_refl _)
 generalize Sort.insertionSort ltInt ls.toArray 0 ls.toArray.size = A at hsz hperm hso ⊢
 have hA : A.toList.Perm ls := by
  have e1 : A.extract 0 ls.toArray.size = A := by rw [← hsz]; simp
  have e2 : ls.toArray.extract 0 ls.toArray.size = ls.toArray := by simp
  rw [e1, e2] at hperm
  exact hperm
 refine ⟨sorted_unique (hA.trans (hp.trans (sortI_perm ks).symm)) ?_ (sortI_sorted ks), by simpa using hsz⟩
 rw [List.pairwise_iff_getElem]
 intro i j hi hj hij
 have h1 := hso i j (Nat.zero_le _) hij (by rw [← hsz]; simpa using hj)
 rw [getElem!_pos A j (by simpa using hj), getElem!_pos A i (by simpa using hi)] at h1
 have h2 : ¬ A[j]'(by simpa using hj) < A[i]'(by simpa using hi) := of_decide_eq_false h1
 simp only [Array.getElem_toList]
 omega
open Go.Sort in
theorem sortZ_sound {f : FuncId} {q : IntKind} (hI : InsSaid P f q) {nx : Nat} {args : List Value} {outs : List Out} (ho : sortZ q h nx args = some outs) {vs : List Value} (hf : Fresh ρ nx) (ha : RepL σ ρ args vs) (hw : WI σ w0 h ρ w) :
  Calls P f vs.toArray w fun e w' => ∃ out ∈ outs, ∃ v ρ', e = .returned v ∧ ρ.le ρ' ∧ New ρ ρ' nx ∧ nx ≤ out.2.2 ∧ Fresh ρ' out.2.2 ∧ Rep σ ρ' out.1 v ∧ WI σ w0 out.2.1 ρ' w' := by
 unfold sortZ at ho
 split at ho
 case h_2 => cases ho
 rename_i n len zz a b
 split at ho
 case h_2 => cases ho
 rename_i o hg
 split at ho
 case h_2 => cases ho
 rename_i t l hr
 split at ho
 case h_2 => cases ho
 rename_i ks hk
 split at ho
 case h_2 => cases ho
 rename_i hq
 cases ho
 simp only [Bool.and_eq_true] at hq
 obtain ⟨⟨⟨⟨q1, q2⟩, q3⟩, q4⟩, q5⟩ := hq
 have q1 := Nat.eq_of_beq_eq_true q1
 have q2 := Nat.eq_of_beq_eq_true q2
 have q3 := Nat.eq_of_beq_eq_true q3
 have q4 : 0 < len := Nat.le_of_ble_eq_true q4
 have q5 := Nat.le_of_ble_eq_true q5
 subst q1; subst q2
 cases ha with
 | cons hs ha =>
 cases ha with
 | cons h1 ha =>
 cases ha with
 | cons h2 ha =>
 cases ha
 obtain ⟨blk, c, off', hnb, hoff, rfl⟩ := hs.gr_inv
 have h1 := h1.of_plain rfl
 have h2 := h2.of_plain rfl
 subst h1; subst h2
 have hoff0 : off' = 0 := by
  rcases hoff with h | ⟨_, h⟩
  ·exact h
  ·omega
 subst hoff0
 obtain ⟨hlive, ls, rest, hp, hb, hlc, hcm⟩ := row_ints hw hnb hg hr hk
 have hlen : ls.length = b := by rw [hp.length_eq]; exact q3
 have hH : Holds (Value.int q) w blk 0 ls.toArray := fun j hj => by
  have hj' : j < ls.length := by simpa using hj
  refine ⟨?_, by simp [World.frozen?, hb]⟩
  rw [getElem!_pos ls.toArray j hj]
  simp [World.cell?, hb, List.getElem?_append_left (show j < (ls.map (Value.int q)).length by simpa using hj'), List.getElem?_eq_getElem hj']
 have hcall := hI blk 0 (c - 0) 0 ls.toArray.size ls.toArray w hH (Nat.zero_le _) (Nat.le_refl _) (by simp; omega)
 have hsz : ls.toArray.size = b := by simpa using hlen
 rw [hsz] at hcall
 refine hcall.mono ?_
 rintro e W ⟨rfl, m, rfl⟩
 have hst := sorts_to hp
 rw [hsz] at hst
 obtain ⟨hA, hAs⟩ := hst
 generalize Sort.insertionSort ltInt ls.toArray 0 b = A at hA hAs ⊢
 have e1 : A = A.toList.toArray := by simp
 have hset := Go.Lib.putRow_eq_setCells (Value.int q) w blk 0 ls.toArray A.toList m hH (by simp; exact hAs)
 rw [e1, hset, hA]
 have hls : (sortI ks).length = ls.length := by rw [(sortI_perm ks).length_eq, hp.length_eq]
 have hput := setCells_put ((sortI ks).map (Value.int q)) (b := blk) (t := t) (fr := (0, 0)) (A := []) (old := ls.map (Value.int q)) (B := rest) (w := w.drewN m) (by simp [hls]) (by simpa using hb)
 simp only [List.length_nil, List.nil_append] at hput
 rw [hput]
 refine ⟨_, List.mem_singleton.2 rfl, _, ρ, rfl, Ren.le_refl _, New.refl _ _, Nat.le_refl _, hf, .tup_mk .nil, ?_⟩
 refine (hw.drewN m).write hnb ⟨o, hg, hlive⟩ (fun _ _ _ e => by cases e; rfl) (fun m' o' hm' hgo => ?_) (fun o' hgo => ?_)
 ·rcases Heap.ins_get hgo with ⟨e, _⟩ | ⟨_, e⟩
  ·exact absurd e hm'
  ·exact e
 ·rcases Heap.ins_get hgo with ⟨_, rfl⟩ | ⟨e, _⟩
  ·refine ⟨rfl, (sortI ks).map (Value.int q), rest, rfl, RepL.plain fun x hx => ?_, ?_, hcm, Nat.zero_lt_one⟩
   ·obtain ⟨z, _, rfl⟩ := List.mem_map.1 hx; rfl
   ·simp at hlc ⊢
    omega
  ·exact absurd rfl e
end
end
end Go.Z
end
