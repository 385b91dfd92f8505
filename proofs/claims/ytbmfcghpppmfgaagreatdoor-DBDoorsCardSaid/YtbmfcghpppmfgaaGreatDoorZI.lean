/- One part of a proof: an evaluator of the model, shown right, and contracts that it yields. No condition beyond those that each theorem names. -/
import Derived.Test.YtbmfcghpppmfgaaGreatDoorZP
import Derived.Test.YtbmfcghpppmfgaaGreatDoorZV
import Derived.Shelf.Spec.SlicesInsertGrow
section
set_option linter.unusedSimpArgs false
set_option linter.unusedVariables false
set_option linter.unusedSectionVars false
set_option linter.deprecated false
set_option linter.unusedVariables false
namespace Go.Z
open Go.X Go.Proofs
noncomputable section
theorem put_self {w : World} {b : Nat} {O : Obj} (h : w.heap[b]? = some O) : put w b O = w := by
 unfold put
 have : w.heap.setIfInBounds b O = w.heap := by
  apply Array.ext
  ·simp
  ·intro i h1 h2
   rw [Array.getElem_setIfInBounds (by simpa using h1)]
   by_cases e : b = i
   ·subst e
    rw [if_pos rfl]
    exact ((Array.getElem?_eq_some_iff.1 h).2).symm
   ·rw [if_neg e]
 rw [this]
theorem put_put {w : World} {b : Nat} {O O' : Obj} : put (put w b O) b O' = put w b O' := by
 unfold put
 simp [Array.setIfInBounds_setIfInBounds]
theorem setCell_put {w : World} {b o : Nat} {cs : Array Value} {t : TypeId} {fr : Nat × Nat} {v : Value} (h : w.heap[b]? = some (.cells cs t fr)) : w.setCell ⟨b, o, none⟩ v = put w b (.cells (cs.setIfInBounds o v) t fr) := by
 have hlt : b < w.heap.size := (Array.getElem?_eq_some_iff.1 h).1
 have hv : w.heap[b] = .cells cs t fr := (Array.getElem?_eq_some_iff.1 h).2
 unfold World.setCell put
 congr 1
 apply Array.ext
 ·simp
 ·intro i h1 h2
  rw [Array.getElem_modify, Array.getElem_setIfInBounds (by simpa using h1)]
  by_cases e : b = i
  ·subst e
   rw [if_pos rfl, if_pos rfl, hv]
   rfl
  ·rw [if_neg e, if_neg e]
theorem setCells_put {b : Nat} {t : TypeId} {fr : Nat × Nat} {B : List Value} : ∀ (vs : List Value) {A old : List Value} {w : World}, old.length = vs.length → w.heap[b]? = some (.cells (A ++ old ++ B).toArray t fr) →
  w.setCells b A.length vs = put w b (.cells (A ++ vs ++ B).toArray t fr)
 | [], A, old, w, hl, h => by
  obtain rfl := List.eq_nil_of_length_eq_zero hl
  exact (put_self h).symm
 | v :: r, A, [], w, hl, h => by cases hl
 | v :: r, A, x :: old, w, hl, h => by
  have hlt : b < w.heap.size := (Array.getElem?_eq_some_iff.1 h).1
  have e1 : (A ++ x :: old ++ B).toArray.setIfInBounds A.length v = ((A ++ [v]) ++ old ++ B).toArray := by
   simp
  rw [World.setCells, setCell_put h, e1]
  have h2 := setCells_put r (A := A ++ [v]) (old := old) (w := put w b (.cells ((A ++ [v]) ++ old ++ B).toArray t fr)) (by simpa using hl) (put_get hlt)
  rw [show A.length + 1 = (A ++ [v]).length by simp, h2, put_put]
  simp
theorem alloc_put {w : World} {O O' : Obj} : put (w.alloc O) w.heap.size O' = w.alloc O' := by
 have : (w.heap.push O).setIfInBounds w.heap.size O' = w.heap.push O' := by
  apply Array.ext
  ·simp
  ·intro i h1 h2
   rw [Array.getElem_setIfInBounds (by simpa using h1), Array.getElem_push, Array.getElem_push]
   by_cases e : w.heap.size = i
   ·subst e; simp
   ·rw [if_neg e]
    have : i < w.heap.size := by simp at h2; omega
    simp [this]
 show ({ w with heap := (w.heap.push O).setIfInBounds w.heap.size O' } : World) = { w with heap := w.heap.push O' }
 rw [this]
/-- as slices.Insert(s, i, x): s is a row all of which is known, i lies in it -/
def insZ (e : TypeId) (h : Heap) (nx : Nat) (args : List Value) : Option (List Out) := match args with
 | [.slice (some ⟨n, 0, some 0⟩) len _, .int .i64 (.ofNat i), .slice (some ⟨n', 0, none⟩) 1 _] => (match h.get n, h.get n' with
  | some (.grown t z l), some (.cells _ [v]) => (match Nat.beq t e && Nat.beq z 1 && Nat.beq l.length len && Nat.blt i len && Nat.ble len 100000 && allOne l && allOne [v] && !Nat.beq n n' with
   | true => some [(.slice (some ⟨nx, 0, some 0⟩) (len + 1) 0, (h.ins n (some .dead)).ins nx (some (.grown e 1 (l.take i ++ v :: l.drop i))), nx + 1)]
   | false => none)
  | _, _ => none)
 | _ => none
def ShiftSaid (P : Program) (f : FuncId) : Prop := ∀ (b off n c i vb voff m vc : Nat) (cs vs : List Value) (w : World) (hi : i < n) (hm : 0 < m) (hroom : n + m ≤ c) (hc63 : c ≤ 9223372036854775807) (hvb : vb ≠ b)
  (hcl : cs.length = n) (hvl : vs.length = m)
  (hcs : ∀ j v, cs[j]? = some v → w.cell? ⟨b, off + j, none⟩ = some v) (hsp : ∀ j, j < n + m → (w.cell? ⟨b, off + j, none⟩).isSome = true) (hfz : ∀ j, j < n + m → w.frozen? ⟨b, off + j, none⟩ = false)
  (hvs : ∀ j v, vs[j]? = some v → w.cell? ⟨vb, voff + j, none⟩ = some v) (h1c : ∀ v ∈ cs, v.oneCell' = true) (h1v : ∀ v ∈ vs, v.oneCell' = true)
  (tA tB : TypeId) (kA kB : Nat) (hsa : w.shape? vb = some (tA, kA)) (hsb : w.shape? b = some (tB, kB)) (hkB : kB ≠ 0) (hfa : w.frozen? ⟨vb, voff, none⟩ = false) (hfe : w.frozen? ⟨vb, kA, none⟩ = false),
  Calls P f #[.slice (some ⟨b, off, none⟩) n c, .int .i64 i, .slice (some ⟨vb, voff, none⟩) m vc] w fun e w' =>
   e = .returned (.slice (some ⟨b, off, none⟩) (n + m) c) ∧ w' = (w.drew.setCells b (off + (i + m)) (cs.drop i)).setCells b (off + i) vs
def GrowSaid (P : Program) (f : FuncId) (e : TypeId) (zv : Value) (by' : Nat) : Prop := ∀ (b off n c i vb voff m vc : Nat) (cs vs : List Value) (w : World) (hi : i < n) (hm : 0 < m) (hnc : n ≤ c) (hroom : c < n + m) (hbig : (n + m) * by' ≤ 140737488355328)
  (hcl : cs.length = n) (hvl : vs.length = m)
  (hcs : ∀ j v, cs[j]? = some v → w.cell? ⟨b, off + j, none⟩ = some v)
  (hvs : ∀ j v, vs[j]? = some v → w.cell? ⟨vb, voff + j, none⟩ = some v) (h1c : ∀ v ∈ cs, v.oneCell' = true) (h1v : ∀ v ∈ vs, v.oneCell' = true),
  Calls P f #[.slice (some ⟨b, off, none⟩) n c, .int .i64 i, .slice (some ⟨vb, voff, none⟩) m vc] w fun e' w' =>
   e' = .returned (.slice (some ⟨w.heap.size, 0, none⟩) (n + m) (grownCap w (n + m) c e)) ∧
   w' = (((w.alloc (.cells ((cs.take i).toArray ++ Builtin.zeroCells zv.cells (n + m - i) ++ Builtin.zeroCells zv.cells (grownCap w (n + m) c e - (n + m))) e)).drew.setCells w.heap.size i vs).drew).setCells w.heap.size (i + m) (cs.drop i)
variable {P : Program} {σ : Nat → Nat → Value} [SigOk σ]
theorem allOne_mem : ∀ {l : List Value}, allOne l = true → ∀ v ∈ l, v.oneCell' = true
 | x :: l, h, v, hv => by
  have h' : (match x.oneCell' with | true => allOne l | false => false) = true := h
  cases hx : x.oneCell' with
  | false => rw [hx] at h'; cases h'
  | true =>
   rw [hx] at h'
   rcases List.mem_cons.1 hv with rfl | hv
   ·exact hx
   ·exact allOne_mem h' v hv
theorem insZ_sound {f : FuncId} {e : TypeId} {zv : Value} {by' : Nat} (hS : ShiftSaid P f) (hG : GrowSaid P f e zv by') (hzv : zv.cells.size = 1) (hby : by' ≤ 1000) {w0 : World} {h : Heap} {nx : Nat} {args : List Value} {outs : List Out}
  (ho : insZ e h nx args = some outs) {ρ : Ren} {vs : List Value} {w : World} (hf : Fresh ρ nx) (ha : RepL σ ρ args vs) (hw : WI σ w0 h ρ w) :
  Calls P f vs.toArray w fun e w' => ∃ out ∈ outs, ∃ v ρ', e = .returned v ∧ ρ.le ρ' ∧ New ρ ρ' nx ∧ nx ≤ out.2.2 ∧ Fresh ρ' out.2.2 ∧ Rep σ ρ' out.1 v ∧ WI σ w0 out.2.1 ρ' w' := by
 unfold insZ at ho
 split at ho
 case h_2 => cases ho
 rename_i n len zz i n' vc
 split at ho
 case h_2 => cases ho
 rename_i t z l t' v hgn hgn'
 split at ho
 case h_2 => cases ho
 rename_i hq
 cases ho
 simp only [Bool.and_eq_true] at hq
 obtain ⟨⟨⟨⟨⟨⟨⟨q1, q2⟩, q3⟩, q4⟩, q5⟩, q6⟩, q7⟩, q8⟩ := hq
 have q1 := Nat.eq_of_beq_eq_true q1
 have q2 := Nat.eq_of_beq_eq_true q2
 have q3 := Nat.eq_of_beq_eq_true q3
 have q4 : i < len := Nat.le_of_ble_eq_true q4
 have q5 := Nat.le_of_ble_eq_true q5
 subst q1; subst q2
 cases ha with
 | cons hs ha =>
 cases ha with
 | cons hi ha =>
 cases ha with
 | cons hx ha =>
 cases ha
 obtain ⟨b, c, off', hnb, hoff, rfl⟩ := hs.gr_inv
 have hi := hi.of_plain rfl
 subst hi
 obtain ⟨vb, vcc, hnv, rfl⟩ := hx.sl_inv
 have hoff0 : off' = 0 := by
  rcases hoff with h | ⟨_, h⟩
  ·exact h
  ·omega
 subst hoff0
 obtain ⟨l', rest, hb, hl, hlc, hcm, _⟩ := hw.rel n b c _ hnb hgn
 obtain ⟨v1, hvb, hv1⟩ := hw.rel n' vb vcc _ hnv hgn'
 cases hv1 with
 | cons hv hnil =>
 cases hnil
 rename_i v'
 have hll := hl.length
 have hne : vb ≠ b := fun hE => by
  subst hE
  have := hw.inj n n' vb c vcc hnb hnv ⟨_, hgn, rfl⟩ ⟨_, hgn', rfl⟩
  subst this
  simp at q8
 have hc1 := repL_one hl (allOne_mem q6)
 have hv1 : ∀ u ∈ [v'], u.oneCell' = true := fun u hu => by
  rw [List.mem_singleton] at hu; subst hu
  exact rep_one hv (allOne_mem q7 v (by simp))
 have hlen : l'.length = len := by rw [← hll]; exact q3
 have hcs : ∀ j u, l'[j]? = some u → w.cell? ⟨b, 0 + j, none⟩ = some u := fun j u hj => by
  have hlt := (List.getElem?_eq_some_iff.1 hj).1
  simp [World.cell?, hb, List.getElem?_append_left hlt, hj]
 have hvs : ∀ j u, ([v'] : List Value)[j]? = some u → w.cell? ⟨vb, 0 + j, none⟩ = some u := fun j u hj => by
  simp [World.cell?, hvb, hj]
 have hkill : ∀ m0 o, m0 ≠ nx → (((h.ins n (some .dead)).ins nx (some (.grown t 1 (l.take i ++ v :: l.drop i)))) : Heap).get m0 = some o → (m0 ≠ n ∧ h.get m0 = some o) ∨ o = .dead := fun m0 o hm hg => by
  rcases Heap.ins_get hg with ⟨e, _⟩ | ⟨_, e⟩
  ·exact absurd e hm
  ·rcases Heap.ins_get e with ⟨_, e2⟩ | ⟨e1, e2⟩
   ·exact .inr e2
   ·exact .inl ⟨e1, e2⟩
 have hnew : ∀ o, (((h.ins n (some .dead)).ins nx (some (.grown t 1 (l.take i ++ v :: l.drop i)))) : Heap).get nx = some o → o = .grown t 1 (l.take i ++ v :: l.drop i) := fun o hg => by
  rcases Heap.ins_get hg with ⟨_, rfl⟩ | ⟨e, _⟩
  ·rfl
  ·exact absurd rfl e
 have hrep : ∀ {ρ' : Ren}, ρ.le ρ' → RepL σ ρ' (l.take i ++ v :: l.drop i) (l'.take i ++ v' :: l'.drop i) := fun hle => ((hl.take i).mono hle).append (.cons (hv.mono hle) ((hl.drop i).mono hle))
 simp only [Nat.sub_zero]
 show Calls P f #[.slice (some ⟨b, 0, none⟩) len c, .int .i64 (i : Int), .slice (some ⟨vb, 0, none⟩) 1 vc] w _
 by_cases hroom : len + 1 ≤ c
 ·-- there is room
  have hrl : (l' ++ rest).length = c := by rw [hlc]; omega
  obtain ⟨r0, rest', rfl⟩ : ∃ r0 rest', rest = r0 :: rest' := by
   cases rest with
   | nil => simp at hrl; omega
   | cons a r => exact ⟨a, r, rfl⟩
  refine (hS b 0 len c i vb 0 1 vc l' [v'] w q4 (by omega) hroom (by unfold maxLen at hcm; omega) hne hlen rfl hcs (fun j hj => ?_) (fun j hj => ?_) hvs hc1 hv1 t' t 1 c ?_ ?_ (by omega) ?_ ?_).mono ?_
  ·have hlt : 0 + j < (l' ++ r0 :: rest').length := by rw [hrl]; omega
   simp only [World.cell?, hb]
   rw [List.getElem?_toArray, List.getElem?_eq_getElem hlt]
   rfl
  ·simp [World.frozen?, hb]
  ·simp [World.shape?, hvb]
  ·simp only [World.shape?, hb, List.size_toArray, hrl]
  ·simp [World.frozen?, hvb]
  ·simp [World.frozen?, hvb]
  ·rintro E W ⟨rfl, rfl⟩
   have hil : i ≤ l'.length := by omega
   have e0 : l' ++ r0 :: rest' = (l'.take i ++ [l'.getD i .nilIface]) ++ (l'.drop (i + 1) ++ [r0]) ++ rest' := by
    have h1 : l'.drop i = l'[i]'(by omega) :: l'.drop (i + 1) := List.drop_eq_getElem_cons (by omega)
    have h2 : l'.getD i .nilIface = l'[i]'(by omega) := by simp [List.getD_eq_getElem?_getD, List.getElem?_eq_getElem (show i < l'.length by omega)]
    have h3 : l' = l'.take i ++ (l'[i]'(by omega) :: l'.drop (i + 1)) := by rw [← h1, List.take_append_drop]
    rw [h2]
    conv => lhs; rw [h3]
    simp only [List.append_assoc, List.cons_append, List.nil_append]
   have hb2 : w.drew.heap[b]? = some (.cells ((l'.take i ++ [l'.getD i .nilIface]) ++ (l'.drop (i + 1) ++ [r0]) ++ rest').toArray t (0, 0)) := by
    rw [← e0]; exact hb
   have hlt : b < w.heap.size := (Array.getElem?_eq_some_iff.1 hb).1
   have s1 := setCells_put (l'.drop i) (A := l'.take i ++ [l'.getD i .nilIface]) (old := l'.drop (i + 1) ++ [r0]) (B := rest') (w := w.drew) (by simp; omega) hb2
   rw [show (l'.take i ++ [l'.getD i .nilIface]).length = 0 + (i + 1) by simp; omega] at s1
   have hb3 : (put w.drew b (.cells ((l'.take i ++ [l'.getD i .nilIface]) ++ l'.drop i ++ rest').toArray t (0, 0))).heap[b]? = some (.cells (l'.take i ++ [l'.getD i .nilIface] ++ (l'.drop i ++ rest')).toArray t (0, 0)) := by
    rw [put_get (by exact hlt)]
    simp
   have s2 := setCells_put [v'] (A := l'.take i) (old := [l'.getD i .nilIface]) (B := l'.drop i ++ rest') rfl hb3
   rw [show (l'.take i).length = 0 + i by simp; omega] at s2
   rw [s1, s2, put_put]
   refine ⟨_, List.mem_singleton.2 rfl, _, ρ.add nx b c, rfl, Ren.add_le hf.none, New.add, Nat.le_succ _, hf.add, ?_, ?_⟩
   ·have := Rep.gr (σ := σ) (ρ := ρ.add nx b c) (n := nx) (b := b) (c := c) (off := 0) (off' := 0) (k := 0) (len := len + 1) (z := 0) Ren.add_same (.inl rfl)
    simpa using this
   ·refine hw.drew.rename hnb ⟨_, hgn, rfl⟩ hf.none (fun _ _ _ e => by cases e; rfl) hkill (fun o hg => ?_)
    have := hnew o hg
    subst this
    refine ⟨rfl, l'.take i ++ v' :: l'.drop i, rest', by simp, hrep (Ren.add_le hf.none), ?_, hcm, by omega⟩
    simp at hrl ⊢
    omega
 ·-- there is none
  have hcl : c = len := by
   have : l'.length ≤ (l' ++ rest).length := by simp
   rw [hlc] at this
   omega
  subst hcl
  have hr0 : rest = [] := by
   have : (l' ++ rest).length = l'.length := by rw [hlc]; omega
   simpa using this
  subst hr0
  refine (hG b 0 c c i vb 0 1 vc l' [v'] w q4 (by omega) (Nat.le_refl _) (by omega) (by
   have : (c + 1) * by' ≤ 100001 * 1000 := Nat.mul_le_mul (by omega) hby
   omega) hlen rfl hcs hvs hc1 hv1).mono ?_
  rintro E W ⟨rfl, rfl⟩
  have hGn : c + 1 ≤ grownCap w (c + 1) c t := grownCap_ge w _ _ _
  have hGm : grownCap w (c + 1) c t ≤ maxLen := grownCap_le_maxLen w (c + 1) c t (by unfold maxLen; omega)
  generalize grownCap w (c + 1) c t = G at hGn hGm ⊢
  have hzs : ∀ k, (Builtin.zeroCells zv.cells k).size = k := fun k => by
   simp [Builtin.zeroCells, hzv]
  obtain ⟨mid, hmid, hmidl⟩ : ∃ mid : List Value, mid = (Builtin.zeroCells zv.cells (c + 1 - i)).toList ∧ mid.length = c + 1 - i := ⟨_, rfl, by rw [Array.length_toList, hzs]⟩
  obtain ⟨tl, htl, htll⟩ : ∃ tl : List Value, tl = (Builtin.zeroCells zv.cells (G - (c + 1))).toList ∧ tl.length = G - (c + 1) := ⟨_, rfl, by rw [Array.length_toList, hzs]⟩
  have hrow : (l'.take i).toArray ++ Builtin.zeroCells zv.cells (c + 1 - i) ++ Builtin.zeroCells zv.cells (G - (c + 1)) = (l'.take i ++ mid ++ tl).toArray := by
   rw [hmid, htl]
   apply Array.ext'
   simp
  rw [hrow]
  obtain ⟨m0, mid', rfl⟩ : ∃ m0 mid', mid = m0 :: mid' := by
   cases mid with
   | nil => simp at hmidl; omega
   | cons a r => exact ⟨a, r, rfl⟩
  have s1 := setCells_put [v'] (b := w.heap.size) (t := t) (fr := (0, 0)) (A := l'.take i) (old := [m0]) (B := mid' ++ tl) (w := (w.alloc (.cells (l'.take i ++ m0 :: mid' ++ tl).toArray t)).drew) rfl (by
   show (w.alloc _).heap[w.heap.size]? = _
   rw [heap_alloc_new]
   simp)
  rw [show (l'.take i).length = i by simp; omega] at s1
  rw [s1]
  have hml : mid'.length = (l'.drop i).length := by simp at hmidl ⊢; omega
  have s2 := setCells_put (l'.drop i) (b := w.heap.size) (t := t) (fr := (0, 0)) (A := l'.take i ++ [v']) (old := mid') (B := tl) (w := (put (w.alloc (.cells (l'.take i ++ m0 :: mid' ++ tl).toArray t)).drew w.heap.size (.cells (l'.take i ++ [v'] ++ (mid' ++ tl)).toArray t (0, 0))).drew) hml (by
   show (put (w.alloc _).drew w.heap.size _).heap[w.heap.size]? = _
   rw [put_get (by show _ < (w.alloc _).heap.size; simp)]
   simp)
  rw [show (l'.take i ++ [v']).length = i + 1 by simp; omega] at s2
  rw [s2]
  have hfin : put (put (w.alloc (.cells (l'.take i ++ m0 :: mid' ++ tl).toArray t)).drew w.heap.size (.cells (l'.take i ++ [v'] ++ (mid' ++ tl)).toArray t (0, 0))).drew w.heap.size (.cells (l'.take i ++ [v'] ++ l'.drop i ++ tl).toArray t (0, 0)) = w.drew.drew.alloc (.cells (l'.take i ++ [v'] ++ l'.drop i ++ tl).toArray t) := by
   show (put (put (w.alloc _) w.heap.size _) w.heap.size _).drew.drew = _
   rw [put_put, alloc_put]
   rfl
  rw [hfin]
  refine ⟨_, List.mem_singleton.2 rfl, _, ρ.add nx w.heap.size G, rfl, Ren.add_le hf.none, New.add, Nat.le_succ _, hf.add, ?_, ?_⟩
  ·have := Rep.gr (σ := σ) (ρ := ρ.add nx w.heap.size G) (n := nx) (b := w.heap.size) (c := G) (off := 0) (off' := 0) (k := 0) (len := c + 1) (z := 0) Ren.add_same (.inl rfl)
   simpa using this
  ·have hk := hw.drew.drew.alloc (n := nx) (c := G) (O := .cells (l'.take i ++ [v'] ++ l'.drop i ++ tl).toArray t) hf.none (h' := (h.ins n (some .dead)).ins nx (some (.grown t 1 (l.take i ++ v :: l.drop i)))) (fun m0 o hm hg => by
    rcases hkill m0 o hm hg with ⟨_, e⟩ | e
    ·exact .inl e
    ·exact .inr e) (fun o hg => by
    have := hnew o hg
    subst this
    refine ⟨rfl, l'.take i ++ v' :: l'.drop i, tl, by simp, hrep (Ren.add_le hf.none), ?_, hGm, by omega⟩
    simp
    omega)
   exact hk
end
end Go.Z
end

section
set_option linter.unusedSimpArgs false
set_option linter.unusedVariables false
set_option linter.unusedSectionVars false
set_option linter.deprecated false
namespace Go.Z
open Go.X Go.Proofs
set_option linter.unusedVariables false
noncomputable section
variable {P : Program} {σ : Nat → Nat → Value} [SigOk σ] {w0 w : World} {h : Heap} {ρ : Ren}
theorem WI.forget (k : WI σ w0 h ρ w) {n : Nat} {t : TypeId} {l : List Value} (hg : h.get n = some (.grown t 1 l)) (m : Nat) : WI σ w0 (h.ins n (some (.grown t 1 (l.take m)))) ρ w := by
 have hlive : ∀ j, Live (h.ins n (some (.grown t 1 (l.take m)))) j → Live h j := fun j ⟨o, ho, hl⟩ => by
  rcases Heap.ins_get ho with ⟨rfl, _⟩ | ⟨_, e⟩
  ·exact ⟨_, hg, rfl⟩
  ·exact ⟨o, e, hl⟩
 refine ⟨fun j b c o hn ho => ?_, k.lt, fun i j b c c' h1 h2 l1 l2 => k.inj i j b c c' h1 h2 (hlive i l1) (hlive j l2), fun j b c hn l1 => k.own j b c hn (hlive j l1), fun j b c l1 hn ho => ?_, k.kept⟩
 ·rcases Heap.ins_get ho with ⟨rfl, rfl⟩ | ⟨_, e⟩
  ·obtain ⟨l', rest, hb, hl, hlc, hcm, hz⟩ := k.rel j b c _ hn hg
   exact ⟨l'.take m, l'.drop m ++ rest, by rw [← List.append_assoc, List.take_append_drop]; exact hb, hl.take m, by rw [← List.append_assoc, List.take_append_drop]; exact hlc, hcm, hz⟩
  ·exact k.rel j b c o hn e
 ·rcases Heap.ins_get ho with ⟨_, e⟩ | ⟨_, e⟩
  ·cases e
  ·exact k.old j b c l1 hn e
def insF (e : TypeId) (h : Heap) (nx : Nat) (args : List Value) : Option (List Out) := match args with
 | .slice (some ⟨n, 0, some 0⟩) len cp :: r => (match h.get n with
  | some (.grown t 1 l) => insZ e (h.ins n (some (.grown t 1 (l.take len)))) nx (.slice (some ⟨n, 0, some 0⟩) len cp :: r)
  | _ => none)
 | _ => none
theorem insF_sound {f : FuncId} {e : TypeId} {zv : Value} {by' : Nat} (hS : ShiftSaid P f) (hG : GrowSaid P f e zv by') (hzv : zv.cells.size = 1) (hby : by' ≤ 1000) {nx : Nat} {args : List Value} {outs : List Out}
  (ho : insF e h nx args = some outs) {vs : List Value} (hf : Fresh ρ nx) (ha : RepL σ ρ args vs) (hw : WI σ w0 h ρ w) :
  Calls P f vs.toArray w fun e w' => ∃ out ∈ outs, ∃ v ρ', e = .returned v ∧ ρ.le ρ' ∧ New ρ ρ' nx ∧ nx ≤ out.2.2 ∧ Fresh ρ' out.2.2 ∧ Rep σ ρ' out.1 v ∧ WI σ w0 out.2.1 ρ' w' := by
 unfold insF at ho
 split at ho
 ·split at ho
  ·rename_i hg
   exact insZ_sound hS hG hzv hby ho hf ha (hw.forget hg _)
  ·cases ho
 ·cases ho
end
end Go.Z
end
