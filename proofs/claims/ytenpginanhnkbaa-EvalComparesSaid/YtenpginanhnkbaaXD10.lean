/- One part of a proof: an evaluator of the model, shown right, and contracts that it yields. No condition beyond those that each theorem names. -/
import Derived.Test.YtenpginanhnkbaaXD9
namespace Go.X
open Go.RowKit

/-! ## plans -/
def bindsB (e : Edge) : Bool := match e.ground with | .textOnly _ => false | .gcOnly _ => false | _ => true
def waitsL (i : Nat) : List Edge → Bool
  | [] => false
  | e :: l => match bindsB e, Nat.beq e.on i with | true, true => true | _, _ => waitsL i l
/-- o waits for i, by an edge -/
def waits (o : Oper) (i : Nat) : Bool := waitsL i o.after.toList
def maskL (acc : List Nat) : List Edge → Nat
  | [] => 0
  | e :: l => match bindsB e with | true => 2 ^ e.on ||| acc.getD e.on 0 ||| maskL acc l | false => maskL acc l
def masks : List Oper → List Nat → List Nat
  | [], acc => acc
  | o :: l, acc => masks l (acc ++ [maskL acc o.after.toList])
/-- a waits for b, through others too -/
def trW (ms : List Nat) (a b : Nat) : Bool := (ms.getD a 0).testBit b

theorem bindsB_eq (e : Edge) : bindsB e = Region.binds .any e := by
  unfold bindsB Region.binds
  cases e.ground <;> rfl
theorem waitsL_iff {i : Nat} : ∀ {l : List Edge}, waitsL i l = true ↔ ∃ e ∈ l, bindsB e = true ∧ e.on = i
  | [] => by simp [waitsL]
  | e :: l => by
    unfold waitsL
    cases hb : bindsB e <;> cases he : Nat.beq e.on i <;> simp only [List.mem_cons, exists_eq_or_imp, waitsL_iff (l := l), hb, Bool.false_eq_true, false_and, false_or, true_and]
    · constructor
      · exact fun h => .inr h
      · rintro (h | h)
        · subst h; rw [Nat.beq_refl] at he; cases he
        · exact h
    · exact ⟨fun _ => .inl (Nat.eq_of_beq_eq_true he), fun _ => trivial⟩

theorem maskL_bit {acc : List Nat} {b : Nat} : ∀ {l : List Edge}, (maskL acc l).testBit b = true → ∃ e ∈ l, bindsB e = true ∧ (e.on = b ∨ (acc.getD e.on 0).testBit b = true)
  | [], h => by simp [maskL] at h
  | e :: l, h => by
    unfold maskL at h
    cases hb : bindsB e with
    | true =>
      rw [hb] at h
      simp only [Nat.testBit_or, Bool.or_eq_true, Nat.testBit_two_pow, decide_eq_true_eq] at h
      rcases h with (h | h) | h
      · exact ⟨e, by simp, hb, .inl h⟩
      · exact ⟨e, by simp, hb, .inr h⟩
      · obtain ⟨e', he, h2⟩ := maskL_bit h; exact ⟨e', by simp [he], h2⟩
    | false =>
      rw [hb] at h
      obtain ⟨e', he, h2⟩ := maskL_bit h; exact ⟨e', by simp [he], h2⟩

theorem masks_spec : ∀ (l : List Oper) (acc : List Nat), ∃ rest, masks l acc = acc ++ rest ∧ rest.length = l.length ∧
    ∀ k o, l[k]? = some o → ∃ acc2, acc2 = (acc ++ rest).take (acc.length + k) ∧ (acc ++ rest).getD (acc.length + k) 0 = maskL acc2 o.after.toList
  | [], acc => ⟨[], by simp [masks], rfl, fun k o h => by simp at h⟩
  | o :: l, acc => by
    obtain ⟨rest, h1, h2, h3⟩ := masks_spec l (acc ++ [maskL acc o.after.toList])
    refine ⟨maskL acc o.after.toList :: rest, by rw [masks, h1]; simp, by simp [h2], fun k o' hk => ?_⟩
    cases k with
    | zero =>
      simp only [List.getElem?_cons_zero, Option.some.injEq] at hk
      subst hk
      exact ⟨acc, by simp, by simp [List.getD_eq_getElem?_getD]⟩
    | succ k =>
      obtain ⟨acc2, e1, e2⟩ := h3 k o' (by simpa using hk)
      refine ⟨acc2, ?_, ?_⟩
      · rw [e1]
        simp only [List.append_assoc, List.singleton_append, List.length_append, List.length_singleton]
        congr 1; omega
      · rw [← e2]
        simp only [List.append_assoc, List.singleton_append, List.length_append, List.length_singleton]
        congr 1; omega

/-- one step of a wait -/
theorem trW_step {ops : Array Oper} {a b : Nat} (h : trW (masks ops.toList []) a b = true) : ∃ o, ops[a]? = some o ∧ (waits o b = true ∨ ∃ z, waits o z = true ∧ z < a ∧ trW (masks ops.toList []) z b = true) := by
  obtain ⟨rest, h1, h2, h3⟩ := masks_spec ops.toList []
  unfold trW at *
  simp only [List.nil_append] at h1 h3
  rw [h1] at h ⊢
  cases ho : ops[a]? with
  | none =>
    have : rest.length ≤ a := by
      rw [h2]
      have := Array.getElem?_eq_none_iff.1 ho
      simpa using this
    rw [List.getD_eq_getElem?_getD, List.getElem?_eq_none this] at h
    simp at h
  | some o =>
    obtain ⟨acc2, e1, e2⟩ := h3 a o (by simpa using ho)
    simp only [List.length_nil, Nat.zero_add] at e1 e2
    rw [e2] at h
    obtain ⟨e, he, hb, hx⟩ := maskL_bit h
    refine ⟨o, rfl, ?_⟩
    rcases hx with hx | hx
    · exact .inl (waitsL_iff.2 ⟨e, he, hb, hx⟩)
    · right
      rw [e1, List.getD_eq_getElem?_getD, List.getElem?_take] at hx
      split at hx
      · rename_i hlt
        exact ⟨e.on, waitsL_iff.2 ⟨e, he, hb, rfl⟩, hlt, by rw [List.getD_eq_getElem?_getD]; exact hx⟩
      · simp at hx

/-- what is waited for lies in every closed set -/
theorem trW_closed {ops : Array Oper} {C : Nat → Prop} (hC : ∀ a o z, C a → ops[a]? = some o → waits o z = true → C z) : ∀ (a b : Nat), (∀ o z, ops[a]? = some o → waits o z = true → C z) → trW (masks ops.toList []) a b = true → C b := by
  intro a
  induction a using Nat.strongRecOn with
  | _ a ih =>
    intro b ha h
    obtain ⟨o, ho, hx⟩ := trW_step h
    rcases hx with hx | ⟨z, hz, hlt, hzb⟩
    · exact ha o b ho hx
    · exact ih z hlt b (fun o2 z2 ho2 hw => hC z o2 z2 (ha o z ho hz) ho2 hw) hzb

abbrev Plan := List (Nat × List Nat)

def relOf (o : Oper) : List (Nat × Nat) → List Nat
  | [] => []
  | (i, id) :: l => match waits o i with | true => relOf o l | false => id :: relOf o l
def tag (i : Nat) : List Nat → List (Nat × Nat)
  | [] => []
  | id :: l => (i, id) :: tag i l
def chkList (P : Program) (ops : Array Oper) (st : St) : List Nat → Bool
  | [] => true
  | y :: l => match ops[y]? with
    | some o => (match chkLate P o st with | true => chkList P ops st l | false => false)
    | none => false

/-- the operations of a region that draws, in the plan's order -/
def xseq (P : Program) (ops : Array Oper) (K : St → View → Prop) : Plan → List (Nat × Nat) → List (Nat × Nat) → St → View → Prop
  | [], _, _, st, V => K st V
  | (i, cs) :: L, rdL, rdR, st, V => match ops[i]? with
    | none => False
    | some o => match chkList P ops st cs with
      | true => act P ops o (relOf o rdL) (relOf o rdR) st V (fun u V1 => match isQuiet o with
          | true => xseq P ops K L (tag i (loadsOf o st) ++ rdL) (tag i (rowsOf st (looks ops o)) ++ rdR) (u.app st) V1
          | false => xseq P ops K L rdL rdR (u.app st) V1)
      | false => Stuck o

/-! ### when a plan serves -/
def apartB (ops : Array Oper) (x y : Oper) : Bool :=
  (match x.dst with | some d => !(memB d (looks ops y)) && !(y.dst == some d) | none => true) && (match y.dst with | some d => !(memB d (looks ops x)) | none => true)
theorem apartB_spec {ops : Array Oper} {x y : Oper} (h : apartB ops x y = true) : Apart ops x y := by
  unfold apartB at h
  simp only [Bool.and_eq_true] at h
  obtain ⟨h1, h2⟩ := h
  refine ⟨fun d hd => ?_, fun d hd => ?_, fun d hd => ?_⟩
  · rw [hd] at h1; simp only [Bool.and_eq_true, Bool.not_eq_true'] at h1; exact memB_false h1.1
  · rw [hd] at h1; simp only [Bool.and_eq_true, Bool.not_eq_true', beq_eq_false_iff_ne, ne_eq] at h1; exact h1.2
  · rw [hd] at h2; simp only [Bool.not_eq_true'] at h2; exact memB_false h2

structure PairOk (ops : Array Oper) (x y : Nat) : Prop where
  get : ∃ ox oy, ops[x]? = some ox ∧ ops[y]? = some oy ∧ waits ox y = false ∧
    (trW (masks ops.toList []) y x = true ∨ (Apart ops ox oy ∧ (isQuiet ox = true ∨ (isLate oy = true ∧ oy.guard = none ∧ (isApp ox = true → isLit oy = true)))))

def PlanOk (ops : Array Oper) : Plan → Prop
  | [] => True
  | (x, cs) :: L => (∀ y ∈ L.map (·.1), PairOk ops x y) ∧ (∃ ox, ops[x]? = some ox ∧ (isQuiet ox = false → ∀ y ∈ L.map (·.1), ∀ oy, ops[y]? = some oy → isLate oy = true → trW (masks ops.toList []) y x = false → y ∈ cs)) ∧
    (∀ y ∈ cs, y ∈ L.map (·.1) ∧ ∃ oy, ops[y]? = some oy ∧ isLate oy = true ∧ ∀ r ∈ L.map (·.1), trW (masks ops.toList []) y r = false) ∧ PlanOk ops L

def eraseP (r : Nat) (L : Plan) : Plan := (L.filter (fun x => !(x.1 == r))).map (fun x => (x.1, x.2.filter (fun y => !(y == r))))
theorem eraseP_keys {r : Nat} {L : Plan} {y : Nat} : y ∈ (eraseP r L).map (·.1) ↔ y ∈ L.map (·.1) ∧ y ≠ r := by
  simp only [eraseP, List.map_map, List.mem_map, List.mem_filter, Function.comp, Bool.not_eq_true', beq_eq_false_iff_ne, ne_eq]
  constructor
  · rintro ⟨x, ⟨h1, h2⟩, h3⟩; exact ⟨⟨x, h1, h3⟩, fun e => h2 (h3.trans e)⟩
  · rintro ⟨⟨x, h1, h3⟩, h2⟩; exact ⟨x, ⟨h1, fun e => h2 (h3.symm.trans e)⟩, h3⟩
theorem eraseP_cons {r x : Nat} {cs : List Nat} {L : Plan} (h : x ≠ r) : eraseP r ((x, cs) :: L) = (x, cs.filter (fun y => !(y == r))) :: eraseP r L := by
  simp [eraseP, h]
theorem eraseP_cons_same {r : Nat} {cs : List Nat} {L : Plan} : eraseP r ((r, cs) :: L) = eraseP r L := by
  simp [eraseP]
theorem eraseP_length_le (r : Nat) (L : Plan) : (eraseP r L).length ≤ L.length := by
  simp only [eraseP, List.length_map]; exact List.length_filter_le _ _

theorem planOk_erase {ops : Array Oper} {r : Nat} : ∀ {L : Plan}, PlanOk ops L → PlanOk ops (eraseP r L)
  | [], _ => trivial
  | (x, cs) :: L, h => by
    obtain ⟨h1, ⟨ox, ho, h2⟩, h3, h4⟩ := h
    by_cases hx : x = r
    · subst hx; rw [eraseP_cons_same]; exact planOk_erase h4
    · rw [eraseP_cons hx]
      refine ⟨fun y hy => h1 y (eraseP_keys.1 hy).1, ⟨ox, ho, fun hq y hy oy hoy hl hw => ?_⟩, fun y hy => ?_, planOk_erase h4⟩
      · have := eraseP_keys.1 hy
        exact List.mem_filter.2 ⟨h2 hq y this.1 oy hoy hl hw, by simp [this.2]⟩
      · obtain ⟨hy1, hy2⟩ := List.mem_filter.1 hy
        obtain ⟨h5, oy, h6, h7, h8⟩ := h3 y hy1
        exact ⟨eraseP_keys.2 ⟨h5, by simpa using hy2⟩, oy, h6, h7, fun z hz => h8 z (eraseP_keys.1 hz).1⟩
end Go.X
