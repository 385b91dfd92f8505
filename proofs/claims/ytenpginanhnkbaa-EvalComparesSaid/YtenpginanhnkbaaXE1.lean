/- One part of a proof: an evaluator of the model, shown right, and contracts that it yields. No condition beyond those that each theorem names. -/
import Derived.Test.YtenpginanhnkbaaXD12
namespace Go.X
open Go.RowKit

/-! ## the plan's check, to be run -/
def allB (p : Nat → Bool) : List Nat → Bool
  | [] => true
  | i :: l => match p i with | true => allB p l | false => false
theorem allB_spec {p : Nat → Bool} : ∀ {l : List Nat}, allB p l = true → ∀ i ∈ l, p i = true
  | [], _, i, hi => by cases hi
  | j :: l, h, i, hi => by
    unfold allB at h
    split at h
    · rename_i hj
      rcases List.mem_cons.1 hi with rfl | hi
      · exact hj
      · exact allB_spec h i hi
    · cases h
theorem memB_true {i : Nat} : ∀ {l : List Nat}, memB i l = true → i ∈ l
  | [], h => by cases h
  | j :: l, h => by
    unfold memB at h
    split at h
    · rename_i hb; rw [Nat.eq_of_beq_eq_true hb]; simp
    · exact List.mem_cons_of_mem _ (memB_true h)

def keysOf : Plan → List Nat
  | [] => []
  | (x, _) :: L => x :: keysOf L
theorem keysOf_eq : ∀ (L : Plan), keysOf L = L.map (·.1)
  | [] => rfl
  | (x, _) :: L => by simp [keysOf, keysOf_eq L]

def pairB (ops : Array Oper) (ms : List Nat) (x y : Nat) : Bool := match ops[x]?, ops[y]? with
  | some ox, some oy => (match waits ox y with
    | true => false
    | false => (match trW ms y x with
      | true => true
      | false => (match apartB ops ox oy with
        | false => false
        | true => (match isQuiet ox with
          | true => true
          | false => (match isLate oy, oy.guard with
            | true, none => (match isApp ox with | true => isLit oy | false => true)
            | _, _ => false)))))
  | _, _ => false
theorem pairB_spec {ops : Array Oper} {x y : Nat} (h : pairB ops (masks ops.toList []) x y = true) : PairOk ops x y := by
  unfold pairB at h
  split at h
  · rename_i ox oy hx hy
    refine ⟨ox, oy, hx, hy, ?_⟩
    split at h
    · cases h
    · rename_i hw
      refine ⟨hw, ?_⟩
      split at h
      · rename_i ht; exact .inl ht
      · split at h
        · cases h
        · rename_i hap
          refine .inr ⟨apartB_spec hap, ?_⟩
          split at h
          · rename_i hq; exact .inl hq
          · split at h
            · rename_i hl hg
              refine .inr ⟨hl, hg, fun ha => ?_⟩
              rw [ha] at h; exact h
            · cases h
  · cases h

def lateB (ops : Array Oper) (ms : List Nat) (x : Nat) (cs : List Nat) (y : Nat) : Bool := match ops[y]? with
  | none => true
  | some oy => match isLate oy with
    | false => true
    | true => match trW ms y x with
      | true => true
      | false => memB y cs
def csB (ops : Array Oper) (ms : List Nat) (ks : List Nat) (y : Nat) : Bool := match memB y ks with
  | false => false
  | true => match ops[y]? with
    | none => false
    | some oy => match isLate oy with
      | false => false
      | true => allB (fun r => match trW ms y r with | true => false | false => true) ks
def planB (ops : Array Oper) (ms : List Nat) : Plan → Bool
  | [] => true
  | (x, cs) :: L => match Nat.blt x ops.size, memB x (keysOf L), allB (pairB ops ms x) (keysOf L), allB (csB ops ms (keysOf L)) cs with
    | true, false, true, true => (match ops[x]? with
      | none => false
      | some ox => match isQuiet ox with
        | true => planB ops ms L
        | false => match allB (lateB ops ms x cs) (keysOf L) with
          | true => planB ops ms L
          | false => false)
    | _, _, _, _ => false
theorem planB_spec {ops : Array Oper} : ∀ {L : Plan}, planB ops (masks ops.toList []) L = true → PlanOk ops L ∧ (L.map (·.1)).Nodup ∧ ∀ i ∈ L.map (·.1), i < ops.size
  | [], _ => ⟨trivial, List.nodup_nil, by simp⟩
  | (x, cs) :: L, h => by
    unfold planB at h
    split at h
    · rename_i h1 h2 h3 h4
      have h1 : x < ops.size := Nat.le_of_ble_eq_true h1
      have h2 := memB_false h2
      rw [keysOf_eq] at h2 h3 h4
      split at h
      · cases h
      · rename_i ox hox
        have key : planB ops (masks ops.toList []) L = true ∧ (isQuiet ox = false → allB (lateB ops (masks ops.toList []) x cs) (L.map (·.1)) = true) := by
          split at h
          · rename_i hq; exact ⟨h, fun hq' => by rw [hq] at hq'; cases hq'⟩
          · split at h
            · rename_i ha; rw [keysOf_eq] at ha; exact ⟨h, fun _ => ha⟩
            · cases h
        obtain ⟨i1, i2, i3⟩ := planB_spec key.1
        refine ⟨⟨fun y hy => pairB_spec (allB_spec h3 y hy), ⟨ox, hox, fun hq y hy oy hoy hl ht => ?_⟩, fun y hy => ?_, i1⟩, ?_, ?_⟩
        · have := allB_spec (key.2 hq) y hy
          unfold lateB at this
          rw [hoy] at this
          simp only [hl, ht] at this
          exact memB_true this
        · have := allB_spec h4 y hy
          unfold csB at this
          split at this
          · cases this
          · rename_i hm
            refine ⟨memB_true hm, ?_⟩
            split at this
            · cases this
            · rename_i oy hoy
              split at this
              · cases this
              · rename_i hl
                refine ⟨oy, hoy, hl, fun r hr => ?_⟩
                have := allB_spec this r hr
                split at this
                · cases this
                · assumption
        · simp only [List.map_cons, List.nodup_cons]; exact ⟨h2, i2⟩
        · intro i hi
          simp only [List.map_cons, List.mem_cons] at hi
          rcases hi with rfl | hi
          · exact h1
          · exact i3 i hi
    · cases h

def edgeB (i : Nat) : List Edge → Bool
  | [] => true
  | e :: l => match bindsB e, Nat.blt e.on i with | true, false => false | _, _ => edgeB i l
def edgesB : Nat → List Oper → Bool
  | _, [] => true
  | i, o :: l => match edgeB i o.after.toList with | true => edgesB (i + 1) l | false => false
theorem edgeB_spec {i z : Nat} : ∀ {l : List Edge}, edgeB i l = true → waitsL z l = true → z < i
  | [], _, h => by simp [waitsL] at h
  | e :: l, h, hw => by
    unfold edgeB at h
    unfold waitsL at hw
    split at h
    · cases h
    · rename_i hn
      split at hw
      · rename_i hb he
        have he := Nat.eq_of_beq_eq_true he
        cases hlt : Nat.blt e.on i with
        | true => rw [← he]; exact Nat.le_of_ble_eq_true hlt
        | false => exact absurd hlt (hn hb)
      · exact edgeB_spec h hw
theorem edgesB_spec : ∀ {l : List Oper} {k : Nat}, edgesB k l = true → ∀ i o z, l[i]? = some o → waits o z = true → z < k + i
  | [], k, _, i, o, z, ho, _ => by simp at ho
  | x :: l, k, h, i, o, z, ho, hw => by
    unfold edgesB at h
    split at h
    · rename_i he
      cases i with
      | zero =>
        simp only [List.getElem?_cons_zero, Option.some.injEq] at ho; subst ho
        exact edgeB_spec he hw
      | succ i =>
        have := edgesB_spec h i o z (by simpa using ho) hw
        omega
    · cases h

def upto : Nat → List Nat
  | 0 => []
  | n + 1 => n :: upto n
theorem mem_upto {i : Nat} : ∀ {n : Nat}, i < n → i ∈ upto n
  | 0, h => by omega
  | n + 1, h => by
    unfold upto
    by_cases hi : i = n
    · subst hi; simp
    · exact List.mem_cons_of_mem _ (mem_upto (by omega))
def lenP : Plan → Nat
  | [] => 0
  | _ :: L => lenP L + 1
theorem lenP_eq : ∀ (L : Plan), lenP L = L.length
  | [] => rfl
  | _ :: L => by simp [lenP, lenP_eq L]

def planOkB (ops : Array Oper) (L : Plan) : Bool := match edgesB 0 ops.toList, Nat.beq (lenP L) ops.size, allB (fun i => memB i (keysOf L)) (upto ops.size) with
  | true, true, true => planB ops (masks ops.toList []) L
  | _, _, _ => false

section
variable {P : Program} {ops : Array Oper} {w0 : World} {M : Nat → Prop} {V0 : View} {n : Nat}
theorem draw_sound (hm : P.follows .mixedOrders = true) {id : Nat} {L : Plan} (hok : planOkB ops L = true) (hd : opsOk n ops.toList = true) {K : St → View → Prop} {Q : Exit → Act → World → Prop}
    (hK : ∀ st V a w, Inv w0 M V0 n st V a w → K st V → Q .normal a w) {st : St} {V : View} {a : Act} {w : World} (h : Inv w0 M V0 n st V a w) (hx : xseq P ops K L [] [] st V) :
    (Code.region id ops true).wp P Q a w := by
  unfold planOkB at hok
  split at hok
  · rename_i h1 h2 h3
    have h2 := Nat.eq_of_beq_eq_true h2
    rw [lenP_eq] at h2
    rw [keysOf_eq] at h3
    obtain ⟨p1, p2, p3⟩ := planB_spec hok
    have hw : ∀ (i : Nat) (o : Oper) (z : Nat), ops[i]? = some o → waits o z = true → z < i := fun i o z ho hz => by
      have := edgesB_spec h1 i o z (by simpa using ho) hz
      omega
    have hlt : ∀ (i : Nat) (o : Oper), ops[i]? = some o → i < ops.size := fun i o ho => (Array.getElem?_eq_some_iff.1 ho).1
    refine wp_region_any hm ?_
    refine xseq_any hK (opsOk_spec hd) (fun i o z ho hz => Nat.lt_trans (hw i o z ho hz) (hlt i o ho)) (fun i o ho => ?_) ops.size L _ st V a _ h2 (by simp) p1 p2 (fun i hi => ?_) p3 (fun i o z hi hl => ?_) h.drew hx
    · cases hz : waits o i with
      | false => rfl
      | true => exact absurd (hw i o i ho hz) (Nat.lt_irrefl _)
    · simp [hi]
      have := memB_true (allB_spec h3 i (mem_upto hi))
      simpa using this
    · simp [hi] at hl
  · cases hok
end
end Go.X
