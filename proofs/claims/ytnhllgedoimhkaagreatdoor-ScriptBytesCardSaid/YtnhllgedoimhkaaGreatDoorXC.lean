/- One part of a proof: an evaluator of the model, shown right, and contracts that it yields. No condition beyond those that each theorem names. -/
import Derived.Test.YtnhllgedoimhkaaGreatDoorXB
import Derived.Stop.Looks
import Derived.ChangeSame
set_option linter.unusedSimpArgs false
set_option linter.unusedVariables false
set_option linter.unusedSectionVars false
set_option linter.deprecated false
section
namespace Go.X
open Go.RowKit
def allB (p : Nat → Bool) : List Nat → Bool
 | [] => true
 | i :: l => match p i with | true => allB p l | false => false
theorem allB_spec {p : Nat → Bool} : ∀ {l : List Nat}, allB p l = true → ∀ i ∈ l, p i = true
 | [], _, i, hi => by cases hi
 | j :: l, h, i, hi => by
  unfold allB at h
  split at h
  ·rename_i hj
   rcases List.mem_cons.1 hi with rfl | hi
   ·exact hj
   ·exact allB_spec h i hi
  ·cases h
theorem memB_true {i : Nat} : ∀ {l : List Nat}, memB i l = true → i ∈ l
 | [], h => by cases h
 | j :: l, h => by
  unfold memB at h
  split at h
  ·rename_i hb; rw [Nat.eq_of_beq_eq_true hb]; simp
  ·exact List.mem_cons_of_mem _ (memB_true h)
def keysOf : Plan → List Nat
 | [] => []
 | (x, _) :: L => x :: keysOf L
theorem keysOf_eq : ∀ (L : Plan), keysOf L = L.map (·.1)
 | [] => rfl
 | (x, _) :: L => by simp [keysOf, keysOf_eq L]
def pairB (ops : Array Oper) (ms : List Nat) (x y : Nat) : Bool := match ops[x]?, ops[y]? with
 | some ox, some oy => (match trW ms y x with
   | true => true
   | false => (match apartB ops ox oy with
    | false => false
    | true => (match isQuiet ox with
     | true => true
     | false => (match isLate oy, oy.guard with
      | true, none => (match isApp ox with | true => isLit oy | false => true)
      | _, _ => (match isLate ox, ox.guard, isQuiet oy with | true, none, true => true | _, _, _ => false)))))
 | _, _ => false
theorem pairB_spec {ops : Array Oper} {x y : Nat} (h : pairB ops (masks ops.toList []) x y = true) : PairOk ops x y := by
 unfold pairB at h
 split at h
 ·rename_i ox oy hx hy
  refine ⟨ox, oy, hx, hy, trivial, ?_⟩
  split at h
  ·rename_i ht; exact .inl ht
  ·split at h
   ·cases h
   ·rename_i hap
    refine .inr ⟨apartB_spec hap, ?_⟩
    split at h
    ·rename_i hq; exact .inl hq
    ·split at h
     ·rename_i hl hg
      refine .inr (.inl ⟨hl, hg, fun ha => ?_⟩)
      rw [ha] at h; exact h
     ·split at h
      ·rename_i hl hg hq2; exact .inr (.inr ⟨hl, hg, hq2⟩)
      ·cases h
 ·cases h
def lateB (ops : Array Oper) (ms : List Nat) (x : Nat) (cs : List Nat) (y : Nat) : Bool := match ops[y]? with
 | none => true
 | some oy => match isLate oy with
  | false => true
  | true => match trW ms y x with
   | true => true
   | false => memB y cs
def csB (ops : Array Oper) (ms : List Nat) (ks : List Nat) (y : Nat) : Bool := match memB y ks with
 | false => false
 | true => match ops[y]? with
  | none => false
  | some oy => match isLate oy with
   | false => false
   | true => allB (fun r => match trW ms y r with | true => false | false => true) ks
def planB (ops : Array Oper) (ms : List Nat) : Plan → Bool
 | [] => true
 | (x, cs) :: L => match Nat.blt x ops.size, memB x (keysOf L), allB (pairB ops ms x) (keysOf L), allB (csB ops ms (keysOf L)) cs with
  | true, false, true, true => (match ops[x]? with
   | none => false
   | some ox => match isQuiet ox with
    | true => planB ops ms L
    | false => match allB (lateB ops ms x cs) (keysOf L) with
     | true => planB ops ms L
     | false => false)
  | _, _, _, _ => false
theorem planB_spec {ops : Array Oper} : ∀ {L : Plan}, planB ops (masks ops.toList []) L = true → PlanOk ops L ∧ (L.map (·.1)).Nodup ∧ ∀ i ∈ L.map (·.1), i < ops.size
 | [], _ => ⟨trivial, List.nodup_nil, by simp⟩
 | (x, cs) :: L, h => by
  unfold planB at h
  split at h
  ·rename_i h1 h2 h3 h4
   have h1 : x < ops.size := Nat.le_of_ble_eq_true h1
   have h2 := memB_false h2
   rw [keysOf_eq] at h2 h3 h4
   split at h
   ·cases h
   ·rename_i ox hox
    have key : planB ops (masks ops.toList []) L = true ∧ (isQuiet ox = false → allB (lateB ops (masks ops.toList []) x cs) (L.map (·.1)) = true) := by
     split at h
     ·rename_i hq; exact ⟨h, fun hq' => by rw [hq] at hq'; cases hq'⟩
     ·split at h
      ·rename_i ha; rw [keysOf_eq] at ha; exact ⟨h, fun _ => ha⟩
      ·cases h
    obtain ⟨i1, i2, i3⟩ := planB_spec key.1
    refine ⟨⟨fun y hy => pairB_spec (allB_spec h3 y hy), ⟨ox, hox, fun hq y hy oy hoy hl ht => ?_⟩, fun y hy => ?_, i1⟩, ?_, ?_⟩
    ·have := allB_spec (key.2 hq) y hy
     unfold lateB at this
     rw [hoy] at this
     simp only [hl, ht] at this
     exact memB_true this
    ·have := allB_spec h4 y hy
     unfold csB at this
     split at this
     ·cases this
     ·rename_i hm
      refine ⟨memB_true hm, ?_⟩
      split at this
      ·cases this
      ·rename_i oy hoy
       split at this
       ·cases this
       ·rename_i hl
        refine ⟨oy, hoy, hl, fun r hr => ?_⟩
        have := allB_spec this r hr
        split at this
        ·cases this
        ·assumption
    ·simp only [List.map_cons, List.nodup_cons]; exact ⟨h2, i2⟩
    ·intro i hi
     simp only [List.map_cons, List.mem_cons] at hi
     rcases hi with rfl | hi
     ·exact h1
     ·exact i3 i hi
  ·cases h
def edgeB (i : Nat) : List Edge → Bool
 | [] => true
 | e :: l => match bindsB e, Nat.blt e.on i with | true, false => false | _, _ => edgeB i l
def edgesB : Nat → List Oper → Bool
 | _, [] => true
 | i, o :: l => match edgeB i o.after.toList with | true => edgesB (i + 1) l | false => false
theorem edgeB_spec {i z : Nat} : ∀ {l : List Edge}, edgeB i l = true → waitsL z l = true → z < i
 | [], _, h => by simp [waitsL] at h
 | e :: l, h, hw => by
  unfold edgeB at h
  unfold waitsL at hw
  split at h
  ·cases h
  ·rename_i hn
   split at hw
   ·rename_i hb he
    have he := Nat.eq_of_beq_eq_true he
    cases hlt : Nat.blt e.on i with
    | true => rw [← he]; exact Nat.le_of_ble_eq_true hlt
    | false => exact absurd hlt (hn hb)
   ·exact edgeB_spec h hw
theorem edgesB_spec : ∀ {l : List Oper} {k : Nat}, edgesB k l = true → ∀ i o z, l[i]? = some o → waits o z = true → z < k + i
 | [], k, _, i, o, z, ho, _ => by simp at ho
 | x :: l, k, h, i, o, z, ho, hw => by
  unfold edgesB at h
  split at h
  ·rename_i he
   cases i with
   | zero =>
    simp only [List.getElem?_cons_zero, Option.some.injEq] at ho; subst ho
    exact edgeB_spec he hw
   | succ i =>
    have := edgesB_spec h i o z (by simpa using ho) hw
    omega
  ·cases h
def upto : Nat → List Nat
 | 0 => []
 | n + 1 => n :: upto n
theorem mem_upto {i : Nat} : ∀ {n : Nat}, i < n → i ∈ upto n
 | 0, h => by omega
 | n + 1, h => by
  unfold upto
  by_cases hi : i = n
  ·subst hi; simp
  ·exact List.mem_cons_of_mem _ (mem_upto (by omega))
def lenP : Plan → Nat
 | [] => 0
 | _ :: L => lenP L + 1
theorem lenP_eq : ∀ (L : Plan), lenP L = L.length
 | [] => rfl
 | _ :: L => by simp [lenP, lenP_eq L]
def planOkB (ops : Array Oper) (L : Plan) : Bool := match edgesB 0 ops.toList, Nat.beq (lenP L) ops.size, allB (fun i => memB i (keysOf L)) (upto ops.size) with
 | true, true, true => planB ops (masks ops.toList []) L
 | _, _, _ => false
section
variable {P : Program} {ops : Array Oper} {w0 : World} {M : Nat → Prop} {V0 : View} {n : Nat}
theorem draw_sound (hm : P.follows .mixedOrders = true) {id : Nat} {L : Plan} (hok : planOkB ops L = true) (hd : opsOk n ops.toList = true) {K : St → View → Prop} {Q : Exit → Act → World → Prop}
  (hK : ∀ st V a w, Inv w0 M V0 n st V a w → K st V → Q .normal a w) {st : St} {V : View} {a : Act} {w : World} (h : Inv w0 M V0 n st V a w) (hx : xseq P ops K L [] [] st V) :
  (Code.region id ops true).wp P Q a w := by
 unfold planOkB at hok
 split at hok
 ·rename_i h1 h2 h3
  have h2 := Nat.eq_of_beq_eq_true h2
  rw [lenP_eq] at h2
  rw [keysOf_eq] at h3
  obtain ⟨p1, p2, p3⟩ := planB_spec hok
  have hw : ∀ (i : Nat) (o : Oper) (z : Nat), ops[i]? = some o → waits o z = true → z < i := fun i o z ho hz => by
   have := edgesB_spec h1 i o z (by simpa using ho) hz
   omega
  have hlt : ∀ (i : Nat) (o : Oper), ops[i]? = some o → i < ops.size := fun i o ho => (Array.getElem?_eq_some_iff.1 ho).1
  refine wp_region_any hm ?_
  refine xseq_any hK (opsOk_spec hd) hw ops.size L _ st V a _ h2 (by simp) p1 p2 (fun i hi => ?_) p3 (fun i o z hi hl => ?_) h.drew hx
  ·simp [hi]
   have := memB_true (allB_spec h3 i (mem_upto hi))
   simpa using this
  ·simp [hi] at hl
 ·cases hok
end
def isPureK (o : Oper) : Bool := match o.op with | .move _ => true | .fieldAddr .. => true | .indexAddr .. => true | .binOp .. => true | _ => false
def isLoadK (o : Oper) : Bool := match o.op with | .load .. => true | _ => false
def fops (P : Program) (ops : Array Oper) (K : St → View → Prop) : List Nat → St → View → Prop
 | [], st, V => K st V
 | i :: L, st, V => match ops[i]? with
  | none => False
  | some o => match o.guard with
   | some _ => Stuck o
   | none => xop P o st V (fops P ops K L)
def fwait (ops : Array Oper) (ms : List Nat) (i : Nat) (oi : Oper) (j : Nat) : Bool := match ops[j]? with
 | none => false
 | some oj => match isPureK oi with
  | true => (match waits oj i with | true => true | false => oi.apart ops oj)
  | false => (match trW ms j i with | true => true | false => (match isLoadK oi, isLoadK oj with | true, true => oi.apart ops oj | _, _ => false))
def fgo (ops : Array Oper) (ms : List Nat) : List Nat → Bool
 | [] => true
 | i :: L => match Nat.blt i ops.size, memB i L, ops[i]? with
  | true, false, some o => (match o.guard with
   | some _ => false
   | none => (match allB (fun j => match waits o j with | true => false | false => fwait ops ms i o j) L with | true => fgo ops ms L | false => false))
  | _, _, _ => false
def fOkB (ops : Array Oper) (L : List Nat) : Bool := match edgesB 0 ops.toList, Nat.beq L.length ops.size, allB (fun i => memB i L) (upto ops.size), Region.noSelect ops with
 | true, true, true, true => fgo ops (masks ops.toList []) L
 | _, _, _, _ => false
section
variable {P : Program} {ops : Array Oper} {w0 : World} {M : Nat → Prop} {V0 : View} {n : Nat} {st : St} {V : View} {a : Act} {w : World}
def EnvOk (st : St) (a : Act) : Prop := ∀ k s, st.env k = some s → toVal st.mem s = some (a.tmps.getD k undef)
theorem EnvOk.opd (h : EnvOk st a) {x : Operand} {s : SV} (hx : X.opd st.env x = some s) : toVal st.mem s = some (a.eval x) := by
 cases x with
 | tmp t => exact h t s hx
 | const v =>
  cases v <;> simp only [X.opd, Option.some.injEq] at hx <;> subst hx <;> rfl
 | global g => simp only [X.opd, Option.some.injEq] at hx; subst hx; rfl
 | func f => simp only [X.opd, Option.some.injEq] at hx; subst hx; rfl
theorem EnvOk.val (h : EnvOk st a) {x : Operand} {v : Value} (hx : st.val x = some v) : a.eval x = v := by
 unfold St.val at hx
 split at hx
 ·rename_i s hs
  have := h.opd hs
  rw [hx] at this
  exact (Option.some.inj this).symm
 ·cases hx
theorem EnvOk.own (h : EnvOk st a) {x : Operand} {id off : Nat} (hx : X.opd st.env x = some (.own id off)) :
  ∃ b t cells, st.mem id = some (.box b t cells) ∧ a.eval x = .pointer (some ⟨b, off, none⟩) := by
 have := h.opd hx
 unfold toVal at this
 simp only at this
 split at this
 ·rename_i b t cells hm
  exact ⟨b, t, cells, hm, (Option.some.inj this).symm⟩
 ·cases this
theorem EnvOk.v (h : EnvOk st a) {x : Operand} {u : Value} (hx : X.opd st.env x = some (.v u)) : a.eval x = u := by
 have := h.opd hx
 exact (Option.some.inj this).symm
theorem pure_step (h : EnvOk st a) {o : Oper} (hk : isPureK o = true) {K : St → View → Prop} (hx : xop P o st V K) :
  ∃ s v, toVal st.mem s = some v ∧ (∀ w, (execOp a.eval o).run P w = .ok (.value v) w) ∧ K (st.put o.dst s) V := by
 obtain ⟨dst, op, type, pos, after, guard⟩ := o
 unfold xop at hx
 cases op <;> simp only [isPureK] at hk <;> try (exact absurd hk (by decide))
 case move x =>
  simp only [effOf] at hx
  split at hx
  ·rename_i s hs
   exact ⟨s, a.eval x, h.opd hs, fun w => rfl, hx⟩
  ·exact hx.no.elim
 case fieldAddr s x f =>
  simp only [effOf] at hx
  have hplace : ∀ (w : World) (k : Nat) (b off : Nat), fieldOff P s f = some k → (Instr.fieldAt s (.pointer (some ⟨b, off, none⟩)) f).run P w = .ok (.pointer (some ⟨b, off + k, none⟩)) w := by
   intro w k b off hk
   unfold fieldOff at hk
   split at hk
   ·rename_i fs hfs
    split at hk
    ·rename_i x' hx'
     split at hk
     ·cases hk
     ·rename_i z hne hz
      simp only [Option.some.injEq] at hk
      subst hk
      have hz0 : z ≠ 0 := fun e => hne e
      simp [Instr.fieldAt, run_underlying hfs, hx', Instr.sureAddr, fieldPlace, run_sizeOf hz, hz0, add_lit]
     ·cases hk
    ·cases hk
   ·cases hk
  split at hx
  ·rename_i id off k hx' hk
   obtain ⟨b, ty, cells, hm, he⟩ := h.own hx'
   exact ⟨_, .pointer (some ⟨b, off + k, none⟩), by simp [toVal, hm], fun w => by simp [execOp, he, hplace w k b off hk], hx⟩
  ·rename_i b off k hx' hk
   exact ⟨_, _, rfl, fun w => by simp [execOp, h.v hx', hplace w k b off hk], hx⟩
  ·exact hx.no.elim
 case indexAddr t x i =>
  simp only [effOf] at hx
  split at hx
  ·rename_i e he
   split at hx
   ·rename_i base len cap k m z hx' hi hz
    obtain ⟨b, off, hb, h0, hl, hK⟩ := hx.get
    subst hb
    refine ⟨_, _, rfl, fun w => ?_, hK⟩
    simp only [execOp, h.val hx', h.val hi]
    simp [Instr.indexAt, asIntOf, run_underlying he, run_sizeOf hz, h0, hl, add_lit]
   ·exact hx.no.elim
  ·rename_i len e he
   have hplace : ∀ (w : World) (k : IntKind) (m b off z : Nat), sizeB P e = some z → Nat.blt m len = true → (Instr.indexAt t (.pointer (some ⟨b, off, none⟩)) (.int k (.ofNat m))).run P w = .ok (.pointer (some ⟨b, off + m * z, none⟩)) w := by
    intro w k m b off z hz hl
    have hl : m < len := Nat.le_of_ble_eq_true hl
    have h0 : (0 : Int) ≤ Int.ofNat m ∧ Int.ofNat m < (len : Int) := ⟨Int.natCast_nonneg m, by simpa using hl⟩
    simp only [Instr.indexAt, asIntOf, Sem.run_bind, Result.andThen_ok, run_underlying he, Instr.sureAddr, pure_bind, Int.toNat_natCast, Int.ofNat_eq_natCast]
    simp [run_sizeOf hz, hl, add_lit]
   split at hx
   ·rename_i id off k m z hx' hi hz
    split at hx
    ·rename_i hl
     obtain ⟨b, ty, cells, hm, hev⟩ := h.own hx'
     refine ⟨_, .pointer (some ⟨b, off + m * z, none⟩), by simp [toVal, hm], fun w => ?_, hx⟩
     simp only [execOp, hev, h.val hi]
     rw [Sem.run_bind, hplace w k m b off z hz hl]; rfl
    ·exact hx.no.elim
   ·rename_i b off k m z hx' hi hz
    split at hx
    ·rename_i hl
     refine ⟨_, _, rfl, fun w => ?_, hx⟩
     simp only [execOp, h.v hx', h.val hi]
     rw [Sem.run_bind, hplace w k m b off z hz hl]; rfl
    ·exact hx.no.elim
   ·exact hx.no.elim
  ·exact hx.no.elim
 case binOp op t x y yt =>
  simp only [effOf] at hx
  split at hx
  ·rename_i u v hu hv
   split at hx
   ·obtain ⟨z, hz, hK⟩ := hx.get
    refine ⟨_, z, rfl, fun w => ?_, hK⟩
    simp only [execOp, h.val hu, h.val hv]
    rw [Sem.run_bind, hz w]; rfl
   ·unfold X.pureVal at hx
    split at hx
    ·rename_i z hz
     refine ⟨_, z, rfl, fun w => ?_, hx⟩
     simp only [execOp, h.val hu, h.val hv]
     exact run_value hz w
    ·exact hx.no.elim
  ·exact hx.no.elim
theorem load_step (h : Inv w0 M V0 n st V a w) {o : Oper} (hk : isLoadK o = true) {K : St → View → Prop} (hx : xop P o st V K) :
  ∃ s v, toVal st.mem s = some v ∧ (execOp a.eval o).run P w = .ok (.value v) w ∧ K (st.put o.dst s) V := by
 have hs := effOf_sound (P := P) h o
 obtain ⟨dst, op, type, pos, after, guard⟩ := o
 unfold xop at hx
 cases op <;> simp only [isLoadK] at hk <;> try (exact absurd hk (by decide))
 case load ty x =>
  generalize he : effOf P ⟨dst, .load ty x, type, pos, after, guard⟩ st = e at hs hx
  have hshape : (∃ s, e = .val s) ∨ (∃ t b off k, e = .ldv t b off k) ∨ e = .bad := by
   rw [← he]
   simp only [effOf]
   repeat' split
   all_goals first | exact .inl ⟨_, rfl⟩ | exact .inr (.inl ⟨_, _, _, _, rfl⟩) | exact .inr (.inr rfl)
  rcases hshape with ⟨s, rfl⟩ | ⟨t, b, off, k, rfl⟩ | rfl
  ·obtain ⟨v, h1, h2⟩ := hs
   exact ⟨s, v, h1, h2, hx⟩
  ·obtain ⟨l, hl, hV, hv⟩ := hx.get
   split at hv
   ·rename_i v hav
    exact ⟨_, v, rfl, hs l v hl hV hav, hv⟩
   ·exact hv.no.elim
  ·exact hx.no.elim
theorem sureAddr_looks (v : Value) : (Instr.sureAddr v).Looks := by
 unfold Instr.sureAddr
 split <;> trivial
theorem loadVar_looks (t : TypeId) (x : Addr) : (loadVar t x).Looks := by
 unfold loadVar
 refine Sem.Looks.bind ?_ fun b => ?_
 ·unfold isAgg
  refine (underlying_looks t).bind fun u => ?_
  split <;> trivial
 ·split
  ·exact (sizeOf_looks t).bind fun z => (loadCells_looks x z).bind fun _ => trivial
  ·exact load_looks _ _
theorem load_still {o : Oper} (hk : isLoadK o = true) (f : Operand → Value) {w w' : World} {nx : Next} (h : (execOp f o).run P w = .ok nx w') : w' = w ∧ ∃ v, nx = .value v := by
 obtain ⟨dst, op, type, pos, after, guard⟩ := o
 cases op <;> simp only [isLoadK] at hk <;> try (exact absurd hk (by decide))
 case load t x =>
  simp only [execOp, Sem.run_bind] at h
  have hl : (Instr.loadAt t (f x)).Looks := by
   unfold Instr.loadAt
   exact (sureAddr_looks _).bind fun _ => loadVar_looks _ _
  cases hr : (Instr.loadAt t (f x)).run P w with
  | ok v w1 =>
   rw [hr] at h
   have := hl.ok hr
   subst this
   simp only [Result.andThen_ok, Sem.run_pure, Result.ok.injEq] at h
   exact ⟨h.2.symm, v, h.1.symm⟩
  | halt x w1 => rw [hr] at h; simp [Result.andThen] at h
theorem wpAny_firstW {Q : Exit → Act → World → Prop} {i : Nat} {oi : Oper} {v : Value} (hi : ops[i]? = some oi) (hgi : oi.guard = none) (hsel : ∀ (j : Nat) (o : Oper) cs b, ops[j]? = some o → o.op ≠ .select cs b)
  (hQ0 : ∀ c a w, ¬ Q (.panic c) a w) (hQ1 : ¬ LetsOut Q) :
  ∀ (fuel : Nat) (listed : Array Bool) (a : Act) (w : World),
   (∀ j oj, ops[j]? = some oj → j ≠ i → listed.getD j true = false → trW (masks ops.toList []) j i = false → oi.apart ops oj = true ∧ isLoadK oj = true ∧ oj.guard = none) →
   (∀ k o z, listed.getD k false = true → ops[k]? = some o → waits o z = true → listed.getD z false = true) → listed.size = ops.size →
   i ∈ Region.ready .any ops listed → (execOp a.eval oi).run P w = .ok (.value v) w →
   wpAny P .any ops Q fuel (listed.setIfInBounds i true) (a.put oi.dst v) w → wpAny P .any ops Q (fuel + 1) listed a w := by
 intro fuel
 have hone : ∀ (listed : Array Bool) (K : Act → World → Prop) (a : Act) (w : World), (execOp a.eval oi).run P w = .ok (.value v) w → K (a.put oi.dst v) w → wpOp P ops Q i K a w := fun listed K a w hr hk => by
  unfold wpOp
  simp only [hi]
  rw [if_pos (by simp [Region.wanted, hgi])]
  left
  unfold Oper.wp
  rw [hr]
  exact hk
 induction fuel with
 | zero =>
  intro listed a w hfree hcl hsz hr hy H
  refine ⟨fun h => (by rw [h] at hr; cases hr), fun j hj => ?_⟩
  by_cases hji : j = i
  ·subst hji; exact hone listed _ _ _ hy H
  ·have := ready_mono hj hji
   rw [H.1] at this
   cases this
 | succ fuel ih =>
  intro listed a w hfree hcl hsz hr hy H
  refine ⟨fun h => (by rw [h] at hr; cases hr), fun j hj => ?_⟩
  by_cases hji : j = i
  ·subst hji; exact hone listed _ _ _ hy H
  ·have h1 := H.2 j (ready_mono hj hji)
   obtain ⟨hjun, oj, hoj, hall⟩ := mem_ready.1 hj
   have hiun := (mem_ready.1 hr).1
   have hjt : trW (masks ops.toList []) j i = false := by
    cases ht : trW (masks ops.toList []) j i with
    | false => rfl
    | true =>
     have hil : listed.getD i false = true := trW_closed (ops := ops) (C := fun z => listed.getD z false = true) (fun a o z ha hoa hwa => hcl a o z ha hoa hwa) j i
      (fun o2 z2 ho2 hw2 => by
       rw [hoj, Option.some.injEq] at ho2; subst ho2
       obtain ⟨e, he, hb, hon⟩ := waitsL_iff.1 hw2
       rw [← hon]
       exact hall e (by simpa using he) (by rw [← bindsB_eq]; exact hb)) ht
     have hlt : i < listed.size := by rw [hsz]; exact (Array.getElem?_eq_some_iff.1 hi).1
     simp [hlt] at hiun hil
     rw [hiun] at hil; cases hil
   obtain ⟨hap, hld, hgj⟩ := hfree j oj hoj hji hjun hjt
   obtain ⟨a1, a2, a3⟩ := Oper.apart_spec hap
   unfold wpOp at h1 ⊢
   simp only [hoj] at h1 ⊢
   rw [if_pos (by simp [Region.wanted, hgj])] at h1 ⊢
   rcases h1 with h1 | ⟨_, h1⟩
   rotate_left
   ·exact absurd h1 hQ1
   left
   unfold Oper.wp at h1 ⊢
   rw [execOp_put oj (fun cs b => hsel j oj cs b hoj) a oi.dst v a1] at h1
   cases hrun : (execOp a.eval oj).run P w with
   | ok nx w' =>
    rw [hrun] at h1
    obtain ⟨rfl, u, rfl⟩ := load_still hld _ hrun
    simp only [Oper.upon] at h1 ⊢
    refine ih (listed.setIfInBounds j true) (a.put oj.dst u) w' (fun k ok hk hki hun ht => hfree k ok hk hki ?_ ht) (fun k o z hk ho hw => ?_) (by simp [hsz]) (ready_mono hr (Ne.symm hji)) ?_ ?_
    ·by_cases hjk : j = k
     ·subst hjk; exact hjun
     ·rw [getD_set_ne true hjk] at hun; exact hun
    ·by_cases hjk : j = k
     ·subst hjk
      rw [hoj, Option.some.injEq] at ho; subst ho
      obtain ⟨e, he, hb, hon⟩ := waitsL_iff.1 hw
      rw [← hon]
      exact getD_set_true (hall e (by simpa using he) (by rw [← bindsB_eq]; exact hb))
     ·rw [getD_set_ne false hjk] at hk
      exact getD_set_true (hcl k o z hk ho hw)
    ·rw [execOp_put oi (fun cs b => hsel i oi cs b hi) a oj.dst u a3]; exact hy
    ·rw [Array.setIfInBounds_comm _ _ hji, ← Act.put_comm a v u a2]
     exact h1
   | halt x w' =>
    rw [hrun] at h1
    cases x <;> simp only [Oper.upon] at h1 ⊢
    all_goals first | exact absurd h1 (hQ0 _ _ _) | exact h1
theorem fgo_cons {ms : List Nat} {i : Nat} {L : List Nat} (hg : fgo ops ms (i :: L) = true) : ∃ o, ops[i]? = some o ∧ o.guard = none ∧ i < ops.size ∧ ¬ i ∈ L ∧ (∀ j ∈ L, waits o j = false ∧ fwait ops ms i o j = true) ∧ fgo ops ms L = true := by
 unfold fgo at hg
 split at hg
 rotate_left
 ·cases hg
 rename_i o hlt hmem ho
 split at hg
 ·cases hg
 rename_i hgo
 split at hg
 rotate_left
 ·cases hg
 rename_i hall
 refine ⟨o, ho, hgo, Nat.le_of_ble_eq_true hlt, memB_false hmem, fun j hj => ?_, hg⟩
 have := allB_spec hall j hj
 split at this
 ·cases this
 ·rename_i hww; exact ⟨hww, this⟩
theorem fgo_guard {ms : List Nat} {j : Nat} {oj : Oper} {L : List Nat} (hg : fgo ops ms L = true) (hj : j ∈ L) (hoj : ops[j]? = some oj) : oj.guard = none := by
 induction L with
 | nil => cases hj
 | cons i L ih =>
  obtain ⟨o, ho, hgo, _, _, _, hg⟩ := fgo_cons hg
  rcases List.mem_cons.1 hj with rfl | hj
  ·rw [ho, Option.some.injEq] at hoj; subst hoj; exact hgo
  ·exact ih hg hj
theorem fops_any {K : St → View → Prop} {Q : Exit → Act → World → Prop} (hK : ∀ st V a w, Inv w0 M V0 n st V a w → K st V → Q .normal a w) (hd : ∀ (i : Nat) (o : Oper), ops[i]? = some o → ∀ d, o.dst = some d → d < n)
  (hw : ∀ (i : Nat) (o : Oper) (z : Nat), ops[i]? = some o → waits o z = true → z < i) (hsel : ∀ (j : Nat) (o : Oper) cs b, ops[j]? = some o → o.op ≠ .select cs b)
  (hQ0 : ∀ c a w, ¬ Q (.panic c) a w) (hQ1 : ¬ LetsOut Q) :
  ∀ (L : List Nat) (listed : Array Bool) (st : St) (V : View) (a : Act) (w : World), listed.size = ops.size → (∀ i, i < ops.size → (listed.getD i true = false ↔ i ∈ L)) →
   (∀ k o z, listed.getD k false = true → ops[k]? = some o → waits o z = true → listed.getD z false = true) → fgo ops (masks ops.toList []) L = true →
   Inv w0 M V0 n st V a w → fops P ops K L st V → wpAny P .any ops Q L.length listed a w
 | [], listed, st, V, a, w, hsz, hl, hcl, hg, h, hx => by
  refine wpAny_done ?_ (hK _ _ _ _ h hx) 0
  cases hr : Region.ready .any ops listed with
  | nil => rfl
  | cons x r =>
   obtain ⟨h1, o, ho, _⟩ := mem_ready.1 (show x ∈ Region.ready .any ops listed by rw [hr]; simp)
   have := (hl x (Array.getElem?_eq_some_iff.1 ho).1).1 h1
   cases this
 | i :: L, listed, st, V, a, w, hsz, hl, hcl, hg, h, hx => by
  obtain ⟨o, ho, hgo, hi, hnm, hno, hg⟩ := fgo_cons hg
  unfold fops at hx
  rw [ho] at hx
  simp only [hgo] at hx
  have hun : listed.getD i true = false := (hl i hi).2 (by simp)
  have hready : i ∈ Region.ready .any ops listed := by
   refine mem_ready.2 ⟨hun, o, ho, fun e he hb => ?_⟩
   have hwe : waits o e.on = true := waitsL_iff.2 ⟨e, by simpa using he, by rw [bindsB_eq]; exact hb, rfl⟩
   have hlt2 := hw i o e.on ho hwe
   have hnl : ¬ (e.on ∈ i :: L) := fun hm => by
    rcases List.mem_cons.1 hm with hm | hm
    ·omega
    ·rw [(hno _ hm).1] at hwe; cases hwe
   have hlt3 : e.on < listed.size := by rw [hsz]; omega
   have := mt (hl e.on (by omega)).1 hnl
   simp [hlt3] at this ⊢
   exact this
  have hsz' : (listed.setIfInBounds i true).size = ops.size := by simp [hsz]
  have hl' : ∀ k, k < ops.size → ((listed.setIfInBounds i true).getD k true = false ↔ k ∈ L) := fun k hk => by
   by_cases hki : k = i
   ·subst hki
    simp [hsz, hk, hnm]
   ·rw [getD_set_ne true (Ne.symm hki)]
    rw [hl k hk]
    simp [hki]
  have hcl' : ∀ k o z, (listed.setIfInBounds i true).getD k false = true → ops[k]? = some o → waits o z = true → (listed.setIfInBounds i true).getD z false = true := fun k ok z hk hok hwz => by
   by_cases hki : k = i
   ·subst hki
    rw [ho, Option.some.injEq] at hok; subst hok
    obtain ⟨e, he, hb, hon⟩ := waitsL_iff.1 hwz
    obtain ⟨_, o2, ho2, hall2⟩ := mem_ready.1 hready
    rw [ho, Option.some.injEq] at ho2; subst ho2
    rw [← hon]
    exact getD_set_true (hall2 e (by simpa using he) (by rw [← bindsB_eq]; exact hb))
   ·rw [getD_set_ne false (Ne.symm hki)] at hk
    exact getD_set_true (hcl k ok z hk hok hwz)
  have ih := fun st V a w => fops_any hK hd hw hsel hQ0 hQ1 L (listed.setIfInBounds i true) st V a w hsz' hl' hcl' hg
  cases hpk : isPureK o with
  | true =>
   obtain ⟨s, v, hv, hr, hk⟩ := pure_step (fun k s hk => h.env k s hk) hpk hx
   refine wpAny_first ho hsel (fun c a w hh => absurd hh (hQ0 _ _ _)) _ listed a w (fun j oj hoj hji hju hne => ?_) hready (.inl ⟨by simp [Region.wanted, hgo], hr⟩) (ih _ _ _ _ (h.put (hd i o ho) hv) hk)
   have hjl := (hl j (Array.getElem?_eq_some_iff.1 hoj).1).1 hju
   rcases List.mem_cons.1 hjl with hjl | hjl
   ·exact absurd hjl hji
   ·have := (hno j hjl).2
    unfold fwait at this
    rw [hoj] at this
    simp only [hpk] at this
    split at this
    ·rename_i hwj
     obtain ⟨e, he, hb, hon⟩ := waitsL_iff.1 hwj
     exact absurd hon (hne e (by simpa using he) (by rw [← bindsB_eq]; exact hb))
    ·exact this
  | false =>
   cases hlk : isLoadK o with
   | true =>
    obtain ⟨s, v, hv, hr, hk⟩ := load_step h hlk hx
    refine wpAny_firstW ho hgo hsel hQ0 hQ1 _ listed a w (fun j oj hoj hji hju ht => ?_) hcl hsz hready hr (ih _ _ _ _ (h.put (hd i o ho) hv) hk)
    have hjl := (hl j (Array.getElem?_eq_some_iff.1 hoj).1).1 hju
    rcases List.mem_cons.1 hjl with hjl | hjl
    ·exact absurd hjl hji
    ·have := (hno j hjl).2
     unfold fwait at this
     rw [hoj] at this
     simp only [hpk, hlk, ht] at this
     split at this
     ·rename_i hlj
      have hgj : oj.guard = none := fgo_guard hg hjl hoj
      exact ⟨this, hlj, hgj⟩
     ·cases this
   | false =>
    refine ⟨fun h0 => (by rw [h0] at hready; cases hready), fun j hj => ?_⟩
    obtain ⟨hju, oj, hoj, hallj⟩ := mem_ready.1 hj
    have hjl := (hl j (Array.getElem?_eq_some_iff.1 hoj).1).1 hju
    rcases List.mem_cons.1 hjl with hjl | hjl
    ·subst hjl
     unfold wpOp
     simp only [ho]
     rw [if_pos (by simp [Region.wanted, hgo])]
     exact .inl (xop_sound h hx (hd j o ho) fun st' V' a' w' hi' hk' => ih _ _ _ _ hi' hk')
    ·exfalso
     have := (hno j hjl).2
     unfold fwait at this
     rw [hoj] at this
     simp only [hpk, hlk] at this
     split at this
     ·rename_i ht
      have hil : listed.getD i false = true := trW_closed (ops := ops) (C := fun z => listed.getD z false = true) (fun a o z ha hoa hwa => hcl a o z ha hoa hwa) j i
       (fun o2 z2 ho2 hw2 => by
        rw [hoj, Option.some.injEq] at ho2; subst ho2
        obtain ⟨e, he, hb, hon⟩ := waitsL_iff.1 hw2
        rw [← hon]
        exact hallj e (by simpa using he) (by rw [← bindsB_eq]; exact hb)) ht
      have hlt4 : i < listed.size := by rw [hsz]; exact hi
      simp [hlt4] at hun hil
      rw [hun] at hil; cases hil
     ·cases this
theorem drawF_sound (hm : P.follows .mixedOrders = true) {id : Nat} {L : List Nat} (hok : fOkB ops L = true) (hdk : opsOk n ops.toList = true) {K : St → View → Prop} {Q : Exit → Act → World → Prop}
  (hK : ∀ st V a w, Inv w0 M V0 n st V a w → K st V → Q .normal a w) {st : St} {V : View} {a : Act} {w : World} (h : Inv w0 M V0 n st V a w) (hx : fops P ops K L st V) :
  (Code.region id ops true).wp P Q a w := by
 unfold fOkB at hok
 split at hok
 rotate_left
 ·cases hok
 rename_i h1 h2 h3 h4
 have h2 := Nat.eq_of_beq_eq_true h2
 refine wp_mono (Q := fun e a w => e = .normal ∧ Q .normal a w) ?_ (fun e a w he => by obtain ⟨rfl, hq⟩ := he; exact hq)
 refine wp_region_any hm ?_
 rw [← h2]
 refine fops_any (K := K) (fun st V a w h hk => ⟨rfl, hK _ _ _ _ h hk⟩) (fun i o ho => opsOk_spec hdk o (List.mem_of_getElem? (by simpa using ho))) (fun i o z ho hz => by
   have := edgesB_spec h1 i o z (by simpa using ho) hz
   omega) (Region.noSelect_spec h4) (fun c a w he => by cases he.1) (fun ⟨a, w, he⟩ => by cases he.1) L _ st V a _ (by simp [h2]) (fun i hi => ?_) (fun k o z hk => ?_) hok h.drew hx
 ·have := memB_true (allB_spec h3 i (mem_upto hi))
  simp [h2, hi, this]
 ·exfalso
  by_cases hkk : k < L.length
  ·simp [hkk] at hk
  ·simp [hkk] at hk
end
def View.cut (V : View) (b : Nat) : View := fun k o => if k = b then none else V k o
theorem View.cut_of {V : View} {b k o : Nat} {v : Value} (h : V k o = some v) (hk : k ≠ b) : V.cut b k o = some v := by unfold View.cut; rw [if_neg hk]; exact h
theorem View.cut_some {V : View} {b k o : Nat} {v : Value} (h : V.cut b k o = some v) : k ≠ b ∧ V k o = some v := by
 unfold View.cut at h
 split at h
 ·cases h
 ·exact ⟨by assumption, h⟩
def asL : Plan → Option (Nat × Plan)
 | (k, [id]) :: L => (match Nat.beq k 2000 with | true => some (id, L) | false => none)
 | _ => none
def backK (V : View) (id b : Nat) (t : TypeId) (cells : List Value) (K : St → View → Prop) : St → View → Prop := fun st' V' => match st'.mem id with
 | none => V.le (V'.cut b) → K ⟨st'.env, upd st'.mem id (.box b t cells)⟩ (V'.cut b)
 | some _ => False
def lendR (id : Nat) (run : (St → View → Prop) → St → View → Prop) (K : St → View → Prop) (st : St) (V : View) : Prop := match st.mem id with
 | some (.box b t cells) => V.le (V.add b cells) → run (backK V id b t cells K) (st.forget id) (V.add b cells)
 | _ => False
section
variable {P : Program} {w0 : World} {M : Nat → Prop} {V0 : View} {n : Nat}
theorem lend_sound {c : Code} {run : (St → View → Prop) → St → View → Prop}
  (hrun : ∀ (w0 : World) (M : Nat → Prop) (V0 : View) (K : St → View → Prop) (Q : Exit → Act → World → Prop), (∀ st V a w, Inv w0 M V0 n st V a w → K st V → Q .normal a w) → ∀ st V a w, Inv w0 M V0 n st V a w → run K st V → c.wp P Q a w)
  {id : Nat} {K : St → View → Prop} {Q : Exit → Act → World → Prop} (hK : ∀ st V a w, Inv w0 M V0 n st V a w → K st V → Q .normal a w) {st : St} {V : View} {a : Act} {w : World} (h : Inv w0 M V0 n st V a w) (hx : lendR id run K st V) : c.wp P Q a w := by
 unfold lendR at hx
 split at hx
 rotate_left
 ·exact hx.elim
 rename_i b t cells hm
 have hbox : Res.ok w V (.box b t cells) := h.mp.ok id _ hm
 obtain ⟨hcells, hnone⟩ := hbox
 have hle : V.le (V.add b cells) := View.add_le hnone
 have hdel : ∀ i r, del st.mem id i = some r → i ≠ id ∧ st.mem i = some r := fun i r hi => by
  by_cases h : i = id
  ·subst h; simp [del] at hi
  ·exact ⟨h, by rwa [del_ne _ h] at hi⟩
 have hfree : ∀ i r, del st.mem id i = some r → r.blk ≠ some b := fun i r hi hb => by
  obtain ⟨h1, h2⟩ := hdel i r hi
  exact h.mp.apart i id r _ b h1 h2 hm hb rfl
 have hpre : MPre (del st.mem id) (V.add b cells) w := by
  refine ⟨fun b' o v hv => ?_, fun i r hi => ?_, fun i j r r' b' hij hi hj => h.mp.apart i j r r' b' hij (hdel i r hi).2 (hdel j r' hj).2⟩
  ·unfold View.add at hv
   split at hv
   ·rename_i he
    subst he
    rw [cell_box hcells]; exact hv
   ·exact h.mp.sub b' o v hv
  ·obtain ⟨h1, h2⟩ := hdel i r hi
   refine (h.mp.ok i r h2).keep (fun _ _ => rfl) fun b' hb' o hn => ?_
   have : b' ≠ b := fun e => hfree i r hi (by rw [hb', e])
   unfold View.add
   rw [if_neg this]; exact hn
 have hf := h.forget id
 have hin : Inv w (blksM (del st.mem id)) (V.add b cells) n (st.forget id) (V.add b cells) a w :=
  ⟨hf.defers, hf.size, hf.env, hpre, Kept.refl _ _, ⟨View.le_refl _, fun _ _ _ hx => .inl hx⟩, fun b hb => .inl hb⟩
 refine hrun w (blksM (del st.mem id)) (V.add b cells) _ Q (fun st' V' a' w' h' hk => ?_) _ _ _ _ hin (hx hle)
 unfold backK at hk
 split at hk
 rotate_left
 ·exact hk.elim
 rename_i hm'
 have hblt : b < w.heap.size := (Array.getElem?_eq_some_iff.1 hcells).1
 have hMb : ¬ blksM (del st.mem id) b := fun ⟨i, r, hi, hb⟩ => hfree i r hi hb
 have hbk : w'.heap[b]? = w.heap[b]? := h'.kept.block b hblt hMb
 have hout : ∀ i r, st'.mem i = some r → r.blk ≠ some b := fun i r hi hb => by
  rcases h'.new b ⟨i, r, hi, hb⟩ with h1 | h1
  ·exact hMb h1
  ·omega
 have hup : ∀ i r, upd st'.mem id (.box b t cells) i = some r → (i = id ∧ r = .box b t cells) ∨ (i ≠ id ∧ st'.mem i = some r) := fun i r hi => by
  by_cases h : i = id
  ·subst h; rw [upd_same, Option.some.injEq] at hi; exact .inl ⟨rfl, hi.symm⟩
  ·rw [upd_ne _ _ h] at hi; exact .inr ⟨h, hi⟩
 have hVc : V.le (V'.cut b) := fun k o u hu => by
  have hkb : k ≠ b := fun e => by rw [e, hnone o] at hu; cases hu
  exact View.cut_of (h'.grows.1 k o u (hle k o u hu)) hkb
 have hMM : ∀ k, blksM (del st.mem id) k → M k ∨ w0.heap.size ≤ k := fun k ⟨i, r, hi, hb⟩ => h.new k ⟨i, r, (hdel i r hi).2, hb⟩
 refine hK _ _ _ _ ⟨h'.defers, h'.size, fun k s hs => ?_, ⟨fun b' o u hu => h'.mp.sub b' o u (View.cut_some hu).2, fun i r hi => ?_, fun i j r r' c hij hi hj hb hb' => ?_⟩,
  ⟨h'.kept.os.trans h.kept.os, h'.kept.tape.trans h.kept.tape, h'.kept.output.trans h.kept.output, Nat.le_trans h.kept.size h'.kept.size, fun k hk0 hMk => ?_⟩,
  ⟨View.le_trans h.grows.1 hVc, fun b' o u hu => ?_⟩, fun b' hb' => ?_⟩ (hk hVc)
 ·have he := h'.env k s hs
  show toVal (upd st'.mem id _) s = _
  rw [← he]
  refine toVal_of fun i hi => upd_ne _ _ fun e => ?_
  subst e
  cases s with
  | v z => cases hi
  | kb z => cases hi
  | own i o => simp only [SV.name, Option.some.injEq] at hi; subst hi; simp [toVal, hm'] at he
  | row i => simp only [SV.name, Option.some.injEq] at hi; subst hi; simp [toVal, hm'] at he
 ·rcases hup i r hi with ⟨_, rfl⟩ | ⟨h1, h2⟩
  ·exact ⟨by rw [hbk]; exact hcells, fun o => by simp [View.cut]⟩
  ·exact (h'.mp.ok i r h2).keep (fun _ _ => rfl) fun b' _ o hn => by unfold View.cut; split <;> first | rfl | exact hn
 ·rcases hup i r hi with ⟨h1, rfl⟩ | ⟨h1, h2⟩
  ·rcases hup j r' hj with ⟨h3, rfl⟩ | ⟨h3, h4⟩
   ·exact hij (h1.trans h3.symm)
   ·simp only [Res.blk, Option.some.injEq] at hb
    exact hout j r' h4 (by rw [hb', hb])
  ·rcases hup j r' hj with ⟨h3, rfl⟩ | ⟨h3, h4⟩
   ·simp only [Res.blk, Option.some.injEq] at hb'
    exact hout i r h2 (by rw [hb, hb'])
   ·exact h'.mp.apart i j r r' c hij h2 h4 hb hb'
 ·rw [h'.kept.block k (Nat.lt_of_lt_of_le hk0 h.kept.size) (fun hb => ?_), h.kept.block k hk0 hMk]
  rcases hMM k hb with h1 | h1
  ·exact hMk h1
  ·omega
 ·obtain ⟨h1, h2⟩ := View.cut_some hu
  rcases h'.grows.2 b' o u h2 with h3 | h3 | h3
  ·unfold View.add at h3; rw [if_neg h1] at h3; exact h.grows.2 b' o u h3
  ·exact .inr (.inl (Nat.le_trans h.kept.size h3))
  ·rcases hMM b' h3 with h4 | h4
   ·exact .inr (.inr h4)
   ·exact .inr (.inl h4)
 ·obtain ⟨i, r, hi, hb⟩ := hb'
  rcases hup i r hi with ⟨h1, rfl⟩ | ⟨h1, h2⟩
  ·exact h.new b' ⟨id, _, hm, hb⟩
  ·rcases h'.new b' ⟨i, r, h2, hb⟩ with h3 | h3
   ·exact hMM b' h3
   ·exact .inr (Nat.le_trans h.kept.size h3)
end
abbrev Plans := List (Nat × Plan)
def planAt (id : Nat) : Plans → Option Plan
 | [] => none
 | (i, L) :: l => match Nat.beq i id with | true => some L | false => planAt id l
def asF : Plan → Option (List Nat)
 | [(k, F)] => (match Nat.beq k 1000 with | true => some F | false => none)
 | _ => none
def ycode (P : Program) (pl : Plans) : Code → (Ex → St → View → Prop) → St → View → Prop
 | .skip, K, st, V => K .normal st V
 | .region _ ops false, K, st, V => xops P ops (K .normal) ops.toList st V
 | .region id ops true, K, st, V => match planAt id pl with
  | some L => (match asF L with
   | some F => fops P ops (K .normal) F st V
   | none => (match asL L with
    | some (i, L') => lendR i (fun K => xseq P ops K L' [] []) (K .normal) st V
    | none => xseq P ops (K .normal) L [] [] st V))
  | none => False
 | .seq a b, K, st, V => ycode P pl a (fun e st V => match e with | .normal => ycode P pl b K st V | .ret => K .ret st V | .exit i => K (.exit i) st V) st V
 | .cond c a b, K, st, V => match opd st.env c with
  | some (.kb true) => ycode P pl a K st V
  | some (.kb false) => ycode P pl b K st V
  | some (.v (.bool c)) => Br c (ycode P pl a K st V) (ycode P pl b K st V)
  | _ => False
 | .block id b, K, st, V => ycode P pl b (fun e st V => match e with
   | .exit id' => (match Nat.beq id' id with | true => K .normal st V | false => K (.exit id') st V)
   | .normal => K .normal st V
   | .ret => K .ret st V) st V
 | .loop b, K, st, V => LoopN (ycode P pl b) K st V
 | .exit id, K, st, V => K (.exit id) st V
 | .ret, K, st, V => K .ret st V
 | _, _, _, _ => False
def yfun (P : Program) (pl : Plans) (fn : Func) (args : List SV) (mem : Nat → Option Res) (V : View) (R : Value → View → List Res → Prop) : Prop :=
 match fn.body with
 | some c => ycode P pl c (fun e st V => match e with
   | .exit _ => False
   | _ => match readAll P st fn.results.toList with
    | some l => (match toVals st.mem l with
     | some vs => RetN (packVals vs) st.mem V R
     | none => False)
    | none => False) ⟨initEnv args 0, mem⟩ V
 | none => False
def ycodeOk (pl : Plans) (n : Nat) : Code → Bool
 | .region _ ops false => opsOk n ops.toList
 | .region id ops true => match planAt id pl with
  | some L => (match (match asF L with | some F => fOkB ops F | none => (match asL L with | some (_, L') => planOkB ops L' | none => planOkB ops L)) with | true => opsOk n ops.toList | false => false)
  | none => false
 | .seq a b => match ycodeOk pl n a with | true => ycodeOk pl n b | false => false
 | .cond _ a b => match ycodeOk pl n a with | true => ycodeOk pl n b | false => false
 | .block _ b => ycodeOk pl n b
 | .loop b => ycodeOk pl n b
 | _ => true
section
variable {P : Program} {w0 : World} {M : Nat → Prop} {V0 : View} {n : Nat}
theorem ycode_sound {pl : Plans} (hm : P.follows .mixedOrders = true) : ∀ (c : Code) (K : Ex → St → View → Prop) (Q : Exit → Act → World → Prop), (∀ e st V a w, Inv w0 M V0 n st V a w → K e st V → Q (exOf e) a w) →
  ∀ (st : St) (V : View) (a : Act) (w : World), ycodeOk pl n c = true → Inv w0 M V0 n st V a w → ycode P pl c K st V → c.wp P Q a w
 | .skip, K, Q, hK, st, V, a, w, _, h, hx => wp_skip (hK _ _ _ _ _ h hx)
 | .region id ops false, K, Q, hK, st, V, a, w, hok, h, hx =>
  wp_region_list (xops_sound (fun st V a w h hx => hK _ _ _ _ _ h hx) ops.toList st V a w (opsOk_spec hok) h hx)
 | .region id ops true, K, Q, hK, st, V, a, w, hok, h, hx => by
  unfold ycodeOk at hok
  unfold ycode at hx
  split at hok
  ·rename_i L hL
   rw [hL] at hx
   simp only at hx
   split at hok
   ·rename_i hp
    split at hp
    ·rename_i F hF
     rw [hF] at hx
     exact drawF_sound hm hp hok (fun st V a w h hx => hK .normal _ _ _ _ h hx) h hx
    ·rename_i hF
     rw [hF] at hx
     simp only at hx
     split at hp
     ·rename_i i L' hL'
      rw [hL'] at hx
      exact lend_sound (fun w0 M V0 K Q hK st V a w h hx => draw_sound hm hp hok hK h hx) (fun st V a w h hx => hK .normal _ _ _ _ h hx) h hx
     ·rename_i hL'
      rw [hL'] at hx
      exact draw_sound hm hp hok (fun st V a w h hx => hK .normal _ _ _ _ h hx) h hx
   ·cases hok
  ·cases hok
 | .seq x y, K, Q, hK, st, V, a, w, hok, h, hx => by
  unfold ycodeOk at hok
  split at hok
  ·rename_i hok1
   refine wp_seq (ycode_sound hm x _ _ (fun e st V a w h hx => ?_) st V a w hok1 h hx)
   cases e with
   | normal => exact ycode_sound hm y K Q hK st V a w hok h hx
   | ret => exact hK .ret _ _ _ _ h hx
   | exit i => exact hK (.exit i) _ _ _ _ h hx
  ·cases hok
 | .cond c x y, K, Q, hK, st, V, a, w, hok, h, hx => by
  unfold ycodeOk at hok
  split at hok
  ·rename_i hok1
   unfold ycode at hx
   split at hx
   ·rename_i hc; exact wp_cond_true (h.kb hc) (ycode_sound hm x K Q hK st V a w hok1 h hx)
   ·rename_i hc; exact wp_cond_false (h.kb hc) (ycode_sound hm y K Q hK st V a w hok h hx)
   ·rename_i b hc
    refine wp_cond (h.v hc) ?_
    cases b
    ·exact ycode_sound hm y K Q hK st V a w hok h (hx.no rfl)
    ·exact ycode_sound hm x K Q hK st V a w hok1 h (hx.yes rfl)
   ·exact hx.elim
  ·cases hok
 | .block id x, K, Q, hK, st, V, a, w, hok, h, hx => by
  refine wp_block (ycode_sound hm x _ _ (fun e st V a w h2 hx2 => ?_) st V a w hok h (show ycode P pl (.block id x) K st V from hx))
  cases e with
  | normal => exact hK .normal _ _ _ _ h2 hx2
  | ret => exact hK .ret _ _ _ _ h2 hx2
  | exit i =>
   cases hi : Nat.beq i id with
   | true =>
    simp only [hi] at hx2
    have := Nat.eq_of_beq_eq_true hi
    subst this
    simp only [exOf, Exit.inBlock, if_true]
    exact hK .normal _ _ _ _ h2 hx2
   | false =>
    simp only [hi] at hx2
    have hne : i ≠ id := fun e => by subst e; rw [Nat.beq_refl] at hi; cases hi
    simp only [exOf, Exit.inBlock, if_neg hne]
    exact hK (.exit i) _ _ _ _ h2 hx2
 | .loop x, K, Q, hK, st, V, a, w, hok, h, hx => by
  obtain ⟨I, ⟨k, st1, hw, hk⟩, hround⟩ := hx.get
  refine wp_loop (fun a w => ∃ k, LoopJ w0 M V0 n I k a w) (leastOf (LoopJ w0 M V0 n I)) ⟨k, st1, V, hk, hw _ _ _ _ _ _ h⟩ fun a w hJ => ?_
  obtain ⟨st, V, hI, h⟩ := leastOf_spec hJ
  refine ycode_sound hm x _ _ (fun e st V a' w' h hx => ?_) st V a w hok h (hround _ st V hI)
  cases e with
  | normal =>
   obtain ⟨m, st2, hm, hw2, hI'⟩ := hx
   have h2 := hw2 _ _ _ _ _ _ h
   exact ⟨⟨m, st2, V, hI', h2⟩, Nat.lt_of_le_of_lt (leastOf_le ⟨st2, V, hI', h2⟩) hm⟩
  | ret => exact hK .ret _ _ _ _ h hx
  | exit i => exact hK (.exit i) _ _ _ _ h hx
 | .exit id, K, Q, hK, st, V, a, w, _, h, hx => wp_exit (hK _ _ _ _ _ h hx)
 | .ret, K, Q, hK, st, V, a, w, _, h, hx => wp_ret (hK _ _ _ _ _ h hx)
 | .rangeFunc .., K, Q, hK, st, V, a, w, _, h, hx => hx.elim
 | .scope _, K, Q, hK, st, V, a, w, _, h, hx => hx.elim
 | .label _, K, Q, hK, st, V, a, w, _, h, hx => hx.elim
 | .goto _, K, Q, hK, st, V, a, w, _, h, hx => hx.elim
 | .refuse _, K, Q, hK, st, V, a, w, _, h, hx => hx.elim
def yfnOk (pl : Plans) (fn : Func) (k : Nat) : Bool := match fn.body with
 | some c => (match Nat.ble k fn.ntmps with | true => ycodeOk pl fn.ntmps c | false => false)
 | none => false
theorem does_of_yfun (pl : Plans) (hm : P.follows .mixedOrders = true) {f : FuncId} {fn : Func} {args : List SV} {vs : List Value} {ms : List (Nat × Res)} {V : View} {R : Value → View → List Res → Prop}
  (hf : P.funcs[f]? = some fn) (hok : yfnOk pl fn args.length = true) (ha : toVals (memOf ms) args = some vs) (hx : yfun P pl fn args (memOf ms) V R) : Does P f vs V (ms.map (·.2)) R := by
 intro w hp
 unfold yfun at hx
 unfold yfnOk at hok
 split at hx
 ·rename_i c hb
  simp only [hb] at hok
  split at hok
  ·rename_i hle
   have hle := Nat.le_of_ble_eq_true hle
   refine calls_of_wp hf hb ?_
   have hblk : ∀ b, blksM (memOf ms) b → blksOf (ms.map (·.2)) b := by
    intro b ⟨i, r, hr, hb⟩
    exact ⟨r, List.mem_map.2 ⟨(i, r), memOf_mem hr, rfl⟩, hb⟩
   have key : ∀ st V' a w', Inv w (blksM (memOf ms)) V fn.ntmps st V' a w' →
     (match readAll P st fn.results.toList with
      | some l => (match toVals st.mem l with
       | some vs => RetN (packVals vs) st.mem V' R
       | none => False)
      | none => False) →
     a.defers = [] ∧ ∃ v, (results fn a.tmps).run P w' = .ok v w' ∧ ∃ v1 V1 bs', Ending.returned v = .returned v1 ∧ R v1 V1 bs' ∧ Pre V1 bs' w' ∧ Kept (blksOf (ms.map (·.2))) w w' ∧ Grows (blksOf (ms.map (·.2))) w.heap.size V V1 ∧
      ∀ b, blksOf bs' b → blksOf (ms.map (·.2)) b ∨ w.heap.size ≤ b := by
    intro st V' a w' h hk
    refine ⟨h.defers, ?_⟩
    split at hk
    ·rename_i l hl
     obtain ⟨vs, hvs, hrun⟩ := results_sound h hl
     rw [hvs] at hk
     obtain ⟨ids, hnd, bs, hids, hR⟩ := hk.get
     have hget : ∀ (i : Nat) (r : Res), bs[i]? = some r → ∃ k, ids[i]? = some k ∧ st.mem k = some r := by
      intro i r hi
      have := congrArg (fun l => l[i]?) hids
      simp only [List.getElem?_map, hi, Option.map_some] at this
      cases hk : ids[i]? with
      | none => rw [hk] at this; cases this
      | some k => rw [hk] at this; exact ⟨k, rfl, by simpa using this⟩
     refine ⟨_, hrun, _, V', bs, rfl, hR, ⟨h.mp.sub, fun i r hi => ?_, fun i j r r' b hij hi hj hb => ?_⟩, ?_, ?_, ?_⟩
     ·obtain ⟨k, _, hm⟩ := hget i r hi; exact h.mp.ok k r hm
     ·obtain ⟨k, hk1, hm⟩ := hget i r hi
      obtain ⟨k', hk2, hm'⟩ := hget j r' hj
      refine h.mp.apart k k' r r' b (fun e => ?_) hm hm' hb
      subst e
      exact hij ((List.getElem?_inj (List.getElem?_eq_some_iff.1 hk1).1 hnd).1 (hk1.trans hk2.symm))
     ·exact ⟨h.kept.os, h.kept.tape, h.kept.output, h.kept.size, fun k hk hm => h.kept.block k hk (fun hb => hm (hblk k hb))⟩
     ·refine ⟨h.grows.1, fun b o v hv => ?_⟩
      rcases h.grows.2 b o v hv with h1 | h1 | h1
      ·exact .inl h1
      ·exact .inr (.inl h1)
      ·exact .inr (.inr (hblk b h1))
     ·intro b ⟨r, hr, hb⟩
      obtain ⟨i, hi⟩ := List.mem_iff_getElem?.1 hr
      obtain ⟨k, _, hm⟩ := hget i r hi
      rcases h.new b ⟨k, r, hm, hb⟩ with h1 | h1
      ·exact .inl (hblk b h1)
      ·exact .inr h1
    ·exact hk.elim
   refine ycode_sound hm (P := P) (w0 := w) (M := blksM (memOf ms)) (V0 := V) c _ _ (fun e st V' a w' h hk => ?_) _ V _ w hok (inv_init (pre_memOf hp) ha hle) hx
   cases e with
   | normal => exact key st V' a w' h hk
   | ret => exact key st V' a w' h hk
   | exit i => exact hk.elim
  ·cases hok
 ·exact hx.elim
end
section
variable {P : Program}
theorem CallN.mono {f : FuncId} {args : List Value} {V : View} {mem : Nat → Option Res} {K K' : SV → View → (Nat → Option Res) → Prop} (h : ∀ s V m, K s V m → K' s V m) (hx : CallN P f args V mem K) : CallN P f args V mem K' :=
 ⟨fun w hw => (hx.run w hw).mono fun _ _ ⟨v, s, V', mem', he, hv, hK, rest⟩ => ⟨v, s, V', mem', he, hv, h _ _ _ hK, rest⟩⟩
theorem AppN.mono {V : View} {mem : Nat → Option Res} {g : Option Nat} {v : Value} {n size bytes : Nat} {x : Value} {K K' : Value → Nat → View → Prop} (h : ∀ v n V, K v n V → K' v n V) (hx : AppN V mem g v n size bytes x K) : AppN V mem g v n size bytes x K' := by
 obtain ⟨xs, news, m, a1, a2, a3, a4, a5, a6, a7, a8, a9⟩ := hx.get
 exact ⟨⟨xs, news, m, a1, a2, a3, a4, a5, a6, a7, a8, fun v' V' b1 b2 b3 b4 => h _ _ _ (a9 v' V' b1 b2 b3 b4)⟩⟩
theorem AppF.mono {V : View} {mem : Nat → Option Res} {v : Value} {n size bytes : Nat} {x : Value} {K K' : Value → Nat → View → Prop} (h : ∀ v n V, K v n V → K' v n V) (hx : AppF V mem v n size bytes x K) : AppF V mem v n size bytes x K' := by
 obtain ⟨xs, news, m, a1, a2, a3, a4, a5, a6, a7, a8, a9⟩ := hx.get
 exact ⟨⟨xs, news, m, a1, a2, a3, a4, a5, a6, a7, a8, fun v' V' b1 b2 b3 b4 => h _ _ _ (a9 v' V' b1 b2 b3 b4)⟩⟩
theorem effRun_mono {o : Oper} {e : Eff} {st : St} {V : View} {K K' : St → View → Prop} (h : ∀ st V, K st V → K' st V) (hx : effRun P o e st V K) : effRun P o e st V K' := by
 cases e with
 | val s => exact h _ _ hx
 | pick c s t => exact ⟨fun hc => h _ _ (hx.yes hc), fun hc => h _ _ (hx.no hc)⟩
 | ldv t b off n =>
  obtain ⟨l, h1, h2, h3⟩ := hx.get
  refine ⟨⟨l, h1, h2, ?_⟩⟩
  split at h3
  ·exact h _ _ h3
  ·exact h3
 | idx base len i size => obtain ⟨b, off, h1, h2, h3, h4⟩ := hx.get; exact ⟨⟨b, off, h1, h2, h3, h _ _ h4⟩⟩
 | sem s => obtain ⟨x, h1, h3⟩ := hx.get; exact ⟨⟨x, h1, h _ _ h3⟩⟩
 | box t cells =>
  simp only [effRun] at hx ⊢
  split at hx
  ·exact fun b => h _ _ (hx b)
  ·exact hx
 | lit e len cells => exact fun b V' h1 h2 => h _ _ (hx b V' h1 h2)
 | sto pl id off cells =>
  cases pl with
  | true => obtain ⟨i, t, old, h1, h2, h3⟩ := hx.get; exact ⟨⟨i, t, old, h1, h2, h _ _ h3⟩⟩
  | false =>
   simp only [effRun] at hx ⊢
   split at hx
   ·split at hx
    ·exact h _ _ hx
    ·exact hx
   ·exact hx
 | call f args => exact CallN.mono (fun s V m hk => h _ _ hk) hx
 | app s e size bytes x =>
  simp only [effRun] at hx ⊢
  split at hx
  ·split at hx
   ·split at hx
    ·split at hx
     ·exact AppN.mono (fun v n V hk => h _ _ hk) hx
     ·exact hx
    ·exact hx
   ·exact AppN.mono (fun v n V hk => h _ _ hk) hx
   ·obtain ⟨id, n, hx⟩ := hx.get
    refine ⟨⟨id, n, ?_⟩⟩
    cases hm : st.mem id with
    | some r => rw [hm] at hx; exact ⟨hx.1, AppN.mono (fun v n V hk => h _ _ hk) hx.2⟩
    | none => rw [hm] at hx; exact hx.imp (fun hx => ⟨hx.1, AppF.mono (fun v n V hk => h _ _ hk) hx.2⟩) (fun hx => ⟨hx.1, h _ _ hx.2⟩)
   ·exact hx
  ·exact hx
 | bad => exact hx
theorem xops_mono {ops : Array Oper} {K K' : St → View → Prop} (h : ∀ st V, K st V → K' st V) : ∀ (l : List Oper) (st : St) (V : View), xops P ops K l st V → xops P ops K' l st V
 | [], st, V, hx => h _ _ hx
 | o :: l, st, V, hx => by
  have ih := xops_mono (ops := ops) h l
  have step : ∀ st, xop P o st V (xops P ops K l) → xop P o st V (xops P ops K' l) := fun st hx => effRun_mono ih hx
  unfold xops at hx ⊢
  split at hx
  ·exact step _ hx
  ·split at hx
   ·exact hx
   ·split at hx
    ·split at hx
     ·exact step _ hx
     ·exact step _ hx
     ·exact ih _ _ hx
    ·refine ⟨fun hc => ?_, fun hc => ?_⟩
     ·have := hx.yes hc
      split at this
      ·exact step _ this
      ·exact ih _ _ this
     ·have := hx.no hc
      split at this
      ·exact step _ this
      ·exact ih _ _ this
    ·exact ih _ _ hx
    ·exact hx
theorem dQ_mono {o : Oper} {e : Eff} {rdL rdR : List Nat} {mem : Nat → Option Res} {V : View} {K K' : Upd → View → Prop} (h : ∀ u V, K u V → K' u V) (hx : dQ P o e rdL rdR mem V K) : dQ P o e rdL rdR mem V K' := by
 cases e with
 | val s => exact h _ _ hx
 | pick c s t => exact ⟨fun hc => h _ _ (hx.yes hc), fun hc => h _ _ (hx.no hc)⟩
 | ldv t b off n =>
  obtain ⟨l, h1, h2, h3⟩ := hx.get
  refine ⟨⟨l, h1, h2, ?_⟩⟩
  split at h3
  ·exact h _ _ h3
  ·exact h3
 | idx base len i size => obtain ⟨b, off, h1, h2, h3, h4⟩ := hx.get; exact ⟨⟨b, off, h1, h2, h3, h _ _ h4⟩⟩
 | sem s => obtain ⟨x, h1, h3⟩ := hx.get; exact ⟨⟨x, h1, h _ _ h3⟩⟩
 | box t cells =>
  simp only [dQ] at hx ⊢
  split at hx
  ·split at hx
   ·exact fun b hb => h _ _ (hx b hb)
   ·exact hx
  ·exact hx
 | lit e len cells => exact fun b hb => h _ _ (hx b hb)
 | sto pl id off cells =>
  obtain rfl : pl = false := by
   cases pl
   ·rfl
   ·exact hx.no.elim
  simp only [dQ] at hx ⊢
  split at hx
  ·split at hx
   ·exact h _ _ hx
   ·exact hx
  ·exact hx
 | call f args => exact CallN.mono (fun s V m hk => ⟨hk.same, hk.fresh, h _ _ hk.go⟩) hx
 | app s e size bytes x =>
  simp only [dQ] at hx ⊢
  split at hx
  ·split at hx
   ·split at hx
    ·split at hx
     ·split at hx
      ·exact AppN.mono (fun v n V hk => h _ _ hk) hx
      ·exact hx
     ·exact hx
    ·exact hx
   ·split at hx
    ·exact AppN.mono (fun v n V hk => h _ _ hk) hx
    ·exact hx
   ·obtain ⟨id, n, hx⟩ := hx.get
    refine ⟨⟨id, n, ?_⟩⟩
    cases hm : mem id with
    | some r => rw [hm] at hx; exact ⟨hx.1, hx.2.1, AppN.mono (fun v n V hk => h _ _ hk) hx.2.2⟩
    | none => rw [hm] at hx; exact hx.imp (fun hx => ⟨hx.1, hx.2.1, AppF.mono (fun v n V hk => h _ _ hk) hx.2.2⟩) (fun hx => ⟨hx.1, h _ _ hx.2⟩)
   ·exact hx
  ·exact hx
 | bad => exact hx
theorem act_mono {ops : Array Oper} {o : Oper} {rdL rdR : List Nat} {st : St} {V : View} {K K' : Upd → View → Prop} (h : ∀ u V, K u V → K' u V) (hx : act P ops o rdL rdR st V K) : act P ops o rdL rdR st V K' := by
 unfold act at hx ⊢
 split at hx
 ·exact dQ_mono h hx
 ·exact h _ _ hx
 ·exact ⟨fun hc => dQ_mono h (hx.yes hc), fun hc => h _ _ (hx.no hc)⟩
 ·exact ⟨fun hc => h _ _ (hx.yes hc), fun hc => dQ_mono h (hx.no hc)⟩
 ·exact hx
theorem xseq_keep {ops : Array Oper} {K K' : St → View → Prop} (h : ∀ st V, K st V → K' st V) : ∀ (L : Plan) (rdL rdR : List (Nat × Nat)) (st : St) (V : View), xseq P ops K L rdL rdR st V → xseq P ops K' L rdL rdR st V
 | [], _, _, st, V, hx => h _ _ hx
 | (i, cs) :: L, rdL, rdR, st, V, hx => by
  unfold xseq at hx ⊢
  split at hx
  ·exact hx
  ·split at hx
   ·refine act_mono (fun u V hk => ?_) hx
    split at hk
    ·exact xseq_keep h L _ _ _ _ hk
    ·exact xseq_keep h L _ _ _ _ hk
   ·exact hx
theorem fops_mono {ops : Array Oper} {K K' : St → View → Prop} (h : ∀ st V, K st V → K' st V) : ∀ (L : List Nat) (st : St) (V : View), fops P ops K L st V → fops P ops K' L st V
 | [], st, V, hx => h _ _ hx
 | i :: L, st, V, hx => by
  unfold fops at hx ⊢
  split at hx
  ·exact hx
  ·split at hx
   ·exact hx
   ·exact effRun_mono (fun st V hk => fops_mono h L st V hk) hx
theorem lendR_mono {id : Nat} {run : (St → View → Prop) → St → View → Prop} (hr : ∀ {K K' : St → View → Prop}, (∀ st V, K st V → K' st V) → ∀ st V, run K st V → run K' st V) {K K' : St → View → Prop} (h : ∀ st V, K st V → K' st V) (st : St) (V : View) (hx : lendR id run K st V) : lendR id run K' st V := by
 unfold lendR at hx ⊢
 split at hx
 ·refine fun hle => hr (fun st' V' hk => ?_) _ _ (hx hle)
  unfold backK at hk ⊢
  split at hk
  ·exact fun hle => h _ _ (hk hle)
  ·exact hk
 ·exact hx
theorem ycode_mono {pl : Plans} : ∀ (c : Code) {K K' : Ex → St → View → Prop}, (∀ e st V, K e st V → K' e st V) → ∀ (st : St) (V : View), ycode P pl c K st V → ycode P pl c K' st V
 | .skip, K, K', h, st, V, hx => h _ _ _ hx
 | .region id ops false, K, K', h, st, V, hx => xops_mono (fun _ _ => h _ _ _) _ _ _ hx
 | .region id ops true, K, K', h, st, V, hx => by
  unfold ycode at hx ⊢
  split at hx
  ·split at hx
   ·exact fops_mono (fun _ _ => h _ _ _) _ _ _ hx
   ·split at hx
    ·exact lendR_mono (run := fun K => xseq P ops K _ [] []) (fun {K1 K2} hk st V hx => xseq_keep hk _ _ _ _ _ hx) (h .normal) _ _ hx
    ·exact xseq_keep (fun _ _ => h _ _ _) _ _ _ _ _ hx
  ·exact hx
 | .seq x y, K, K', h, st, V, hx => by
  refine ycode_mono x (fun e st V hk => ?_) st V hx
  cases e with
  | normal => exact ycode_mono y h st V hk
  | ret => exact h _ _ _ hk
  | exit i => exact h _ _ _ hk
 | .cond c x y, K, K', h, st, V, hx => by
  unfold ycode at hx ⊢
  split at hx
  ·exact ycode_mono x h _ _ hx
  ·exact ycode_mono y h _ _ hx
  ·exact ⟨fun hc => ycode_mono x h _ _ (hx.yes hc), fun hc => ycode_mono y h _ _ (hx.no hc)⟩
  ·exact hx
 | .block id x, K, K', h, st, V, hx => by
  refine ycode_mono x (fun e st V hk => ?_) st V (show ycode P pl x _ st V from hx)
  cases e with
  | normal => exact h _ _ _ hk
  | ret => exact h _ _ _ hk
  | exit i =>
   simp only at hk ⊢
   split at hk
   ·exact h _ _ _ hk
   ·exact h _ _ _ hk
 | .loop x, K, K', h, st, V, hx => by
  obtain ⟨I, h0, hr⟩ := hx.get
  refine ⟨⟨I, h0, fun n st V hi => ycode_mono x (fun e st V hk => ?_) st V (hr n st V hi)⟩⟩
  cases e with
  | normal => exact hk
  | ret => exact h _ _ _ hk
  | exit i => exact h _ _ _ hk
 | .exit id, K, K', h, st, V, hx => h _ _ _ hx
 | .ret, K, K', h, st, V, hx => h _ _ _ hx
 | .rangeFunc .., K, K', h, st, V, hx => hx
 | .scope _, K, K', h, st, V, hx => hx
 | .label _, K, K', h, st, V, hx => hx
 | .goto _, K, K', h, st, V, hx => hx
 | .refuse _, K, K', h, st, V, hx => hx
def Unroll (round : (Ex → St → View → Prop) → St → View → Prop) (K : Ex → St → View → Prop) : Nat → St → View → Prop
 | 0 => fun _ _ => False
 | n + 1 => round (fun e st' V' => match e with | .normal => Unroll round K n st' V' | .ret => K .ret st' V' | .exit i => K (.exit i) st' V')
theorem LoopN.unroll {pl : Plans} {c : Code} {K : Ex → St → View → Prop} {st : St} {V : View} (k : Nat) (h : Unroll (ycode P pl c) K k st V) : LoopN (ycode P pl c) K st V := by
 refine ⟨⟨fun n st V => Unroll (ycode P pl c) K n st V, ⟨k, st, fun _ _ _ _ _ _ h => h, h⟩, fun n st V hi => ?_⟩⟩
 cases n with
 | zero => exact hi.elim
 | succ n =>
  refine ycode_mono c (fun e st V hk => ?_) st V hi
  cases e with
  | normal => exact ⟨n, st, Nat.lt_succ_self n, fun _ _ _ _ _ _ h => h, hk⟩
  | ret => exact hk
  | exit i => exact hk
theorem Does.weaken {f : FuncId} {args : List Value} {V V' : View} {bs : List Res} {R : Value → View → List Res → Prop} (h : Does P f args V' bs R) (hv : V = V') : Does P f args V bs R := by subst hv; exact h
end
end Go.X
end

section
namespace Go.X
open Go.RowKit Go.ChangeShapes Go.WideShapes
theorem Does.call {P : Program} {f : FuncId} {args : List Value} {V : View} {R : Value → View → List Res → Prop} (h : Does P f args V [] R) {w : World} (hs : Sub V w) :
  Calls P f args.toArray w fun e w' => (∃ v V' bs, e = .returned v ∧ R v V' bs) ∧ Kept (blksOf []) w w' :=
 (h w ⟨hs, fun i r hi => by simp at hi, fun i j r r' b _ hi => by simp at hi⟩).mono fun e w' ⟨v, V', bs, he, hr, _, hk, _, _⟩ => ⟨⟨v, V', bs, he, hr⟩, hk⟩
end Go.X
end

section
namespace Go.X
def Res.free (r : Res) : Prop := ∃ base t z, r = .row (.slice base 0 0) t z 0
def St.sees (st : St) (mem : Nat → Option Res) : List (Nat × SV) → Prop
 | [] => True
 | (k, s) :: l => (∃ s0 v, st.env k = some s0 ∧ toVal st.mem s0 = some v ∧ toVal mem s = some v) ∧ st.sees mem l
def St.keeps (st : St) : List (Nat × Res) → Prop
 | [] => True
 | (i, r) :: l => (st.mem i = some r ∨ r.free) ∧ st.keeps l
theorem keeps_get {st : St} : ∀ {ms : List (Nat × Res)}, st.keeps ms → ∀ i r, memOf ms i = some r → st.mem i = some r ∨ r.free
 | [], _, i, r, h => by cases h
 | (j, s) :: ms, hh, i, r, h => by
  unfold memOf at h
  by_cases hi : i = j
  ·subst hi; rw [upd_same, Option.some.injEq] at h; subst h; exact hh.1
  ·rw [upd_ne _ _ hi] at h; exact keeps_get hh.2 i r h
theorem sees_get {st : St} {mem : Nat → Option Res} : ∀ {env : List (Nat × SV)}, st.sees mem env → ∀ k s, envOf env k = some s → ∃ s0 v, st.env k = some s0 ∧ toVal st.mem s0 = some v ∧ toVal mem s = some v
 | [], _, i, r, h => by cases h
 | (j, s) :: l, hh, i, r, h => by
  unfold envOf at h
  by_cases hi : i = j
  ·subst hi; rw [upd_same, Option.some.injEq] at h; subst h; exact hh.1
  ·rw [upd_ne _ _ hi] at h; exact sees_get hh.2 i r h
theorem free_blk {r : Res} (h : r.free) : r.blk = none := by
 obtain ⟨base, t, z, rfl⟩ := h
 cases base <;> rfl
theorem free_ok {r : Res} (h : r.free) (w : World) (V : View) : r.ok w V := by
 obtain ⟨base, t, z, rfl⟩ := h
 exact .inl ⟨base, rfl, rfl⟩
theorem weak_gen {st : St} {V : View} {env : List (Nat × SV)} {ms : List (Nat × Res)} (he : st.sees (memOf ms) env) (hm : st.keeps ms) : Weak (St.of env ms) st V := by
 intro w0 M V0 n a w h
 have hmem := keeps_get hm
 refine ⟨h.defers, h.size, fun k s hk => ?_, ⟨h.mp.sub, fun i r hr => ?_, fun i j r r' b hij hi hj hb hb' => ?_⟩, h.kept, h.grows, ?_⟩
 ·obtain ⟨s0, v, h1, h2, h3⟩ := sees_get he k s hk
  have := h.env k s0 h1
  rw [h2] at this
  show toVal (memOf ms) s = _
  rw [h3]; exact this
 ·rcases hmem i r hr with h1 | h1
  ·exact h.mp.ok i r h1
  ·exact free_ok h1 w V
 ·rcases hmem i r hi with h1 | h1
  ·rcases hmem j r' hj with h2 | h2
   ·exact h.mp.apart i j r r' b hij h1 h2 hb hb'
   ·rw [free_blk h2] at hb'; cases hb'
  ·rw [free_blk h1] at hb; cases hb
 ·intro b ⟨i, r, hr, hb⟩
  rcases hmem i r hr with h1 | h1
  ·exact h.new b ⟨i, r, h1, hb⟩
  ·rw [free_blk h1] at hb; cases hb
theorem sees_nil {st : St} {mem : Nat → Option Res} : st.sees mem [] := trivial
theorem sees_cons {st : St} {mem : Nat → Option Res} {k : Nat} {s s0 : SV} {v : Value} {l : List (Nat × SV)} (h1 : st.env k = some s0) (h2 : toVal st.mem s0 = some v) (h3 : toVal mem s = some v) (h : st.sees mem l) : st.sees mem ((k, s) :: l) := ⟨⟨s0, v, h1, h2, h3⟩, h⟩
theorem keeps_nil {st : St} : st.keeps [] := trivial
theorem keeps_cons {st : St} {i : Nat} {r : Res} {l : List (Nat × Res)} (h1 : st.mem i = some r) (h : st.keeps l) : st.keeps ((i, r) :: l) := ⟨.inl h1, h⟩
theorem keeps_free {st : St} {i : Nat} {base : Option Addr} {t : TypeId} {z : Nat} {l : List (Nat × Res)} (h : st.keeps l) : st.keeps ((i, .row (.slice base 0 0) t z 0) :: l) := ⟨.inr ⟨base, t, z, rfl⟩, h⟩
theorem LoopN.inv {σ : Type} {env : σ → List (Nat × SV)} {ms : σ → List (Nat × Res)} (inv : Nat → σ → View → Prop) {round : (Ex → St → View → Prop) → St → View → Prop} {K : Ex → St → View → Prop} {st : St} {V : View} (k : Nat) (x : σ)
  (he : st.sees (memOf (ms x)) (env x)) (hm : st.keeps (ms x)) (h0 : inv k x V)
  (hr : ∀ k x V, inv k x V → round (fun e st' V' => match e with | .normal => ∃ m y, m < k ∧ st'.sees (memOf (ms y)) (env y) ∧ st'.keeps (ms y) ∧ inv m y V' | e => K e st' V') (St.of (env x) (ms x)) V)
  (hmono : ∀ {K K' : Ex → St → View → Prop}, (∀ e st V, K e st V → K' e st V) → ∀ st V, round K st V → round K' st V) : LoopN round K st V := by
 refine LoopN.mk' (fun x => St.of (env x) (ms x)) inv k x (weak_gen he hm) h0 fun k x V hi => hmono (fun e st' V' hk => ?_) _ _ (hr k x V hi)
 cases e with
 | normal =>
  obtain ⟨m, y, hm, h1, h2, h3⟩ := hk
  exact ⟨m, _, hm, weak_gen h1 h2, y, rfl, h3⟩
 | ret => exact hk
 | exit i => exact hk
theorem loop {P : Program} {pl : Plans} {c : Code} {σ : Type} (env : σ → List (Nat × SV)) (ms : σ → List (Nat × Res)) (inv : Nat → σ → View → Prop) {K : Ex → St → View → Prop} {st : St} {V : View} (k : Nat) (x : σ)
  (he : st.sees (memOf (ms x)) (env x)) (hm : st.keeps (ms x)) (h0 : inv k x V)
  (hr : ∀ k x V, inv k x V → ycode P pl c (fun e st' V' => match e with | .normal => ∃ m y, m < k ∧ st'.sees (memOf (ms y)) (env y) ∧ st'.keeps (ms y) ∧ inv m y V' | e => K e st' V') (St.of (env x) (ms x)) V) : LoopN (ycode P pl c) K st V :=
 LoopN.inv inv k x he hm h0 hr (fun h st V hx => ycode_mono c h st V hx)
theorem AppN.to {V : View} {mem : Nat → Option Res} {g : Option Nat} {v : Value} {n size bytes m cap : Nat} {base : Option Addr} {K : Value → Nat → View → Prop} (n' : Nat) (hn' : n + m = n') (xs news : List Value) (hx : V.cells v xs) (hxl : xs.length = n * size)
  (hn : V.cells (.slice base m cap) news) (hnl : news.length = m * size) (h1 : allOne news = true) (hm : n' ≤ 10000000) (hb : bytes ≤ 100000)
  (k : ∀ base cap V', V.le V' → V'.cells (.slice base n' cap) (xs ++ news) → K (.slice base n' cap) n' V') : AppN V mem g v n size bytes (.slice base m cap) K := by
 subst hn'
 refine ⟨⟨xs, news, m, hx, hxl, .inl ⟨_, _, rfl⟩, .inr hn, hnl, allOne_spec h1, Nat.le_trans hm (by decide), ?_, fun v' V' hle hc hv' _ => ?_⟩⟩
 ·exact Nat.le_trans (Nat.mul_le_mul hm hb) (by decide)
 ·obtain ⟨base', cap', rfl, _⟩ := hv'
  exact k base' cap' V' hle hc
theorem cells_some {V : View} {base : Option Addr} {len cap : Nat} {l : List Value} (h : V.cells (.slice base len cap) l) (hl : l ≠ []) : ∃ p off, base = some ⟨p, off, none⟩ ∧ V.has p off l := by
 unfold View.cells at h
 split at h
 ·rename_i b off _ _ he
  simp only [Value.slice.injEq] at he
  obtain ⟨rfl, rfl, rfl⟩ := he
  exact ⟨b, off, rfl, h⟩
 ·exact absurd h hl
 ·rename_i he; cases he
 ·exact h.elim
end Go.X
end
