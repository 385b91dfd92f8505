/- One part of a proof: an evaluator of the model, shown right, and contracts that it yields. No condition beyond those that each theorem names. -/
import Derived.Test.YtbmfcghpppmfgaaGreatDoorZKA
section
set_option linter.unusedSimpArgs false
set_option linter.unusedVariables false
set_option linter.unusedSectionVars false
set_option linter.deprecated false
namespace Go.Z
open Go.X Go.RowKit
set_option linter.unusedVariables false
set_option linter.unusedSectionVars false
/-- a loop that is about to begin a round -/
def LoopWp (P : Program) (x : Code) (Q : Exit → Act → World → Prop) (a : Act) (w : World) : Prop :=
 ∀ (b : Frame) (k : List Item) (cs : List Frame), ∃ e a' w', Q e a' w' ∧ Arrives P (lone (b.at a (.code x :: .inLoop x :: k)) cs w) b k cs e a' w'
section
variable {P : Program} {x : Code} {Q : Exit → Act → World → Prop} {a : Act} {w : World}
theorem LoopWp.wp (h : LoopWp P x Q a w) : (Code.loop x).wp P Q a w := fun b k cs =>
 let ⟨e, a', w', hq, harr⟩ := h b k cs
 ⟨e, a', w', hq, .of_steps (.one step_loop) harr⟩
theorem LoopWp.round (h : x.wp P (Exit.then (LoopWp P x Q) Q) a w) : LoopWp P x Q a w := by
 intro b k cs
 obtain ⟨e, a₁, w₁, hq, harr⟩ := h b (.inLoop x :: k) cs
 cases e with
 | normal =>
  obtain ⟨e₂, a₂, w₂, hq₂, harr₂⟩ := hq b k cs
  exact ⟨e₂, a₂, w₂, hq₂, .of_steps (Steps.trans harr (.one step_inLoop)) harr₂⟩
 | exit id => exact ⟨_, a₁, w₁, hq, .pass (x := .inLoop x) rfl (fun _ _ => .inl (by simp)) harr⟩
 | goto l => exact ⟨_, a₁, w₁, hq, .pass (x := .inLoop x) rfl (fun _ _ => .inl (by simp)) harr⟩
 | ret => exact ⟨_, a₁, w₁, hq, .pass (x := .inLoop x) rfl (fun _ _ => .inl (by simp)) harr⟩
 | panic ch => exact ⟨_, a₁, w₁, hq, .pass (x := .inLoop x) rfl (fun _ _ => .inl (by simp)) harr⟩
 | outgrown => exact ⟨_, a₁, w₁, hq, .pass (x := .inLoop x) rfl (fun _ _ => .inl (by simp)) harr⟩
end
noncomputable section
def seqL : Code → Code
 | .seq a _ => a
 | c => c
def seqR : Code → Code
 | .seq _ b => b
 | c => c
def blockIn : Code → Code
 | .block _ c => c
 | c => c
def loopIn : Code → Code
 | .loop c => c
 | c => c
def chkEnv (e : Tr Value) : List (Nat × Value) → Bool
 | [] => true
 | x :: l => (match e.get x.1 with | some v => eqV x.2 v && chkEnv e l | none => false)
theorem chkEnv_mem {e : Tr Value} : ∀ {l : List (Nat × Value)}, chkEnv e l = true → ∀ x ∈ l, e.get x.1 = some x.2
 | [], _, x, hx => by cases hx
 | y :: l, hc, x, hx => by
  unfold chkEnv at hc
  split at hc
  case h_2 => cases hc
  rename_i v hv
  simp only [Bool.and_eq_true] at hc
  rcases List.mem_cons.1 hx with rfl | hx
  ·rw [hv, eqV_sound _ _ hc.1]
  ·exact chkEnv_mem hc.2 x hx
/-- a round that leaves the loop -/
def exitOk (cp : CP) (id : Nat) (r : R (List (Ex × St))) : Bool := match r with
 | .ok [(.exit i, st)] => Nat.beq i id && (chkEnv st.env cp.env && (chkHeap st.heap cp.heap && Nat.beq cp.nx st.nx))
 | _ => false
section
variable {E : Env} {σ : Nat → Nat → Value} [SigOk σ]
/-- how a part ends -/
theorem part_ends {mask : Nat} (hp : allSt E.P mask = true) {d : Nat} {fn : Func} {c : Code} {env : List (Nat × Value)} {h : Heap} {nx : Nat} {cp : CP} (hst : stB c = true)
  (hrun : cpOk cp (codeV E mask d (keepF fn []) (keepF fn (keysL cp.env)) c env h nx) = true) :
  ∃ l, zcode E (zdraw E (run E d)) (run E d) c ⟨initT env .nil, h, nx⟩ = .ok l ∧ ∀ z ∈ l, z.1 = .normal ∧ Sub cp.st z.2 := by
 unfold cpOk at hrun
 split at hrun
 case h_2 => cases hrun
 rename_i outs ho
 simp only [Bool.and_eq_true] at hrun
 obtain ⟨hc, hlen⟩ := hrun
 have hlen := Nat.le_of_ble_eq_true hlen
 obtain ⟨l, hl, hz⟩ := codeV_ok hp hst ho
 refine ⟨l, hl, fun z hzl => ?_⟩
 obtain ⟨r, hr, hsub⟩ := hz z hzl
 obtain ⟨e, st⟩ := z
 unfold endK at hr
 cases e with
 | exit i => cases hr
 | ret =>
  exfalso
  have hr : (.ok [(.tuple #[], st.heap, st.nx)] : Ans) = .ok r := hr
  cases hr
  have hmem : ((.tuple #[], st.heap, st.nx) : Out) ∈ outs := hsub _ (by simp)
  have h1 : Value.tuple #[] = .tuple ⟨valsOf cp.env⟩ := (chkCP_mem hc _ hmem).1
  have h2 : ([] : List Value) = valsOf cp.env := by simpa using h1
  have h3 := valsOf_len cp.env
  rw [← h2] at h3
  simp at h3
  omega
 | normal =>
  refine ⟨rfl, ?_⟩
  simp only [zret] at hr
  split at hr
  case h_2 => cases hr
  rename_i vs hvs
  cases hr
  have hmem : ((pack vs, st.heap, st.nx) : Out) ∈ outs := hsub _ (by simp)
  obtain ⟨h1, h2, h3⟩ := chkCP_mem hc _ hmem
  have hvs : resAll E.P st ((keysL cp.env).map ResultVar.tmp) = some vs := hvs
  obtain ⟨h4, h5⟩ := resAll_get hvs
  have hlv : vs.length = cp.env.length := by rw [h4, keysL_len]
  have hpk : pack vs = .tuple vs.toArray := by
   match vs, hlv with
   | [], e => rfl
   | [x], e => simp at e; omega
   | x :: y :: r, _ => rfl
  have hvv : vs = valsOf cp.env := by
   have h1 : pack vs = .tuple ⟨valsOf cp.env⟩ := h1
   rw [hpk] at h1
   simpa using h1
  refine ⟨fun i x hx => ?_, fun n o hno => ?_, h3⟩
  ·rcases initT_get hx with hm | hm
   ·obtain ⟨j, h6, h7⟩ := env_at hm
    exact h5 j i x h6 (by rw [hvv]; exact h7)
   ·rw [Tr.get_nil] at hm; cases hm
  ·rcases heapL_get hno with hm | hm
   ·exact chkHeap_mem h2 (n, o) hm
   ·rw [Tr.get_nil] at hm; cases hm
/-- what comes behind a loop in a block -/
def behind (E : Env) (fn : Func) (v : Value) (id : Nat) (r : Code) (w0 : World) : Exit → Act → World → Prop :=
 Exit.inBlock id (Exit.then (r.wp E.P (bodyPost E.P fn fun e w' => e = .returned v ∧ KeptZ w0 w')) (bodyPost E.P fn fun e w' => e = .returned v ∧ KeptZ w0 w'))
/-- from this state on, ahead of a round, the code comes to this answer -/
def LoopGoes (E : Env) (σ : Nat → Nat → Value) (fn : Func) (v : Value) (id : Nat) (x r : Code) (st : St) : Prop :=
 ∀ (w0 : World) (ρ0 : Ren) (nx0 : Nat) (ρ : Ren) (a : Act) (w : World), Inv σ w0 ρ0 nx0 fn.ntmps st ρ a w → LoopWp E.P x (behind E fn v id r w0) a w
theorem LoopGoes.round (hE : EnvOk E σ) {mask : Nat} (hp : allSt E.P mask = true) {d : Nat} {fn : Func} {v : Value} {id : Nat} {x r : Code} {env : List (Nat × Value)} {h : Heap} {nx : Nat} {cp : CP} (hn : fn.ntmps ≤ 1000000) (hok : codeOkZ fn.ntmps x = true) (hst : stB x = true)
  (hrun : cpOk cp (codeV E mask d (keepF fn []) (keepF fn (keysL cp.env)) x env h nx) = true) (hG : LoopGoes E σ fn v id x r cp.st) : LoopGoes E σ fn v id x r ⟨initT env .nil, h, nx⟩ := by
 intro w0 ρ0 nx0 ρ a w k
 obtain ⟨l, hl, hz⟩ := part_ends hp hst hrun
 refine LoopWp.round (zcode_sound hE (run_sound hE d) (zdraw_sound hE (run_sound hE d)) hn x _ _ ρ a w l hok k hl fun z hzl ρ' a' w' k' => ?_)
 obtain ⟨h1, h2⟩ := hz z hzl
 rw [h1]
 exact hG w0 ρ0 nx0 ρ' a' w' (k'.sub h2)
theorem LoopGoes.last (hE : EnvOk E σ) {d : Nat} {fn : Func} {v : Value} {id : Nat} {x r : Code} {st : St} {cp : CP} (hn : fn.ntmps ≤ 1000000) (hok : codeOkZ fn.ntmps x = true)
  (hrun : exitOk cp id (zcode E (zdraw E (run E d)) (run E d) x st) = true) (hG : Goes E σ fn v r cp.st) : LoopGoes E σ fn v id x r st := by
 intro w0 ρ0 nx0 ρ a w k
 unfold exitOk at hrun
 split at hrun
 case h_2 => cases hrun
 rename_i i st' hl
 simp only [Bool.and_eq_true] at hrun
 obtain ⟨hi, he, hh, hx⟩ := hrun
 obtain rfl := Nat.eq_of_beq_eq_true hi
 refine LoopWp.round (zcode_sound hE (run_sound hE d) (zdraw_sound hE (run_sound hE d)) hn x _ _ ρ a w _ hok k hl fun z hzl ρ' a' w' k' => ?_)
 obtain rfl := List.mem_singleton.1 hzl
 show Exit.inBlock i _ (.exit i) a' w'
 simp only [Exit.inBlock, if_true]
 refine hG w0 ρ0 nx0 ρ' a' w' (k'.sub ⟨fun j y hy => ?_, fun n o hno => ?_, Nat.eq_of_beq_eq_true hx⟩)
 ·rcases initT_get hy with hm | hm
  ·exact chkEnv_mem he (j, y) hm
  ·rw [Tr.get_nil] at hm; cases hm
 ·rcases heapL_get hno with hm | hm
  ·exact chkHeap_mem hh (n, o) hm
  ·rw [Tr.get_nil] at hm; cases hm
theorem Goes.enter (hE : EnvOk E σ) {mask : Nat} (hp : allSt E.P mask = true) {d : Nat} {fn : Func} {v : Value} {id : Nat} {c x r : Code} {env : List (Nat × Value)} {h : Heap} {nx : Nat} {cp : CP} (hn : fn.ntmps ≤ 1000000) (hok : codeOkZ fn.ntmps c = true) (hst : stB c = true)
  (hrun : cpOk cp (codeV E mask d (keepF fn []) (keepF fn (keysL cp.env)) c env h nx) = true) (hL : LoopGoes E σ fn v id x r cp.st) : Goes E σ fn v ((c.seq (.block id (.loop x))).seq r) ⟨initT env .nil, h, nx⟩ := by
 intro w0 ρ0 nx0 ρ a w k
 obtain ⟨l, hl, hz⟩ := part_ends hp hst hrun
 refine wp_seq (wp_seq (zcode_sound hE (run_sound hE d) (zdraw_sound hE (run_sound hE d)) hn c _ _ ρ a w l hok k hl fun z hzl ρ' a' w' k' => ?_))
 obtain ⟨h1, h2⟩ := hz z hzl
 rw [h1]
 exact wp_block (LoopWp.wp (hL w0 ρ0 nx0 ρ' a' w' (k'.sub h2)))
end
end
end Go.Z
end
