/- One part of a proof: an evaluator of the model, shown right, and contracts that it yields. No condition beyond those that each theorem names. -/
import Derived.Test.YtbmfcghpppmfgaaGreatDoorZV
import Derived.Test.YtbmfcghpppmfgaaGreatDoorZTA
section
set_option linter.unusedSimpArgs false
set_option linter.unusedVariables false
set_option linter.unusedSectionVars false
set_option linter.deprecated false
namespace Go.Z
open Go.X
set_option linter.unusedVariables false
noncomputable section
/-- the first so many members of a chain, and the rest -/
def takeC : Nat → Code → Code
 | 0, _ => .skip
 | n + 1, .seq a b => .seq a (takeC n b)
 | _ + 1, c => .skip
def dropC : Nat → Code → Code
 | 0, c => c
 | n + 1, .seq _ b => dropC n b
 | _ + 1, c => c
def initL (l : List (Nat × Value)) (env : EA) (k : EA → Ans) : Ans := @List.rec (Nat × Value) (fun _ => EA → (EA → Ans) → Ans) (fun env k => k env) (fun x _ ih env k => EA.set x.1 env x.2 fun env => ih env k) l env k
def initT : List (Nat × Value) → Tr Value → Tr Value
 | [], t => t
 | x :: l, t => initT l (t.ins x.1 (some x.2))
/-- code from a state on: what some temporaries hold at its end (fnK), or where it returns (fnR) -/
def codeV (E : Env) (mask d : Nat) (fnR fnK : Func) (c : Code) (env : List (Nat × Value)) (h : Heap) (nx : Nat) : Ans :=
 initL env EA.nil fun fe => runB (cC E (.mk (mRet E.P fnR)) c (.mk (mRet E.P fnK)) xNo) fe (.mk (runV E mask d) .nil h nx)
def keepF (fn : Func) (l : List Nat) : Func := { fn with results := (l.map ResultVar.tmp).toArray }
end
end Go.Z
end

section
set_option linter.unusedSimpArgs false
set_option linter.unusedVariables false
set_option linter.unusedSectionVars false
set_option linter.deprecated false
namespace Go.Z
open Go.X Go.RowKit
set_option linter.unusedVariables false
set_option linter.unusedSectionVars false
noncomputable section
structure CP where
 env : List (Nat × Value)
 heap : List (Nat × HO)
 nx : Nat
def heapL : List (Nat × HO) → Heap → Heap
 | [], h => h
 | x :: l, h => heapL l (h.ins x.1 (some x.2))
def CP.st (c : CP) : St := ⟨initT c.env .nil, heapL c.heap .nil, c.nx⟩
theorem initT_get : ∀ {l : List (Nat × Value)} {t : Tr Value} {k : Nat} {x : Value}, (initT l t).get k = some x → (k, x) ∈ l ∨ t.get k = some x
 | [], t, k, x, h => .inr h
 | y :: l, t, k, x, h => by
  rcases initT_get (l := l) h with h | h
  ·exact .inl (by simp [h])
  ·rcases Tr.get_ins h with ⟨h1, h2⟩ | ⟨_, h⟩
   ·left
    have : y = (k, x) := Prod.ext h1.symm (Option.some.inj h2)
    simp [this]
   ·exact .inr h
theorem heapL_get : ∀ {l : List (Nat × HO)} {t : Heap} {k : Nat} {x : HO}, (heapL l t).get k = some x → (k, x) ∈ l ∨ t.get k = some x
 | [], t, k, x, h => .inr h
 | y :: l, t, k, x, h => by
  rcases heapL_get (l := l) h with h | h
  ·exact .inl (by simp [h])
  ·rcases Tr.get_ins h with ⟨h1, h2⟩ | ⟨_, h⟩
   ·left
    have : y = (k, x) := Prod.ext h1.symm (Option.some.inj h2)
    simp [this]
   ·exact .inr h
/-- what is known less -/
def Sub (s s' : St) : Prop := (∀ k x, s.env.get k = some x → s'.env.get k = some x) ∧ (∀ n o, s.heap.get n = some o → s'.heap.get n = some o) ∧ s.nx = s'.nx
def eqPL : List (Value × Value) → List (Value × Value) → Bool
 | [], [] => true
 | x :: l, y :: m => eqV x.1 y.1 && eqV x.2 y.2 && eqPL l m
 | _, _ => false
theorem eqPL_sound : ∀ {a b : List (Value × Value)}, eqPL a b = true → a = b
 | [], [], _ => rfl
 | [], _ :: _, h => by simp [eqPL] at h
 | _ :: _, [], h => by simp [eqPL] at h
 | x :: l, y :: m, h => by
  simp only [eqPL, Bool.and_eq_true] at h
  rw [eqPL_sound h.2, Prod.ext (eqV_sound _ _ h.1.1) (eqV_sound _ _ h.1.2)]
def eqHX : HO → HO → Bool
 | .cells t l, .cells u m => Nat.beq t u && eqL l m
 | .grown t z l, .grown u y m => Nat.beq t u && Nat.beq z y && eqL l m
 | .ro l, .ro m => eqL l m
 | .str l, .str m => eqL l m
 | .map a, .map b => eqPL a b
 | .mapS a, .mapS b => eqPL a b
 | .chan c l, .chan d m => Nat.beq c d && eqL l m
 | _, _ => false
theorem eqHX_sound {a b : HO} (h : eqHX a b = true) : a = b := by
 unfold eqHX at h
 split at h
 ·simp only [Bool.and_eq_true] at h
  rw [Nat.eq_of_beq_eq_true h.1, eqL_sound _ _ h.2]
 ·simp only [Bool.and_eq_true] at h
  rw [Nat.eq_of_beq_eq_true h.1.1, Nat.eq_of_beq_eq_true h.1.2, eqL_sound _ _ h.2]
 ·rw [eqL_sound _ _ h]
 ·rw [eqL_sound _ _ h]
 ·rw [eqPL_sound h]
 ·rw [eqPL_sound h]
 ·simp only [Bool.and_eq_true] at h
  rw [Nat.eq_of_beq_eq_true h.1, eqL_sound _ _ h.2]
 ·cases h
def valsOf : List (Nat × Value) → List Value
 | [] => []
 | x :: l => x.2 :: valsOf l
def keysL : List (Nat × Value) → List Nat
 | [] => []
 | x :: l => x.1 :: keysL l
def chkHeap (h : Heap) : List (Nat × HO) → Bool
 | [] => true
 | x :: l => (match h.get x.1 with | some o => eqHX x.2 o && chkHeap h l | none => false)
theorem chkHeap_mem {h : Heap} : ∀ {l : List (Nat × HO)}, chkHeap h l = true → ∀ x ∈ l, h.get x.1 = some x.2
 | [], _, x, hx => by cases hx
 | y :: l, hc, x, hx => by
  unfold chkHeap at hc
  split at hc
  case h_2 => cases hc
  rename_i o ho
  simp only [Bool.and_eq_true] at hc
  rcases List.mem_cons.1 hx with rfl | hx
  ·rw [ho, eqHX_sound hc.1]
  ·exact chkHeap_mem hc.2 x hx
def chkCP (c : CP) : List Out → Bool
 | [] => true
 | o :: l => eqV (.tuple ⟨valsOf c.env⟩) o.1 && chkHeap o.2.1 c.heap && Nat.beq c.nx o.2.2 && chkCP c l
theorem chkCP_mem {c : CP} : ∀ {l : List Out}, chkCP c l = true → ∀ o ∈ l, o.1 = .tuple ⟨valsOf c.env⟩ ∧ chkHeap o.2.1 c.heap = true ∧ c.nx = o.2.2
 | [], _, o, ho => by cases ho
 | x :: l, h, o, ho => by
  simp only [chkCP, Bool.and_eq_true] at h
  rcases List.mem_cons.1 ho with rfl | ho
  ·exact ⟨(eqV_sound _ _ h.1.1.1).symm, h.1.1.2, Nat.eq_of_beq_eq_true h.1.2⟩
  ·exact chkCP_mem h.2 o ho
def cpOk (c : CP) (r : R (List Out)) : Bool := match r with
 | .ok l => chkCP c l && Nat.ble 2 c.env.length
 | .no _ => false
section
variable {E : Env}
theorem initL_all : ∀ (l : List (Nat × Value)) {fe : EA} {e : Tr Value}, EnvR fe e → (∀ k, ∃ w, initL l fe k = .no w) ∨ ∃ fe', (∀ k, initL l fe k = k fe') ∧ EnvR fe' (initT l e)
 | [], fe, e, he => .inr ⟨fe, fun _ => rfl, he⟩
 | x :: l, fe, e, he => by
  have e1 : ∀ k, initL (x :: l) fe k = EA.set x.1 fe x.2 fun env => initL l env k := fun _ => rfl
  simp only [e1]
  rcases he.set x.1 x.2 with h1 | ⟨fe', h1, h2⟩
  ·exact .inl fun k => h1 _
  ·rcases initL_all l h2 with h3 | ⟨fe'', h3, h4⟩
   ·exact .inl fun k => by rw [h1]; exact h3 k
   ·exact .inr ⟨fe'', fun k => by rw [h1]; exact h3 k, h4⟩
/-- what comes of an end -/
def endK (P : Program) (fnR fnK : Func) (x : Ex × St) : Ans := match x.1 with
 | .normal => zret P fnK (.normal, x.2)
 | .ret => zret P fnR (.ret, x.2)
 | .exit _ => .no ["exit"]
theorem retF_ok (P : Program) (fn : Func) (x : Ex) (hx : ∀ i, x ≠ .exit i) : KnOk (retF P fn) fun st => zret P fn (x, st) := fun fe e h nx he => by
 unfold retF
 rcases resK_ok (E := { P := P, ext := fun _ => none, prim := fun _ => none }) (h := h) (nx := nx) he fn.results.toList ["results"] (fun vs => packK vs fun v => .ok [(v, h, nx)]) with h3 | ⟨vs, hvs, h3⟩
 ·rw [h3]; exact Le.no
 ·rw [h3, packK_eq]
  have : zret P fn (x, ⟨e, h, nx⟩) = .ok [(pack vs, h, nx)] := by
   unfold zret
   cases x with
   | exit i => exact absurd rfl (hx i)
   | normal => simp only [hvs]
   | ret => simp only [hvs]
  show Le _ (zret P fn (x, ⟨e, h, nx⟩))
  rw [this]
  exact Le.rfl'
theorem codeV_ok {mask : Nat} (hp : allSt E.P mask = true) {d : Nat} {fnR fnK : Func} {c : Code} (hst : stB c = true) {env : List (Nat × Value)} {h : Heap} {nx : Nat} {outs : List Out} (ho : codeV E mask d fnR fnK c env h nx = .ok outs) :
  ∃ l, zcode E (zdraw E (run E d)) (run E d) c ⟨initT env .nil, h, nx⟩ = .ok l ∧ ∀ z ∈ l, ∃ r, endK E.P fnR fnK z = .ok r ∧ ∀ y ∈ r, y ∈ outs := by
 unfold codeV at ho
 rcases initL_all env EnvR.nil with h1 | ⟨fe, h1, h2⟩
 ·obtain ⟨w, h1⟩ := h1 (fun fe => runB (cC E (.mk (mRet E.P fnR)) c (.mk (mRet E.P fnK)) xNo) fe (.mk (runV E mask d) .nil h nx))
  rw [h1] at ho
  cases ho
 ·rw [h1, cC_eq c hst] at ho
  have hle := zcodeF_le (E := E) (callF := runV E mask d) (call := run E d) (fun f args h nx => runV_le hp d f args h nx) c (h := h) (nx := nx) (kn := retF E.P fnK) (kr := retF E.P fnR) (ke := fun _ _ _ _ => .no ["exit"]) (K := endK E.P fnR fnK) h2
   (retF_ok E.P fnK .normal fun _ e => by cases e) (retF_ok E.P fnR .ret fun _ e => by cases e) fun i fe e h nx he => Le.no
  have hr : zcodeF E (runV E mask d) c fe h nx (retF E.P fnK) (retF E.P fnR) (fun _ _ _ _ => .no ["exit"]) = .ok outs := ho
  have h3 := hle outs hr
  unfold bindR at h3
  split at h3
  ·rename_i l hl
   exact ⟨l, hl, fun z hz => bindL_ok h3 z hz⟩
  ·cases h3
end
section
variable {E : Env} {σ : Nat → Nat → Value} [SigOk σ]
theorem Inv.sub {w0 : World} {ρ0 : Ren} {nx0 n : Nat} {s s' : St} {ρ : Ren} {a : Act} {w : World} (hs : Sub s s') (k : Inv σ w0 ρ0 nx0 n s' ρ a w) : Inv σ w0 ρ0 nx0 n s ρ a w :=
 ⟨k.defers, k.size, fun i x hx => k.env i x (hs.1 i x hx), by rw [hs.2.2]; exact k.fresh, k.wi.weaken fun m o ho => .inl (hs.2.1 m o ho), k.le0, k.new0, by rw [hs.2.2]; exact k.nx0⟩
/-- from this state on the code comes to this answer -/
def Goes (E : Env) (σ : Nat → Nat → Value) (fn : Func) (v : Value) (c : Code) (st : St) : Prop :=
 ∀ (w0 : World) (ρ0 : Ren) (nx0 : Nat) (ρ : Ren) (a : Act) (w : World), Inv σ w0 ρ0 nx0 fn.ntmps st ρ a w → c.wp E.P (bodyPost E.P fn fun e w' => e = .returned v ∧ KeptZ w0 w') a w
theorem takeC_sound (hE : EnvOk E σ) {d n : Nat} (hn : n ≤ 1000000) {Q : Exit → Act → World → Prop} {w0 : World} {ρ0 : Ren} {nx0 : Nat} : ∀ (m : Nat) (c : Code) (st : St) (ρ : Ren) (a : Act) (w : World) (l : List (Ex × St)), codeOkZ n c = true → Inv σ w0 ρ0 nx0 n st ρ a w →
  zcode E (zdraw E (run E d)) (run E d) (takeC m c) st = .ok l → (∀ z ∈ l, z.1 = .normal ∧ ∀ ρ' a' w', Inv σ w0 ρ0 nx0 n z.2 ρ' a' w' → (dropC m c).wp E.P Q a' w') → c.wp E.P Q a w := by
 have base : ∀ (c : Code) (st : St) (ρ : Ren) (a : Act) (w : World) (l : List (Ex × St)), Inv σ w0 ρ0 nx0 n st ρ a w → zcode E (zdraw E (run E d)) (run E d) .skip st = .ok l → (∀ z ∈ l, z.1 = .normal ∧ ∀ ρ' a' w', Inv σ w0 ρ0 nx0 n z.2 ρ' a' w' → c.wp E.P Q a' w') → c.wp E.P Q a w := fun c st ρ a w l k h hQ => by
  simp only [zcode] at h
  cases h
  exact (hQ (.normal, st) (by simp)).2 ρ a w k
 intro m
 induction m with
 | zero => intro c st ρ a w l _ k h hQ; exact base c st ρ a w l k h hQ
 | succ m ih =>
  intro c st ρ a w l hok k h hQ
  cases c with
  | seq x y =>
   simp only [codeOkZ] at hok
   split at hok
   case h_2 => cases hok
   rename_i hok1
   simp only [takeC, zcode] at h
   split at h
   case h_2 => cases h
   rename_i lx hlx
   refine wp_seq (zcode_sound hE (run_sound hE d) (zdraw_sound hE (run_sound hE d)) hn x _ st ρ a w lx hok1 k hlx fun z hz ρ' a' w' k' => ?_)
   obtain ⟨r, hr, hsub⟩ := bindL_ok h z hz
   obtain ⟨e, st'⟩ := z
   cases e with
   | normal => exact ih y st' ρ' a' w' r hok k' hr fun u hu => hQ u (hsub u hu)
   | ret =>
    simp only at hr
    cases hr
    have := (hQ (.ret, st') (hsub _ (by simp))).1
    cases this
   | exit i =>
    simp only at hr
    cases hr
    have := (hQ (.exit i, st') (hsub _ (by simp))).1
    cases this
  | _ => exact base _ st ρ a w l k h hQ
theorem resAll_get {P : Program} {st : St} : ∀ {ks : List Nat} {vs : List Value}, resAll P st (ks.map ResultVar.tmp) = some vs → vs.length = ks.length ∧ ∀ (i k : Nat) (v : Value), ks[i]? = some k → vs[i]? = some v → st.env.get k = some v
 | [], vs, h => by
  cases h
  exact ⟨rfl, fun i k v hk => by simp at hk⟩
 | k0 :: ks, vs, h => by
  simp only [List.map_cons, resAll] at h
  split at h
  case h_2 => cases h
  rename_i v0 vs0 h1 h2
  cases h
  obtain ⟨h3, h4⟩ := resAll_get h2
  refine ⟨by simp [h3], fun i k v hk hv => ?_⟩
  cases i with
  | zero =>
   simp at hk hv
   subst hk; subst hv
   exact h1
  | succ i => exact h4 i k v (by simpa using hk) (by simpa using hv)
theorem valsOf_len : ∀ (l : List (Nat × Value)), (valsOf l).length = l.length
 | [] => rfl
 | _ :: l => by simp [valsOf, valsOf_len l]
theorem keysL_len : ∀ (l : List (Nat × Value)), (keysL l).length = l.length
 | [] => rfl
 | _ :: l => by simp [keysL, keysL_len l]
theorem env_at : ∀ {l : List (Nat × Value)} {k : Nat} {x : Value}, (k, x) ∈ l → ∃ i : Nat, (keysL l)[i]? = some k ∧ (valsOf l)[i]? = some x
 | [], _, _, h => by cases h
 | y :: l, k, x, h => by
  rcases List.mem_cons.1 h with h | h
  ·refine ⟨0, ?_, ?_⟩ <;> rw [← h] <;> rfl
  ·obtain ⟨i, h1, h2⟩ := env_at h
   exact ⟨i + 1, by simpa [keysL] using h1, by simpa [valsOf] using h2⟩
/-- **A PART**: up to a state that is laid down -/
theorem Goes.cut (hE : EnvOk E σ) {mask : Nat} (hp : allSt E.P mask = true) {d m : Nat} {fn : Func} {v : Value} {c : Code} {env : List (Nat × Value)} {h : Heap} {nx : Nat} {cp : CP} (hn : fn.ntmps ≤ 1000000) (hok : codeOkZ fn.ntmps c = true) (hst : stB (takeC m c) = true)
  (hrun : cpOk cp (codeV E mask d (keepF fn []) (keepF fn (keysL cp.env)) (takeC m c) env h nx) = true) (hG : Goes E σ fn v (dropC m c) cp.st) : Goes E σ fn v c ⟨initT env .nil, h, nx⟩ := by
 intro w0 ρ0 nx0 ρ a w k
 unfold cpOk at hrun
 split at hrun
 case h_2 => cases hrun
 rename_i outs ho
 simp only [Bool.and_eq_true] at hrun
 obtain ⟨hc, hlen⟩ := hrun
 have hlen := Nat.le_of_ble_eq_true hlen
 obtain ⟨l, hl, hz⟩ := codeV_ok hp hst ho
 -- what stands at an end
 have hend : ∀ z ∈ l, z.1 = .normal ∧ Sub cp.st z.2 := fun z hzl => by
  obtain ⟨r, hr, hsub⟩ := hz z hzl
  obtain ⟨e, st⟩ := z
  unfold endK at hr
  cases e with
  | exit i => cases hr
  | ret =>
   exfalso
   have hr : (.ok [(.tuple #[], st.heap, st.nx)] : Ans) = .ok r := hr
   cases hr
   have hmem : ((.tuple #[], st.heap, st.nx) : Out) ∈ outs := hsub _ (by simp)
   have h1 : Value.tuple #[] = .tuple ⟨valsOf cp.env⟩ := (chkCP_mem hc _ hmem).1
   have h2 : ([] : List Value) = valsOf cp.env := by simpa using h1
   have h3 := valsOf_len cp.env
   rw [← h2] at h3
   simp at h3
   omega
  | normal =>
   refine ⟨rfl, ?_⟩
   simp only [zret] at hr
   split at hr
   case h_2 => cases hr
   rename_i vs hvs
   cases hr
   have hmem : ((pack vs, st.heap, st.nx) : Out) ∈ outs := hsub _ (by simp)
   obtain ⟨h1, h2, h3⟩ := chkCP_mem hc _ hmem
   have hvs : resAll E.P st ((keysL cp.env).map ResultVar.tmp) = some vs := hvs
   obtain ⟨h4, h5⟩ := resAll_get hvs
   have hlv : vs.length = cp.env.length := by rw [h4, keysL_len]
   have hpk : pack vs = .tuple vs.toArray := by
    match vs, hlv with
    | [], e => rfl
    | [x], e => simp at e; omega
    | x :: y :: r, _ => rfl
   have hvv : vs = valsOf cp.env := by
    have h1 : pack vs = .tuple ⟨valsOf cp.env⟩ := h1
    rw [hpk] at h1
    simpa using h1
   refine ⟨fun i x hx => ?_, fun n o hno => ?_, h3⟩
   ·rcases initT_get hx with hm | hm
    ·obtain ⟨j, h6, h7⟩ := env_at hm
     exact h5 j i x h6 (by rw [hvv]; exact h7)
    ·rw [Tr.get_nil] at hm; cases hm
   ·rcases heapL_get hno with hm | hm
    ·exact chkHeap_mem h2 (n, o) hm
    ·rw [Tr.get_nil] at hm; cases hm
 refine takeC_sound hE hn m c _ ρ a w l hok k hl fun z hzl => ?_
 obtain ⟨h1, h2⟩ := hend z hzl
 exact ⟨h1, fun ρ' a' w' k' => hG w0 ρ0 nx0 ρ' a' w' (k'.sub h2)⟩
/-- **THE LAST PART** -/
theorem Goes.last (hE : EnvOk E σ) {mask : Nat} (hp : allSt E.P mask = true) {d : Nat} {fn : Func} {v : Value} (hv : plain v = true) {c : Code} {env : List (Nat × Value)} {h : Heap} {nx : Nat} (hn : fn.ntmps ≤ 1000000) (hok : codeOkZ fn.ntmps c = true) (hst : stB c = true)
  (hrun : says (codeV E mask d fn fn c env h nx) v = true) : Goes E σ fn v c ⟨initT env .nil, h, nx⟩ := by
 intro w0 ρ0 nx0 ρ a w k
 unfold says at hrun
 split at hrun
 case h_2 => cases hrun
 rename_i outs ho
 have hrun' := hrun
 obtain ⟨l, hl, hz⟩ := codeV_ok hp hst ho
 refine zcode_sound hE (run_sound hE d) (zdraw_sound hE (run_sound hE d)) hn c _ _ ρ a w l hok k hl fun z hzl ρ' a' w' k' => ?_
 obtain ⟨r, hr, hsub⟩ := hz z hzl
 obtain ⟨e, st⟩ := z
 have go : (match resAll E.P st fn.results.toList with | some vs => .ok [(pack vs, st.heap, st.nx)] | none => .no ["results"] : R (List Out)) = .ok r → a'.defers = [] ∧ ∃ u, (results fn a'.tmps).run E.P w' = .ok u w' ∧ Ending.returned u = .returned v ∧ KeptZ w0 w' := fun hr => by
  split at hr
  case h_2 => cases hr
  rename_i vs hvs
  cases hr
  obtain ⟨u, hu, hrun⟩ := pack_sound k' hvs
  have hmem : ((pack vs, st.heap, st.nx) : Out) ∈ outs := hsub _ (by simp)
  have h1 : pack vs = v := allAre_spec hrun' _ hmem
  rw [h1] at hu
  rw [hu.of_plain hv] at hrun
  exact ⟨k'.defers, v, hrun, rfl, k'.wi.kept⟩
 cases e with
 | normal => exact go hr
 | ret => exact go hr
 | exit i => cases hr
/-- **THE CALL** -/
theorem Goes.calls {f : FuncId} {fn : Func} {c : Code} (hf : E.P.funcs[f]? = some fn) (hb : fn.body = some c) {v : Value} {args vs : List Value} {env : List (Nat × Value)} (henv : ∀ p ∈ env, args[p.1]? = some p.2) (hlen : args.length ≤ fn.ntmps) {h : Heap} {nx : Nat} (hG : Goes E σ fn v c ⟨initT env .nil, h, nx⟩)
  {w0 w : World} {ρ : Ren} (hfr : Fresh ρ nx) (ha : RepL σ ρ args vs) (hw : WI σ w0 h ρ w) : Calls E.P f vs.toArray w fun e w' => e = .returned v ∧ KeptZ w0 w' := by
 refine calls_of_wp hf hb ?_
 have hl := ha.length
 refine hG w0 ρ nx ρ _ w ⟨rfl, by simp; omega, fun m x hm => ?_, hfr, hw, Ren.le_refl _, New.refl _ _, Nat.le_refl _⟩
 rcases initT_get hm with hm | hm
 ·obtain ⟨y, hy, hr⟩ := ha.get (henv _ hm)
  have hlt := (List.getElem?_eq_some_iff.1 hy).1
  rw [Array.getD_eq_getD_getElem?, Array.getElem?_append_left (by simpa using hlt)]
  simp [hy, hr]
 ·rw [Tr.get_nil] at hm; cases hm
end
end
end Go.Z
end
