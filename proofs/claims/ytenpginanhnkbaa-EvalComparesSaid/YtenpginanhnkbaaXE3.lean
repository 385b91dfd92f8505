/- One part of a proof: an evaluator of the model, shown right, and contracts that it yields. No condition beyond those that each theorem names. -/
import Derived.Test.YtenpginanhnkbaaXE2
namespace Go.X
open Go.RowKit

/-! ## the evaluator keeps what follows -/
section
variable {P : Program}

theorem CallN.mono {f : FuncId} {args : List Value} {V : View} {mem : Nat → Option Res} {K K' : SV → View → (Nat → Option Res) → Prop} (h : ∀ s V m, K s V m → K' s V m) (hx : CallN P f args V mem K) : CallN P f args V mem K' :=
  ⟨fun w hw => (hx.run w hw).mono fun _ _ ⟨v, s, V', mem', he, hv, hK, rest⟩ => ⟨v, s, V', mem', he, hv, h _ _ _ hK, rest⟩⟩
theorem AppN.mono {V : View} {mem : Nat → Option Res} {g : Option Nat} {v : Value} {n size bytes : Nat} {x : Value} {K K' : Value → Nat → View → Prop} (h : ∀ v n V, K v n V → K' v n V) (hx : AppN V mem g v n size bytes x K) : AppN V mem g v n size bytes x K' := by
  obtain ⟨xs, news, m, a1, a2, a3, a4, a5, a6, a7, a8, a9⟩ := hx.get
  exact ⟨⟨xs, news, m, a1, a2, a3, a4, a5, a6, a7, a8, fun v' V' b1 b2 b3 b4 => h _ _ _ (a9 v' V' b1 b2 b3 b4)⟩⟩

theorem effRun_mono {o : Oper} {e : Eff} {st : St} {V : View} {K K' : St → View → Prop} (h : ∀ st V, K st V → K' st V) (hx : effRun P o e st V K) : effRun P o e st V K' := by
  cases e with
  | val s => exact h _ _ hx
  | pick c s t => exact ⟨fun hc => h _ _ (hx.yes hc), fun hc => h _ _ (hx.no hc)⟩
  | ldv t b off n =>
    obtain ⟨l, h1, h2, h3⟩ := hx.get
    refine ⟨⟨l, h1, h2, ?_⟩⟩
    split at h3
    · exact h _ _ h3
    · exact h3
  | idx base len i size => obtain ⟨b, off, h1, h2, h3, h4⟩ := hx.get; exact ⟨⟨b, off, h1, h2, h3, h _ _ h4⟩⟩
  | sem s => obtain ⟨x, h1, h3⟩ := hx.get; exact ⟨⟨x, h1, h _ _ h3⟩⟩
  | box t cells =>
    simp only [effRun] at hx ⊢
    split at hx
    · exact fun b => h _ _ (hx b)
    · exact hx
  | lit e len cells => exact fun b V' h1 h2 => h _ _ (hx b V' h1 h2)
  | sto id off cells =>
    simp only [effRun] at hx ⊢
    split at hx
    · split at hx
      · exact h _ _ hx
      · exact hx
    · exact hx
  | call f args => exact CallN.mono (fun s V m hk => h _ _ hk) hx
  | app s e size bytes x =>
    simp only [effRun] at hx ⊢
    split at hx
    · split at hx
      · split at hx
        · split at hx
          · exact AppN.mono (fun v n V hk => h _ _ hk) hx
          · exact hx
        · exact hx
      · exact AppN.mono (fun v n V hk => h _ _ hk) hx
      · exact hx
    · exact hx
  | bad => exact hx

theorem xops_mono {ops : Array Oper} {K K' : St → View → Prop} (h : ∀ st V, K st V → K' st V) : ∀ (l : List Oper) (st : St) (V : View), xops P ops K l st V → xops P ops K' l st V
  | [], st, V, hx => h _ _ hx
  | o :: l, st, V, hx => by
    have ih := xops_mono (ops := ops) h l
    have step : ∀ st, xop P o st V (xops P ops K l) → xop P o st V (xops P ops K' l) := fun st hx => effRun_mono ih hx
    unfold xops at hx ⊢
    split at hx
    · exact step _ hx
    · split at hx
      · exact hx
      · split at hx
        · split at hx
          · exact step _ hx
          · exact step _ hx
          · exact ih _ _ hx
        · refine ⟨fun hc => ?_, fun hc => ?_⟩
          · have := hx.yes hc
            split at this
            · exact step _ this
            · exact ih _ _ this
          · have := hx.no hc
            split at this
            · exact step _ this
            · exact ih _ _ this
        · exact ih _ _ hx
        · exact hx

theorem dQ_mono {o : Oper} {e : Eff} {rdL rdR : List Nat} {mem : Nat → Option Res} {V : View} {K K' : Upd → View → Prop} (h : ∀ u V, K u V → K' u V) (hx : dQ P o e rdL rdR mem V K) : dQ P o e rdL rdR mem V K' := by
  cases e with
  | val s => exact h _ _ hx
  | pick c s t => exact ⟨fun hc => h _ _ (hx.yes hc), fun hc => h _ _ (hx.no hc)⟩
  | ldv t b off n =>
    obtain ⟨l, h1, h2, h3⟩ := hx.get
    refine ⟨⟨l, h1, h2, ?_⟩⟩
    split at h3
    · exact h _ _ h3
    · exact h3
  | idx base len i size => obtain ⟨b, off, h1, h2, h3, h4⟩ := hx.get; exact ⟨⟨b, off, h1, h2, h3, h _ _ h4⟩⟩
  | sem s => obtain ⟨x, h1, h3⟩ := hx.get; exact ⟨⟨x, h1, h _ _ h3⟩⟩
  | box t cells =>
    simp only [dQ] at hx ⊢
    split at hx
    · split at hx
      · exact fun b hb => h _ _ (hx b hb)
      · exact hx
    · exact hx
  | lit e len cells => exact fun b hb => h _ _ (hx b hb)
  | sto id off cells =>
    simp only [dQ] at hx ⊢
    split at hx
    · split at hx
      · exact h _ _ hx
      · exact hx
    · exact hx
  | call f args => exact CallN.mono (fun s V m hk => ⟨hk.same, hk.fresh, h _ _ hk.go⟩) hx
  | app s e size bytes x =>
    simp only [dQ] at hx ⊢
    split at hx
    · split at hx
      · split at hx
        · split at hx
          · split at hx
            · exact AppN.mono (fun v n V hk => h _ _ hk) hx
            · exact hx
          · exact hx
        · exact AppN.mono (fun v n V hk => h _ _ hk) hx
        · exact hx
      · exact hx
    · exact hx
  | bad => exact hx

theorem act_mono {ops : Array Oper} {o : Oper} {rdL rdR : List Nat} {st : St} {V : View} {K K' : Upd → View → Prop} (h : ∀ u V, K u V → K' u V) (hx : act P ops o rdL rdR st V K) : act P ops o rdL rdR st V K' := by
  unfold act at hx ⊢
  split at hx
  · exact dQ_mono h hx
  · exact h _ _ hx
  · exact ⟨fun hc => dQ_mono h (hx.yes hc), fun hc => h _ _ (hx.no hc)⟩
  · exact ⟨fun hc => h _ _ (hx.yes hc), fun hc => dQ_mono h (hx.no hc)⟩
  · exact hx

theorem xseq_keep {ops : Array Oper} {K K' : St → View → Prop} (h : ∀ st V, K st V → K' st V) : ∀ (L : Plan) (rdL rdR : List (Nat × Nat)) (st : St) (V : View), xseq P ops K L rdL rdR st V → xseq P ops K' L rdL rdR st V
  | [], _, _, st, V, hx => h _ _ hx
  | (i, cs) :: L, rdL, rdR, st, V, hx => by
    unfold xseq at hx ⊢
    split at hx
    · exact hx
    · split at hx
      · refine act_mono (fun u V hk => ?_) hx
        split at hk
        · exact xseq_keep h L _ _ _ _ hk
        · exact xseq_keep h L _ _ _ _ hk
      · exact hx

theorem ycode_mono {pl : Plans} : ∀ (c : Code) {K K' : Ex → St → View → Prop}, (∀ e st V, K e st V → K' e st V) → ∀ (st : St) (V : View), ycode P pl c K st V → ycode P pl c K' st V
  | .skip, K, K', h, st, V, hx => h _ _ _ hx
  | .region id ops false, K, K', h, st, V, hx => xops_mono (fun _ _ => h _ _ _) _ _ _ hx
  | .region id ops true, K, K', h, st, V, hx => by
    unfold ycode at hx ⊢
    split at hx
    · exact xseq_keep (fun _ _ => h _ _ _) _ _ _ _ _ hx
    · exact hx
  | .seq x y, K, K', h, st, V, hx => by
    refine ycode_mono x (fun e st V hk => ?_) st V hx
    cases e with
    | normal => exact ycode_mono y h st V hk
    | ret => exact h _ _ _ hk
    | exit i => exact h _ _ _ hk
  | .cond c x y, K, K', h, st, V, hx => by
    unfold ycode at hx ⊢
    split at hx
    · exact ycode_mono x h _ _ hx
    · exact ycode_mono y h _ _ hx
    · exact ⟨fun hc => ycode_mono x h _ _ (hx.yes hc), fun hc => ycode_mono y h _ _ (hx.no hc)⟩
    · exact hx
  | .block id x, K, K', h, st, V, hx => by
    refine ycode_mono x (fun e st V hk => ?_) st V (show ycode P pl x _ st V from hx)
    cases e with
    | normal => exact h _ _ _ hk
    | ret => exact h _ _ _ hk
    | exit i =>
      simp only at hk ⊢
      split at hk
      · exact h _ _ _ hk
      · exact h _ _ _ hk
  | .loop x, K, K', h, st, V, hx => by
    obtain ⟨I, h0, hr⟩ := hx.get
    refine ⟨⟨I, h0, fun n st V hi => ycode_mono x (fun e st V hk => ?_) st V (hr n st V hi)⟩⟩
    cases e with
    | normal => exact hk
    | ret => exact h _ _ _ hk
    | exit i => exact h _ _ _ hk
  | .exit id, K, K', h, st, V, hx => h _ _ _ hx
  | .ret, K, K', h, st, V, hx => h _ _ _ hx
  | .rangeFunc .., K, K', h, st, V, hx => hx
  | .scope _, K, K', h, st, V, hx => hx
  | .label _, K, K', h, st, V, hx => hx
  | .goto _, K, K', h, st, V, hx => hx
  | .refuse _, K, K', h, st, V, hx => hx

def Unroll (round : (Ex → St → View → Prop) → St → View → Prop) (K : Ex → St → View → Prop) : Nat → St → View → Prop
  | 0 => fun _ _ => False
  | n + 1 => round (fun e st' V' => match e with | .normal => Unroll round K n st' V' | .ret => K .ret st' V' | .exit i => K (.exit i) st' V')

/-- a loop, its few rounds gone through one by one -/
theorem LoopN.unroll {pl : Plans} {c : Code} {K : Ex → St → View → Prop} {st : St} {V : View} (k : Nat) (h : Unroll (ycode P pl c) K k st V) : LoopN (ycode P pl c) K st V := by
  refine ⟨⟨fun n st V => Unroll (ycode P pl c) K n st V, ⟨k, st, fun _ _ _ _ _ _ h => h, h⟩, fun n st V hi => ?_⟩⟩
  cases n with
  | zero => exact hi.elim
  | succ n =>
    refine ycode_mono c (fun e st V hk => ?_) st V hi
    cases e with
    | normal => exact ⟨n, st, Nat.lt_succ_self n, fun _ _ _ _ _ _ h => h, hk⟩
    | ret => exact hk
    | exit i => exact hk

theorem Does.weaken {f : FuncId} {args : List Value} {V V' : View} {bs : List Res} {R : Value → View → List Res → Prop} (h : Does P f args V' bs R) (hv : V = V') : Does P f args V bs R := by subst hv; exact h
end
end Go.X
