/- One part of a proof: an evaluator of the model, shown right, and contracts that it yields. No condition beyond those that each theorem names. -/
import Derived.Test.YtijfpknflhdemaaGreatLP
import Derived.Test.YtijfpknflhdemaaGreatZS
import Derived.Test.YtijfpknflhdemaaGreatZG
import Derived.Test.YtijfpknflhdemaaGreatZFC
section
set_option linter.unusedSimpArgs false
set_option linter.unusedVariables false
set_option linter.unusedSectionVars false
set_option linter.deprecated false
/-! # what the runs of KeysBelow lean on -/
namespace Go.Z
open Go.X Go.RowKit Go.Proofs Go.Proofs.LB
set_option linter.unusedSectionVars false
set_option maxRecDepth 100000
noncomputable section
abbrev Prim := Heap → Nat → List Value → Option (List Out)
def primB (tab : Tab) (f : FuncId) : Option Prim :=
  match f with
  | 163 => some (keysZ 135 .i64 3)
  | 170 => some (keysZ 157 .u64 35)
  | 6 => some (lab1 fMay)
  | 12 => some (lab2 (fFlows tab))
  | 31 => some (lab2 (fFlows tab))
  | 13 => some (lab2 (fSame tab))
  | 16 => some (lab2 (fAbove tab))
  | 66 => some (lab2 (fCmp tab))
  | _ => none
def extK (f : FuncId) : Option (Heap → List Value → Option Value) := match f with
  | 127 => some cmpB
  | 166 => some cmpB
  | _ => none
@[reducible] def envB (tab : Tab) : Env := { P := Tryz.prog, ext := extK, prim := primB tab }
def tab0 : Tab := fun _ _ => none

section
variable {σ : Nat → Nat → Value} [SigOk σ]
theorem tab0_ok : TabOk σ tab0 := ⟨fun _ _ _ h => by cases h⟩
theorem ext_ok (w0 : World) (g : FuncId) (f : Heap → List Value → Option Value) (hg : extK g = some f) (h : Heap) (args : List Value) (v : Value) (hv : f h args = some v) (ρ : Ren) (vs : List Value) (w : World) (ha : RepL σ ρ args vs) (hw : WI σ w0 h ρ w) :
    ∃ v', (callFunc g vs.toArray).run Tryz.prog w = .ok (.value v') w ∧ Rep σ ρ v v' := by
  unfold extK at hg
  split at hg
  · cases hg
    exact cmpB_sound Tryz.func127 (by kernel_rfl) rfl (by kernel_rfl) (by kernel_rfl) hw ha hv
  · cases hg
    exact cmpB_sound Tryz.func166 (by kernel_rfl) rfl (by kernel_rfl) (by kernel_rfl) hw ha hv
  · cases hg
theorem primB_ok {tab : Tab} (ht : TabOk σ tab) (g : FuncId) (f : Prim) (hg : primB tab g = some f) : CallOk Tryz.prog σ (fun g' args h nx => if g' = g then (match f h nx args with | some l => .ok l | none => .no []) else .no []) := by
  unfold primB at hg
  split at hg
  · cases hg; exact keys_ok SI.keys
  · cases hg; exact keys_ok SU.keys
  · cases hg; exact may_ok
  · cases hg; exact rflows_ok ht
  · cases hg; exact lflows_ok ht
  · cases hg; exact same_ok ht
  · cases hg; exact above_ok ht
  · cases hg; exact lcmp_ok ht
  · cases hg
theorem envB_ok {tab : Tab} (ht : TabOk σ tab) : EnvOk (envB tab) σ := ⟨ext_ok, primB_ok ht, LB.mixed⟩
end
end
end Go.Z
end

section
set_option linter.unusedSimpArgs false
set_option linter.unusedVariables false
set_option linter.unusedSectionVars false
set_option linter.deprecated false
/-! # begun, and the environment with it -/
namespace Go.Z
open Go.X Go.RowKit Go.Proofs Go.Proofs.LB
set_option linter.unusedSectionVars false
set_option maxRecDepth 100000
noncomputable section
theorem says_le {a b : R (List Out)} {v : Value} (h : Le a b) (hs : says a v = true) : says b v = true := by
  cases a with
  | ok l => rw [h l rfl]; exact hs
  | no w => cases hs
set_option maxHeartbeats 0 in
theorem begun_says : says (runF (envB tab0) 60 5 [] .nil 0) (.bool true) = true := by kernel_rfl

def fBegun (h : Heap) (nx : Nat) (args : List Value) : Option (List Out) := match args with
  | [] => some [(.bool true, h, nx)]
  | _ => none
def primK (tab : Tab) (f : FuncId) : Option Prim := match f with
  | 5 => some fBegun
  | f => primB tab f
@[reducible] def envK (tab : Tab) : Env := { P := Tryz.prog, ext := extK, prim := primK tab }

section
variable {σ : Nat → Nat → Value} [SigOk σ]
theorem begun_ok : CallOk Tryz.prog σ (fun g' args h nx => if g' = 5 then (match fBegun h nx args with | some l => .ok l | none => .no []) else .no []) := by
  intro w0 g args h nx outs ho ρ vs w hfr ha hw
  dsimp only at ho
  split at ho
  case isFalse => cases ho
  rename_i hg
  subst hg
  split at ho
  case h_2 => cases ho
  rename_i l hl
  cases ho
  unfold fBegun at hl
  split at hl
  case h_2 => cases hl
  cases hl
  cases ha
  refine (calls_of_run (envB_ok (σ := σ) tab0_ok) (v := .bool true) rfl (says_le (runF_le 60 5 [] .nil 0) begun_says) w).mono ?_
  rintro e W ⟨rfl, hk⟩
  exact ⟨(.bool true, h, nx), List.mem_singleton.2 rfl, _, ρ, rfl, Ren.le_refl _, New.refl _ _, Nat.le_refl _, hfr, .plain rfl, hw.below ⟨hk.os, hk.tape, hk.output, hk.size, hk.block⟩⟩
theorem primK_ok {tab : Tab} (ht : TabOk σ tab) (g : FuncId) (f : Prim) (hg : primK tab g = some f) : CallOk Tryz.prog σ (fun g' args h nx => if g' = g then (match f h nx args with | some l => .ok l | none => .no []) else .no []) := by
  unfold primK at hg
  split at hg
  · cases hg; exact begun_ok
  · exact primB_ok ht _ f hg
theorem envK_ok {tab : Tab} (ht : TabOk σ tab) : EnvOk (envK tab) σ := ⟨ext_ok, primK_ok ht, LB.mixed⟩
end

/-! ## labels of symbols -/
def symL (g : Nat) : Nat → Nat → List Value
  | 0, _ => []
  | n + 1, p => .complex .f64 (g * 16 + p) 0 :: symL g n (p + 1)
/-- lengths: 0 is nil -/
def labV (n : Nat) : Nat → Value
  | 0 => .slice none 0 0
  | m + 1 => .complex .f32 n m
def cellsA (m : Nat) : List Value := symL (16 + (m - 1)) (m - 1) 0
def cellsB (m : Nat) : List Value := symL (32 + (m - 1)) (m - 1) 0
def tabOf (A B : List Value) (r : Bool × Int) : Tab := fun x y => match eqL x A && eqL y B with
  | true => some r
  | false => none
def heapAB (A B : List Value) : Heap := Tr.ins (Tr.ins .nil 1 (some (.ro A))) 3 (some (.ro B))
def keyS : Value := .complex .f64 784 4
/-- KeysBelow at labels of these lengths -/
def belowQ (tab : Tab) (A B : List Value) (la lb : Nat) : Bool := says (runF (envK tab) 60 3 [labV 0 la, labV 2 lb, keyS] (heapAB A B) 4) (.bool true)
def sameQ (m n : Nat) : Bool := belowQ tab0 (cellsA m) (cellsA m) m n
def diffQ (m n : Nat) (f : Bool) (c : Int) : Bool := belowQ (tabOf (cellsA m) (cellsB n) (f, c)) (cellsA m) (cellsB n) m n
end
end Go.Z
end
