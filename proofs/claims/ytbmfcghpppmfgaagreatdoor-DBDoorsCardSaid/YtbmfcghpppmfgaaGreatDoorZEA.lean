/- One part of a proof: an evaluator of the model, shown right, and contracts that it yields. No condition beyond those that each theorem names. -/
import Derived.Test.YtbmfcghpppmfgaaGreatDoorZTA
section
set_option linter.unusedSimpArgs false
set_option linter.unusedVariables false
set_option linter.unusedSectionVars false
set_option linter.deprecated false
namespace Go.Z
open Go.X Go.RowKit Go.Proofs Go.Proofs.LB
set_option linter.unusedSectionVars false
set_option linter.unusedVariables false
set_option maxRecDepth 100000
noncomputable section
set_option maxHeartbeats 0 in
theorem stT : allSt Tryz.prog mkT = true := by kernel_rfl
def extT (f : FuncId) : Option (Heap → List Value → Option Value) := match f with
 | 354 => some cmpB
 | 543 => some cmpB
 | 374 => some idxB
 | 438 => some countB
 | _ => none
section
variable {σ : Nat → Nat → Value} [SigOk σ]
theorem extT_ok (w0 : World) (g : FuncId) (f : Heap → List Value → Option Value) (hg : extT g = some f) (h : Heap) (args : List Value) (v : Value) (hv : f h args = some v) (ρ : Ren) (vs : List Value) (w : World) (ha : RepL σ ρ args vs) (hw : WI σ w0 h ρ w) :
  ∃ v', (callFunc g vs.toArray).run Tryz.prog w = .ok (.value v') w ∧ Rep σ ρ v v' := by
 unfold extT at hg
 split at hg
 ·cases hg
  exact cmpB_sound Tryz.func354 (by kernel_rfl) rfl (by kernel_rfl) (by kernel_rfl) hw ha hv
 ·cases hg
  exact cmpB_sound Tryz.func543 (by kernel_rfl) rfl (by kernel_rfl) (by kernel_rfl) hw ha hv
 ·cases hg
  exact idxB_sound Tryz.func374 (by kernel_rfl) rfl (by kernel_rfl) (by kernel_rfl) ha hv
 ·cases hg
  exact countB_sound Tryz.func438 (by kernel_rfl) rfl (by kernel_rfl) (by kernel_rfl) ha hv
 ·cases hg
/-- a run by another environment, as a function by contract -/
theorem runP_ok {E : Env} (hE : EnvOk E σ) (he : E.P = Tryz.prog) {d f : Nat} : PrimOk σ f (runP E d f) :=
 .of fun w0 args h nx outs ho ρ vs w hfr ha hw => by
  unfold runP at ho
  split at ho
  ·rename_i l hr
   cases ho
   have := run_sound hE d w0 f args h nx _ (runV_le (E := E) (mask := mkT) (by rw [he]; exact stT) d f args h nx _ hr) ρ vs w hfr ha hw
   rwa [he] at this
  ·cases ho
end
def primA (f : FuncId) : Option Prim := none
@[reducible] def envA : Env := { P := Tryz.prog, ext := extT, prim := primA }
theorem envA_ok {σ : Nat → Nat → Value} [SigOk σ] : EnvOk envA σ := ⟨extT_ok, fun _ _ h => (by cases h), LB.mixed⟩
theorem says_le {a b : R (List Out)} {v : Value} (h : Le a b) (hs : says a v = true) : says b v = true := by
 cases a with
 | ok l => rw [h l rfl]; exact hs
 | no w => cases hs
theorem laid_le {a b : R (List Out)} {x : Laid} (h : Le a b) (hs : laidOk x a = true) : laidOk x b = true := by
 cases a with
 | ok l => rw [h l rfl]; exact hs
 | no w => cases hs
end
end Go.Z
end

section
set_option linter.unusedSimpArgs false
set_option linter.unusedVariables false
set_option linter.unusedSectionVars false
set_option linter.deprecated false
namespace Go.Z
open Go.X Go.RowKit Go.Proofs Go.Proofs.LB
set_option linter.unusedVariables false
set_option maxRecDepth 100000
noncomputable section
def wordsL : List UInt8 := 97::110::100::32::97::115::32::98::101::103::105::110::32::98::121::32::99::97::108::108::32::99::108::111::115::117::114::101::32::99::111::109::109::105::116::32::99::111::117::110::116::32::99::114::101::97::116::101::32::100::101::108::101::116::101::32::100::101::115::99::32::102::114::111::109::32::103::114::111::117::112::32::105::110::100::101::120::32::105::110::115::101::114::116::32::105::110::116::32::105::110::116::111::32::106::111::105::110::32::109::97::120::32::109::105::110::32::110::111::116::32::111::110::32::111::114::32::111::114::100::101::114::32::114::97::105::115::101::32::114::101::102::32::114::111::108::108::98::97::99::107::32::115::101::108::101::99::116::32::115::101::116::32::115::116::114::105::112::32::115::117::109::32::116::97::98::108::101::32::116::101::120::116::32::117::112::100::97::116::101::32::118::97::108::117::101::115::32::118::105::101::119::32::119::104::101::114::101::[]
def splitW : Laid :=
 ⟨[.string ⟨⟨wordsL⟩⟩, .string ⟨⟨[32]⟩⟩], .slice (some ⟨0, 0, none⟩) 37 37, [.cells 9 [.string ⟨⟨97::110::100::[]⟩⟩, .string ⟨⟨97::115::[]⟩⟩, .string ⟨⟨98::101::103::105::110::[]⟩⟩, .string ⟨⟨98::121::[]⟩⟩, .string ⟨⟨99::97::108::108::[]⟩⟩, .string ⟨⟨99::108::111::115::117::114::101::[]⟩⟩, .string ⟨⟨99::111::109::109::105::116::[]⟩⟩, .string ⟨⟨99::111::117::110::116::[]⟩⟩, .string ⟨⟨99::114::101::97::116::101::[]⟩⟩, .string ⟨⟨100::101::108::101::116::101::[]⟩⟩, .string ⟨⟨100::101::115::99::[]⟩⟩, .string ⟨⟨102::114::111::109::[]⟩⟩, .string ⟨⟨103::114::111::117::112::[]⟩⟩, .string ⟨⟨105::110::100::101::120::[]⟩⟩, .string ⟨⟨105::110::115::101::114::116::[]⟩⟩, .string ⟨⟨105::110::116::[]⟩⟩, .string ⟨⟨105::110::116::111::[]⟩⟩, .string ⟨⟨106::111::105::110::[]⟩⟩, .string ⟨⟨109::97::120::[]⟩⟩, .string ⟨⟨109::105::110::[]⟩⟩, .string ⟨⟨110::111::116::[]⟩⟩, .string ⟨⟨111::110::[]⟩⟩, .string ⟨⟨111::114::[]⟩⟩, .string ⟨⟨111::114::100::101::114::[]⟩⟩, .string ⟨⟨114::97::105::115::101::[]⟩⟩, .string ⟨⟨114::101::102::[]⟩⟩, .string ⟨⟨114::111::108::108::98::97::99::107::[]⟩⟩, .string ⟨⟨115::101::108::101::99::116::[]⟩⟩, .string ⟨⟨115::101::116::[]⟩⟩, .string ⟨⟨115::116::114::105::112::[]⟩⟩, .string ⟨⟨115::117::109::[]⟩⟩, .string ⟨⟨116::97::98::108::101::[]⟩⟩, .string ⟨⟨116::101::120::116::[]⟩⟩, .string ⟨⟨117::112::100::97::116::101::[]⟩⟩, .string ⟨⟨118::97::108::117::101::115::[]⟩⟩, .string ⟨⟨118::105::101::119::[]⟩⟩, .string ⟨⟨119::104::101::114::101::[]⟩⟩]], [0]⟩
set_option maxHeartbeats 0 in
theorem splitW_ok : laidOk splitW (runV envA mkT 60 222 splitW.args .nil 0) = true := by kernel_rfl
def primB (f : FuncId) : Option Prim := match f with
 | 222 => some (laidP [splitW])
 | _ => none
@[reducible] def envB : Env := { P := Tryz.prog, ext := extT, prim := primB }
theorem envB_ok {σ : Nat → Nat → Value} [SigOk σ] : EnvOk envB σ := by
 refine ⟨extT_ok, fun g f hg => ?_, LB.mixed⟩
 have hg : primB g = some f := hg
 unfold primB at hg
 split at hg
 ·cases hg
  exact laidP_ok (E := envA) envA_ok rfl (d := 60) (tab := [splitW]) fun x hx => by
   obtain rfl := List.mem_singleton.1 hx
   exact laid_le (runV_le (E := envA) stT 60 222 _ .nil 0) splitW_ok
 ·cases hg
end
end Go.Z
end
