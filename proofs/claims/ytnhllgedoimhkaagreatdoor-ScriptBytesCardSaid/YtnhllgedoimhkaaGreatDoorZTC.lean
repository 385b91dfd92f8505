/- One part of a proof: an evaluator of the model, shown right, and contracts that it yields. No condition beyond those that each theorem names. -/
import Derived.Test.YtnhllgedoimhkaaGreatDoorZTA
import Derived.Shelf.Spec.SlicesGrow
import Derived.Ground.Names8Prog
import Derived.Test.YtnhllgedoimhkaaGreatDoorZTB
set_option linter.unusedSimpArgs false
set_option linter.unusedVariables false
set_option linter.unusedSectionVars false
set_option linter.deprecated false
section
namespace Go.Z
open Go.X Go.RowKit Go.Proofs Go.Proofs.LB Go.Shelf
set_option maxRecDepth 100000
def growV_ren : Go.Shelf.Ren := ⟨fun | 4 => 42 | n => n, fun | 22 => 37 | 25 => 5 | 3 => 3 | 4 => 4 | 9 => 9 | 20 => 20 | 0 => 0 | n => n, fun | n => n⟩
theorem growV : Go.Proofs.Lays8.n4 Tryz.prog growV_ren := {
 mixed := by kernel_rfl
 f4 := ⟨Tryz.f42.name, by decide, Tryz.func42.trans (congrArg some (by kernel_rfl))⟩
 t0 := Tryz.underlying0
 a0 := Tryz.isAgg0
 z0 := Tryz.sizeOf0
 v0 := Tryz.zeroValue0
 t3 := Tryz.underlying3
 a3 := Tryz.isAgg3
 z3 := Tryz.sizeOf3
 v3 := Tryz.zeroValue3
 t4 := Tryz.underlying4
 a4 := Tryz.isAgg4
 z4 := Tryz.sizeOf4
 v4 := Tryz.zeroValue4
 t9 := Tryz.underlying9
 a9 := Tryz.isAgg9
 z9 := Tryz.sizeOf9
 v9 := Tryz.zeroValue9
 t20 := Tryz.underlying20
 a20 := Tryz.isAgg20
 z20 := Tryz.sizeOf20
 v20 := Tryz.zeroValue20
 t22 := Tryz.underlying37
 a22 := Tryz.isAgg37
 z22 := Tryz.sizeOf37
 v22 := Tryz.zeroValue37 }
def infoV (o : Option TypeInfo) : Bool := match o with
 | some i => (match i.zero with | some z => Nat.beq i.size 1 && (Nat.beq z.cells.size 1 && Nat.ble i.bytes 1000) | none => false)
 | none => false
theorem infoH : ∃ i z, Tryz.prog.info? (growV_ren.t 25) = some i ∧ i.zero = some z ∧ i.size = 1 ∧ z.cells.size = 1 ∧ i.bytes ≤ 1000 ∧ growV_ren.t 25 = 5 := by
 have h : infoV (Tryz.prog.info? (growV_ren.t 25)) = true := by kernel_rfl
 have e : growV_ren.t 25 = 5 := by kernel_rfl
 unfold infoV at h
 split at h
 ·rename_i i hi
  split at h
  ·rename_i z hz
   simp only [Bool.and_eq_true] at h
   exact ⟨i, z, hi, hz, Nat.eq_of_beq_eq_true h.1, Nat.eq_of_beq_eq_true h.2.1, Nat.le_of_ble_eq_true h.2.2, e⟩
  ·cases h
 ·cases h
noncomputable section
def growPB : Prim := fun h nx args => match args with
 | [.slice none 0 0, .int .i64 (.ofNat (n + 1))] => (match Nat.ble n 1000 with
  | true => some [(.slice (some ⟨nx, 0, some 0⟩) 0 0, h.ins nx (some (.grown 5 1 [])), nx + 1)]
  | false => none)
 | _ => none
section
variable {σ : Nat → Nat → Value} [SigOk σ]
theorem growPB_ok : PrimOk σ 42 growPB := .of fun w0 args h nx outs ho ρ vs w hfr ha hw => by
 unfold growPB at ho
 split at ho
 case h_2 => cases ho
 rename_i n
 split at ho
 case h_2 => cases ho
 rename_i hn
 have hn := Nat.le_of_ble_eq_true hn
 cases ho
 cases ha with
 | cons a1 ha =>
 cases ha with
 | cons a2 ha =>
 cases ha
 have := a1.of_plain rfl; subst this
 have := a2.of_plain rfl; subst this
 obtain ⟨i, z, hi, hz, hs, hzs, hb, ht⟩ := infoH
 have h1 := Any8.slices_Grow_grow growV i z hi hz (by omega) none 0 0 (n + 1) [] w (Nat.le_refl _) (by omega) (by
  rw [Nat.zero_add]
  exact Nat.le_trans (Nat.mul_le_mul (show n + 1 ≤ 10000 by omega) hb) (by decide)) (by omega) (by simp) (fun _ => rfl) (fun a ha => by cases ha)
 have hge := grownCap_ge w (0 + (n + 1)) 0 (growV_ren.t 25)
 have hle := grownCap_le_maxLen w (0 + (n + 1)) 0 (growV_ren.t 25) (by unfold maxLen; omega)
 rw [ht] at h1 hge hle
 generalize grownCap w (0 + (n + 1)) 0 5 = cap at *
 refine Calls.mono (show Calls Tryz.prog 42 _ _ _ from h1) fun e w' ⟨he, hw'⟩ => ?_
 subst hw'
 have hρ : ρ nx = none := by
  cases hx : ρ nx with
  | none => rfl
  | some p => exact absurd (hfr nx p hx) (Nat.lt_irrefl _)
 have hA := (hw.drew).alloc (h' := h.ins nx (some (.grown 5 1 []))) (n := nx) (c := cap) (O := .cells ((#[] : Array Value) ++ Builtin.zeroCells z.cells (0 + (n + 1) - 0) ++ Builtin.zeroCells z.cells (cap - (0 + (n + 1)))) 5) hρ (fun m o hm hg => by
  rcases Heap.ins_get hg with ⟨e, _⟩ | ⟨_, e⟩
  ·exact absurd e hm
  ·exact .inl e) (fun o hg => by
  rcases Heap.ins_get hg with ⟨_, rfl⟩ | ⟨e, _⟩
  ·refine ⟨rfl, [], (Builtin.zeroCells z.cells (0 + (n + 1) - 0) ++ Builtin.zeroCells z.cells (cap - (0 + (n + 1)))).toList, ?_, .nil, ?_, hle, Nat.one_pos⟩
   ·simp
   ·simp only [List.nil_append, Array.length_toList, Array.size_append, size_zeroCells, hzs]
    omega
  ·exact absurd rfl e)
 refine ⟨_, List.mem_singleton.2 rfl, _, _, he, Ren.add_le hρ, New.add, Nat.le_succ _, fun m p hm => ?_, Rep.gr (b := w.heap.size) (c := cap) Ren.add_same (.inl rfl), hA⟩
 unfold Ren.add at hm
 split at hm
 ·rename_i e; subst e; exact Nat.lt_succ_self _
 ·exact Nat.lt_succ_of_lt (hfr m p hm)
end
end
end Go.Z
end

section
namespace Go.Z
open Go.X Go.RowKit Go.Proofs Go.Proofs.LB
set_option maxRecDepth 100000
noncomputable section
def primB (f : FuncId) : Option Prim := match f with
 | 42 => some growPB
 | f => primS f
@[reducible] def envB : Env := { P := Tryz.prog, ext := extT, prim := primB }
section
variable {σ : Nat → Nat → Value} [SigOk σ]
theorem primB_ok (g : FuncId) (f : Prim) (hg : primB g = some f) : PrimOk σ g f := by
 unfold primB at hg
 split at hg
 ·cases hg; exact growPB_ok
 ·exact primS_ok _ f hg
theorem envB_ok : EnvOk envB σ := ⟨extT_ok, primB_ok, LB.mixed⟩
end
set_option maxHeartbeats 0 in
theorem begun30_says : says (runV envB mkT 60 13 [] .nil 0) (.bool true) = true := by kernel_rfl
theorem begun30_run : says (run envB 60 13 [] .nil 0) (.bool true) = true := says_le (runV_le (E := envB) stT 60 13 [] .nil 0) begun30_says
end
end Go.Z
end
