/- One part of a proof: an evaluator of the model, shown right, and contracts that it yields. No condition beyond those that each theorem names. -/
import Derived.Test.YtbmfcghpppmfgaaGreatDoorZEA
import Derived.Test.YtbmfcghpppmfgaaGreatDoorZEC
section
set_option linter.unusedSimpArgs false
set_option linter.unusedVariables false
set_option linter.unusedSectionVars false
set_option linter.deprecated false
namespace Go.Z
open Go.X Go.RowKit Go.Proofs Go.Proofs.LB
set_option linter.unusedVariables false
set_option maxRecDepth 100000
noncomputable section
def pb0 : Laid :=
 ⟨[.string ⟨⟨105::110::115::101::114::116::32::105::110::116::111::32::116::32::118::97::108::117::101::115::40::48::44::32::39::120::39::44::32::51::41::[]⟩⟩], .tuple ⟨[.agg ⟨[.int .i64 5, .string ⟨⟨116::[]⟩⟩, .string ⟨⟨[]⟩⟩, .slice none 0 0, .slice none 0 0, .slice (some ⟨0, 0, some 0⟩) 3 0, .slice none 0 0, .string ⟨⟨[]⟩⟩, .slice none 0 0, .slice none 0 0, .slice none 0 0, .bool false, .slice none 0 0]⟩, .int .i64 0, .int .i64 0]⟩, [.grown 216 7 [.int .i64 1, .int .i64 1, .int .i64 0, .string ⟨⟨[]⟩⟩, .string ⟨⟨[]⟩⟩, .string ⟨⟨[]⟩⟩, .slice none 0 0, .int .i64 1, .int .i64 2, .int .i64 0, .string ⟨⟨120::[]⟩⟩, .string ⟨⟨[]⟩⟩, .string ⟨⟨[]⟩⟩, .slice none 0 0, .int .i64 1, .int .i64 1, .int .i64 3, .string ⟨⟨[]⟩⟩, .string ⟨⟨[]⟩⟩, .string ⟨⟨[]⟩⟩, .slice none 0 0]], [195]⟩
set_option maxHeartbeats 0 in
theorem pb0_ok : laidOk pb0 (runV envB mkT 60 72 pb0.args .nil 0) = true := by kernel_rfl
def pb1 : Laid :=
 ⟨[.string ⟨⟨105::110::115::101::114::116::32::105::110::116::111::32::116::32::118::97::108::117::101::115::40::49::44::32::39::120::39::44::32::51::41::[]⟩⟩], .tuple ⟨[.agg ⟨[.int .i64 5, .string ⟨⟨116::[]⟩⟩, .string ⟨⟨[]⟩⟩, .slice none 0 0, .slice none 0 0, .slice (some ⟨0, 0, some 0⟩) 3 0, .slice none 0 0, .string ⟨⟨[]⟩⟩, .slice none 0 0, .slice none 0 0, .slice none 0 0, .bool false, .slice none 0 0]⟩, .int .i64 0, .int .i64 0]⟩, [.grown 216 7 [.int .i64 1, .int .i64 1, .int .i64 1, .string ⟨⟨[]⟩⟩, .string ⟨⟨[]⟩⟩, .string ⟨⟨[]⟩⟩, .slice none 0 0, .int .i64 1, .int .i64 2, .int .i64 0, .string ⟨⟨120::[]⟩⟩, .string ⟨⟨[]⟩⟩, .string ⟨⟨[]⟩⟩, .slice none 0 0, .int .i64 1, .int .i64 1, .int .i64 3, .string ⟨⟨[]⟩⟩, .string ⟨⟨[]⟩⟩, .string ⟨⟨[]⟩⟩, .slice none 0 0]], [195]⟩
set_option maxHeartbeats 0 in
theorem pb1_ok : laidOk pb1 (runV envB mkT 60 72 pb1.args .nil 0) = true := by kernel_rfl
def pb2 : Laid :=
 ⟨[.string ⟨⟨105::110::115::101::114::116::32::105::110::116::111::32::116::32::118::97::108::117::101::115::40::50::44::32::39::120::39::44::32::51::41::[]⟩⟩], .tuple ⟨[.agg ⟨[.int .i64 5, .string ⟨⟨116::[]⟩⟩, .string ⟨⟨[]⟩⟩, .slice none 0 0, .slice none 0 0, .slice (some ⟨0, 0, some 0⟩) 3 0, .slice none 0 0, .string ⟨⟨[]⟩⟩, .slice none 0 0, .slice none 0 0, .slice none 0 0, .bool false, .slice none 0 0]⟩, .int .i64 0, .int .i64 0]⟩, [.grown 216 7 [.int .i64 1, .int .i64 1, .int .i64 2, .string ⟨⟨[]⟩⟩, .string ⟨⟨[]⟩⟩, .string ⟨⟨[]⟩⟩, .slice none 0 0, .int .i64 1, .int .i64 2, .int .i64 0, .string ⟨⟨120::[]⟩⟩, .string ⟨⟨[]⟩⟩, .string ⟨⟨[]⟩⟩, .slice none 0 0, .int .i64 1, .int .i64 1, .int .i64 3, .string ⟨⟨[]⟩⟩, .string ⟨⟨[]⟩⟩, .string ⟨⟨[]⟩⟩, .slice none 0 0]], [195]⟩
set_option maxHeartbeats 0 in
theorem pb2_ok : laidOk pb2 (runV envB mkT 60 72 pb2.args .nil 0) = true := by kernel_rfl
def pb3 : Laid :=
 ⟨[.string ⟨⟨105::110::115::101::114::116::32::105::110::116::111::32::116::32::118::97::108::117::101::115::40::51::44::32::39::120::39::44::32::51::41::[]⟩⟩], .tuple ⟨[.agg ⟨[.int .i64 5, .string ⟨⟨116::[]⟩⟩, .string ⟨⟨[]⟩⟩, .slice none 0 0, .slice none 0 0, .slice (some ⟨0, 0, some 0⟩) 3 0, .slice none 0 0, .string ⟨⟨[]⟩⟩, .slice none 0 0, .slice none 0 0, .slice none 0 0, .bool false, .slice none 0 0]⟩, .int .i64 0, .int .i64 0]⟩, [.grown 216 7 [.int .i64 1, .int .i64 1, .int .i64 3, .string ⟨⟨[]⟩⟩, .string ⟨⟨[]⟩⟩, .string ⟨⟨[]⟩⟩, .slice none 0 0, .int .i64 1, .int .i64 2, .int .i64 0, .string ⟨⟨120::[]⟩⟩, .string ⟨⟨[]⟩⟩, .string ⟨⟨[]⟩⟩, .slice none 0 0, .int .i64 1, .int .i64 1, .int .i64 3, .string ⟨⟨[]⟩⟩, .string ⟨⟨[]⟩⟩, .string ⟨⟨[]⟩⟩, .slice none 0 0]], [195]⟩
set_option maxHeartbeats 0 in
theorem pb3_ok : laidOk pb3 (runV envB mkT 60 72 pb3.args .nil 0) = true := by kernel_rfl
def pb4 : Laid :=
 ⟨[.string ⟨⟨105::110::115::101::114::116::32::105::110::116::111::32::116::32::118::97::108::117::101::115::40::52::44::32::39::120::39::44::32::51::41::[]⟩⟩], .tuple ⟨[.agg ⟨[.int .i64 5, .string ⟨⟨116::[]⟩⟩, .string ⟨⟨[]⟩⟩, .slice none 0 0, .slice none 0 0, .slice (some ⟨0, 0, some 0⟩) 3 0, .slice none 0 0, .string ⟨⟨[]⟩⟩, .slice none 0 0, .slice none 0 0, .slice none 0 0, .bool false, .slice none 0 0]⟩, .int .i64 0, .int .i64 0]⟩, [.grown 216 7 [.int .i64 1, .int .i64 1, .int .i64 4, .string ⟨⟨[]⟩⟩, .string ⟨⟨[]⟩⟩, .string ⟨⟨[]⟩⟩, .slice none 0 0, .int .i64 1, .int .i64 2, .int .i64 0, .string ⟨⟨120::[]⟩⟩, .string ⟨⟨[]⟩⟩, .string ⟨⟨[]⟩⟩, .slice none 0 0, .int .i64 1, .int .i64 1, .int .i64 3, .string ⟨⟨[]⟩⟩, .string ⟨⟨[]⟩⟩, .string ⟨⟨[]⟩⟩, .slice none 0 0]], [195]⟩
set_option maxHeartbeats 0 in
theorem pb4_ok : laidOk pb4 (runV envB mkT 60 72 pb4.args .nil 0) = true := by kernel_rfl
def pb5 : Laid :=
 ⟨[.string ⟨⟨105::110::115::101::114::116::32::105::110::116::111::32::116::32::118::97::108::117::101::115::40::53::44::32::39::120::39::44::32::51::41::[]⟩⟩], .tuple ⟨[.agg ⟨[.int .i64 5, .string ⟨⟨116::[]⟩⟩, .string ⟨⟨[]⟩⟩, .slice none 0 0, .slice none 0 0, .slice (some ⟨0, 0, some 0⟩) 3 0, .slice none 0 0, .string ⟨⟨[]⟩⟩, .slice none 0 0, .slice none 0 0, .slice none 0 0, .bool false, .slice none 0 0]⟩, .int .i64 0, .int .i64 0]⟩, [.grown 216 7 [.int .i64 1, .int .i64 1, .int .i64 5, .string ⟨⟨[]⟩⟩, .string ⟨⟨[]⟩⟩, .string ⟨⟨[]⟩⟩, .slice none 0 0, .int .i64 1, .int .i64 2, .int .i64 0, .string ⟨⟨120::[]⟩⟩, .string ⟨⟨[]⟩⟩, .string ⟨⟨[]⟩⟩, .slice none 0 0, .int .i64 1, .int .i64 1, .int .i64 3, .string ⟨⟨[]⟩⟩, .string ⟨⟨[]⟩⟩, .string ⟨⟨[]⟩⟩, .slice none 0 0]], [195]⟩
set_option maxHeartbeats 0 in
theorem pb5_ok : laidOk pb5 (runV envB mkT 60 72 pb5.args .nil 0) = true := by kernel_rfl
def pb6 : Laid :=
 ⟨[.string ⟨⟨105::110::115::101::114::116::32::105::110::116::111::32::116::32::118::97::108::117::101::115::40::54::44::32::39::120::39::44::32::51::41::[]⟩⟩], .tuple ⟨[.agg ⟨[.int .i64 5, .string ⟨⟨116::[]⟩⟩, .string ⟨⟨[]⟩⟩, .slice none 0 0, .slice none 0 0, .slice (some ⟨0, 0, some 0⟩) 3 0, .slice none 0 0, .string ⟨⟨[]⟩⟩, .slice none 0 0, .slice none 0 0, .slice none 0 0, .bool false, .slice none 0 0]⟩, .int .i64 0, .int .i64 0]⟩, [.grown 216 7 [.int .i64 1, .int .i64 1, .int .i64 6, .string ⟨⟨[]⟩⟩, .string ⟨⟨[]⟩⟩, .string ⟨⟨[]⟩⟩, .slice none 0 0, .int .i64 1, .int .i64 2, .int .i64 0, .string ⟨⟨120::[]⟩⟩, .string ⟨⟨[]⟩⟩, .string ⟨⟨[]⟩⟩, .slice none 0 0, .int .i64 1, .int .i64 1, .int .i64 3, .string ⟨⟨[]⟩⟩, .string ⟨⟨[]⟩⟩, .string ⟨⟨[]⟩⟩, .slice none 0 0]], [195]⟩
set_option maxHeartbeats 0 in
theorem pb6_ok : laidOk pb6 (runV envB mkT 60 72 pb6.args .nil 0) = true := by kernel_rfl
def pb7 : Laid :=
 ⟨[.string ⟨⟨105::110::115::101::114::116::32::105::110::116::111::32::116::32::118::97::108::117::101::115::40::55::44::32::39::120::39::44::32::51::41::[]⟩⟩], .tuple ⟨[.agg ⟨[.int .i64 5, .string ⟨⟨116::[]⟩⟩, .string ⟨⟨[]⟩⟩, .slice none 0 0, .slice none 0 0, .slice (some ⟨0, 0, some 0⟩) 3 0, .slice none 0 0, .string ⟨⟨[]⟩⟩, .slice none 0 0, .slice none 0 0, .slice none 0 0, .bool false, .slice none 0 0]⟩, .int .i64 0, .int .i64 0]⟩, [.grown 216 7 [.int .i64 1, .int .i64 1, .int .i64 7, .string ⟨⟨[]⟩⟩, .string ⟨⟨[]⟩⟩, .string ⟨⟨[]⟩⟩, .slice none 0 0, .int .i64 1, .int .i64 2, .int .i64 0, .string ⟨⟨120::[]⟩⟩, .string ⟨⟨[]⟩⟩, .string ⟨⟨[]⟩⟩, .slice none 0 0, .int .i64 1, .int .i64 1, .int .i64 3, .string ⟨⟨[]⟩⟩, .string ⟨⟨[]⟩⟩, .string ⟨⟨[]⟩⟩, .slice none 0 0]], [195]⟩
set_option maxHeartbeats 0 in
theorem pb7_ok : laidOk pb7 (runV envB mkT 60 72 pb7.args .nil 0) = true := by kernel_rfl
def pb8 : Laid :=
 ⟨[.string ⟨⟨105::110::115::101::114::116::32::105::110::116::111::32::116::32::118::97::108::117::101::115::40::56::44::32::39::120::39::44::32::51::41::[]⟩⟩], .tuple ⟨[.agg ⟨[.int .i64 5, .string ⟨⟨116::[]⟩⟩, .string ⟨⟨[]⟩⟩, .slice none 0 0, .slice none 0 0, .slice (some ⟨0, 0, some 0⟩) 3 0, .slice none 0 0, .string ⟨⟨[]⟩⟩, .slice none 0 0, .slice none 0 0, .slice none 0 0, .bool false, .slice none 0 0]⟩, .int .i64 0, .int .i64 0]⟩, [.grown 216 7 [.int .i64 1, .int .i64 1, .int .i64 8, .string ⟨⟨[]⟩⟩, .string ⟨⟨[]⟩⟩, .string ⟨⟨[]⟩⟩, .slice none 0 0, .int .i64 1, .int .i64 2, .int .i64 0, .string ⟨⟨120::[]⟩⟩, .string ⟨⟨[]⟩⟩, .string ⟨⟨[]⟩⟩, .slice none 0 0, .int .i64 1, .int .i64 1, .int .i64 3, .string ⟨⟨[]⟩⟩, .string ⟨⟨[]⟩⟩, .string ⟨⟨[]⟩⟩, .slice none 0 0]], [195]⟩
set_option maxHeartbeats 0 in
theorem pb8_ok : laidOk pb8 (runV envB mkT 60 72 pb8.args .nil 0) = true := by kernel_rfl
def pb9 : Laid :=
 ⟨[.string ⟨⟨99::97::108::108::32::100::[]⟩⟩], .tuple ⟨[.agg ⟨[.int .i64 13, .string ⟨⟨[]⟩⟩, .string ⟨⟨100::[]⟩⟩, .slice none 0 0, .slice none 0 0, .slice none 0 0, .slice none 0 0, .string ⟨⟨[]⟩⟩, .slice none 0 0, .slice none 0 0, .slice none 0 0, .bool false, .slice none 0 0]⟩, .int .i64 0, .int .i64 0]⟩, [], []⟩
set_option maxHeartbeats 0 in
theorem pb9_ok : laidOk pb9 (runV envB mkT 60 72 pb9.args .nil 0) = true := by kernel_rfl
def pb10 : Laid :=
 ⟨[.string ⟨⟨115::101::108::101::99::116::32::99::111::117::110::116::40::42::41::32::102::114::111::109::32::116::[]⟩⟩], .tuple ⟨[.agg ⟨[.int .i64 6, .string ⟨⟨116::[]⟩⟩, .string ⟨⟨[]⟩⟩, .slice none 0 0, .slice none 0 0, .slice none 0 0, .slice (some ⟨0, 0, none⟩) 1 1, .string ⟨⟨[]⟩⟩, .slice none 0 0, .slice none 0 0, .slice none 0 0, .bool false, .slice none 0 0]⟩, .int .i64 0, .int .i64 0]⟩, [.cells 213 [.int .i64 1, .string ⟨⟨[]⟩⟩, .string ⟨⟨[]⟩⟩]], [63]⟩
set_option maxHeartbeats 0 in
theorem pb10_ok : laidOk pb10 (runV envB mkT 60 72 pb10.args .nil 0) = true := by kernel_rfl
def pb11 : Laid :=
 ⟨[.string ⟨⟨99::97::108::108::32::101::[]⟩⟩], .tuple ⟨[.agg ⟨[.int .i64 13, .string ⟨⟨[]⟩⟩, .string ⟨⟨101::[]⟩⟩, .slice none 0 0, .slice none 0 0, .slice none 0 0, .slice none 0 0, .string ⟨⟨[]⟩⟩, .slice none 0 0, .slice none 0 0, .slice none 0 0, .bool false, .slice none 0 0]⟩, .int .i64 0, .int .i64 0]⟩, [], []⟩
set_option maxHeartbeats 0 in
theorem pb11_ok : laidOk pb11 (runV envB mkT 60 72 pb11.args .nil 0) = true := by kernel_rfl
def pb12 : Laid :=
 ⟨[.string ⟨⟨115::101::108::101::99::116::32::107::32::102::114::111::109::32::116::[]⟩⟩], .tuple ⟨[.agg ⟨[.int .i64 6, .string ⟨⟨116::[]⟩⟩, .string ⟨⟨[]⟩⟩, .slice none 0 0, .slice none 0 0, .slice none 0 0, .slice (some ⟨0, 0, none⟩) 1 1, .string ⟨⟨[]⟩⟩, .slice none 0 0, .slice none 0 0, .slice none 0 0, .bool false, .slice none 0 0]⟩, .int .i64 0, .int .i64 0]⟩, [.cells 213 [.int .i64 0, .string ⟨⟨[]⟩⟩, .string ⟨⟨107::[]⟩⟩]], [46]⟩
set_option maxHeartbeats 0 in
theorem pb12_ok : laidOk pb12 (runV envB mkT 60 72 pb12.args .nil 0) = true := by kernel_rfl
def pb13 : Laid :=
 ⟨[.string ⟨⟨99::97::108::108::32::113::[]⟩⟩], .tuple ⟨[.agg ⟨[.int .i64 13, .string ⟨⟨[]⟩⟩, .string ⟨⟨113::[]⟩⟩, .slice none 0 0, .slice none 0 0, .slice none 0 0, .slice none 0 0, .string ⟨⟨[]⟩⟩, .slice none 0 0, .slice none 0 0, .slice none 0 0, .bool false, .slice none 0 0]⟩, .int .i64 0, .int .i64 0]⟩, [], []⟩
set_option maxHeartbeats 0 in
theorem pb13_ok : laidOk pb13 (runV envB mkT 60 72 pb13.args .nil 0) = true := by kernel_rfl
def pbT : List Laid := pb0 :: pb1 :: pb2 :: pb3 :: pb4 :: pb5 :: pb6 :: pb7 :: pb8 :: pb9 :: pb10 :: pb11 :: pb12 :: pb13 :: []
theorem pbT_ok : ∀ x ∈ pbT, laidOk x (run envB 60 72 x.args .nil 0) = true := by
 have H : ∀ x : Laid, laidOk x (runV envB mkT 60 72 x.args .nil 0) = true → laidOk x (run envB 60 72 x.args .nil 0) = true := fun x h => laid_le (runV_le (E := envB) stT 60 72 _ .nil 0) h
 intro x hx
 unfold pbT at hx
 rcases List.mem_cons.1 hx with rfl | hx
 ·exact H _ pb0_ok
 rcases List.mem_cons.1 hx with rfl | hx
 ·exact H _ pb1_ok
 rcases List.mem_cons.1 hx with rfl | hx
 ·exact H _ pb2_ok
 rcases List.mem_cons.1 hx with rfl | hx
 ·exact H _ pb3_ok
 rcases List.mem_cons.1 hx with rfl | hx
 ·exact H _ pb4_ok
 rcases List.mem_cons.1 hx with rfl | hx
 ·exact H _ pb5_ok
 rcases List.mem_cons.1 hx with rfl | hx
 ·exact H _ pb6_ok
 rcases List.mem_cons.1 hx with rfl | hx
 ·exact H _ pb7_ok
 rcases List.mem_cons.1 hx with rfl | hx
 ·exact H _ pb8_ok
 rcases List.mem_cons.1 hx with rfl | hx
 ·exact H _ pb9_ok
 rcases List.mem_cons.1 hx with rfl | hx
 ·exact H _ pb10_ok
 rcases List.mem_cons.1 hx with rfl | hx
 ·exact H _ pb11_ok
 rcases List.mem_cons.1 hx with rfl | hx
 ·exact H _ pb12_ok
 rcases List.mem_cons.1 hx with rfl | hx
 ·exact H _ pb13_ok
 cases hx
end
end Go.Z
end

section
set_option linter.unusedSimpArgs false
set_option linter.unusedVariables false
set_option linter.unusedSectionVars false
set_option linter.deprecated false
namespace Go.Z
open Go.X Go.RowKit Go.Proofs Go.Proofs.LB
noncomputable section
/-- both tables -/
def joinT : List Laid → List Laid → List Laid
 | [], m => m
 | x :: l, m => x :: joinT l m
theorem joinT_mem {x : Laid} : ∀ {l m : List Laid}, x ∈ joinT l m → x ∈ l ∨ x ∈ m
 | [], m, h => .inr h
 | y :: l, m, h => by
  rcases List.mem_cons.1 h with rfl | h
  ·exact .inl (by simp)
  ·rcases joinT_mem h with h | h
   ·exact .inl (by simp [h])
   ·exact .inr h
def pdT : List Laid := joinT paT pbT
theorem pdT_ok : TabsOk pdT := fun x hx => by
 rcases joinT_mem hx with h | h
 ·exact paT_ok x h
 ·exact pbT_ok x h
end
end Go.Z
end
