/- One part of a proof: an evaluator of the model, shown right, and contracts that it yields. No condition beyond those that each theorem names. -/
import Derived.Test.YtbmfcghpppmfgaaGreatDoorZEA
import Derived.Test.YtbmfcghpppmfgaaGreatDoorZEC
import Derived.Test.YtbmfcghpppmfgaaGreatDoorZTC
section
set_option linter.unusedSimpArgs false
set_option linter.unusedVariables false
set_option linter.unusedSectionVars false
set_option linter.deprecated false
namespace Go.Z
open Go.X Go.RowKit Go.Proofs Go.Proofs.LB
set_option linter.unusedVariables false
set_option maxRecDepth 100000
noncomputable section
def pc0 : Laid :=
 ⟨[.string ⟨⟨99::114::101::97::116::101::32::116::97::98::108::101::32::97::40::107::32::105::110::116::41::[]⟩⟩], .tuple ⟨[.agg ⟨[.int .i64 1, .string ⟨⟨[]⟩⟩, .string ⟨⟨97::[]⟩⟩, .slice (some ⟨0, 0, none⟩) 1 1, .slice none 0 0, .slice none 0 0, .slice none 0 0, .string ⟨⟨[]⟩⟩, .slice none 0 0, .slice none 0 0, .slice none 0 0, .bool false, .slice none 0 0]⟩, .int .i64 0, .int .i64 0]⟩, [.cells 176 [.string ⟨⟨107::[]⟩⟩, .int .i64 1, .string ⟨⟨[]⟩⟩]], [64]⟩
set_option maxHeartbeats 0 in
theorem pc0_ok : laidOk pc0 (runV envB mkT 60 72 pc0.args .nil 0) = true := by kernel_rfl
def pc1 : Laid :=
 ⟨[.string ⟨⟨99::114::101::97::116::101::32::116::97::98::108::101::32::98::40::107::32::105::110::116::41::[]⟩⟩], .tuple ⟨[.agg ⟨[.int .i64 1, .string ⟨⟨[]⟩⟩, .string ⟨⟨98::[]⟩⟩, .slice (some ⟨0, 0, none⟩) 1 1, .slice none 0 0, .slice none 0 0, .slice none 0 0, .string ⟨⟨[]⟩⟩, .slice none 0 0, .slice none 0 0, .slice none 0 0, .bool false, .slice none 0 0]⟩, .int .i64 0, .int .i64 0]⟩, [.cells 176 [.string ⟨⟨107::[]⟩⟩, .int .i64 1, .string ⟨⟨[]⟩⟩]], [64]⟩
set_option maxHeartbeats 0 in
theorem pc1_ok : laidOk pc1 (runV envB mkT 60 72 pc1.args .nil 0) = true := by kernel_rfl
def pc2 : Laid :=
 ⟨[.string ⟨⟨99::114::101::97::116::101::32::116::97::98::108::101::32::99::40::107::32::105::110::116::41::[]⟩⟩], .tuple ⟨[.agg ⟨[.int .i64 1, .string ⟨⟨[]⟩⟩, .string ⟨⟨99::[]⟩⟩, .slice (some ⟨0, 0, none⟩) 1 1, .slice none 0 0, .slice none 0 0, .slice none 0 0, .string ⟨⟨[]⟩⟩, .slice none 0 0, .slice none 0 0, .slice none 0 0, .bool false, .slice none 0 0]⟩, .int .i64 0, .int .i64 0]⟩, [.cells 176 [.string ⟨⟨107::[]⟩⟩, .int .i64 1, .string ⟨⟨[]⟩⟩]], [64]⟩
set_option maxHeartbeats 0 in
theorem pc2_ok : laidOk pc2 (runV envB mkT 60 72 pc2.args .nil 0) = true := by kernel_rfl
def pc3 : Laid :=
 ⟨[.string ⟨⟨99::114::101::97::116::101::32::116::97::98::108::101::32::100::40::107::32::105::110::116::41::[]⟩⟩], .tuple ⟨[.agg ⟨[.int .i64 1, .string ⟨⟨[]⟩⟩, .string ⟨⟨100::[]⟩⟩, .slice (some ⟨0, 0, none⟩) 1 1, .slice none 0 0, .slice none 0 0, .slice none 0 0, .string ⟨⟨[]⟩⟩, .slice none 0 0, .slice none 0 0, .slice none 0 0, .bool false, .slice none 0 0]⟩, .int .i64 0, .int .i64 0]⟩, [.cells 176 [.string ⟨⟨107::[]⟩⟩, .int .i64 1, .string ⟨⟨[]⟩⟩]], [64]⟩
set_option maxHeartbeats 0 in
theorem pc3_ok : laidOk pc3 (runV envB mkT 60 72 pc3.args .nil 0) = true := by kernel_rfl
def pc4 : Laid :=
 ⟨[.string ⟨⟨99::114::101::97::116::101::32::116::97::98::108::101::32::101::40::107::32::105::110::116::41::[]⟩⟩], .tuple ⟨[.agg ⟨[.int .i64 1, .string ⟨⟨[]⟩⟩, .string ⟨⟨101::[]⟩⟩, .slice (some ⟨0, 0, none⟩) 1 1, .slice none 0 0, .slice none 0 0, .slice none 0 0, .string ⟨⟨[]⟩⟩, .slice none 0 0, .slice none 0 0, .slice none 0 0, .bool false, .slice none 0 0]⟩, .int .i64 0, .int .i64 0]⟩, [.cells 176 [.string ⟨⟨107::[]⟩⟩, .int .i64 1, .string ⟨⟨[]⟩⟩]], [64]⟩
set_option maxHeartbeats 0 in
theorem pc4_ok : laidOk pc4 (runV envB mkT 60 72 pc4.args .nil 0) = true := by kernel_rfl
def pc5 : Laid :=
 ⟨[.string ⟨⟨99::114::101::97::116::101::32::116::97::98::108::101::32::102::40::107::32::105::110::116::41::[]⟩⟩], .tuple ⟨[.agg ⟨[.int .i64 1, .string ⟨⟨[]⟩⟩, .string ⟨⟨102::[]⟩⟩, .slice (some ⟨0, 0, none⟩) 1 1, .slice none 0 0, .slice none 0 0, .slice none 0 0, .string ⟨⟨[]⟩⟩, .slice none 0 0, .slice none 0 0, .slice none 0 0, .bool false, .slice none 0 0]⟩, .int .i64 0, .int .i64 0]⟩, [.cells 176 [.string ⟨⟨107::[]⟩⟩, .int .i64 1, .string ⟨⟨[]⟩⟩]], [64]⟩
set_option maxHeartbeats 0 in
theorem pc5_ok : laidOk pc5 (runV envB mkT 60 72 pc5.args .nil 0) = true := by kernel_rfl
def pc6 : Laid :=
 ⟨[.string ⟨⟨99::114::101::97::116::101::32::116::97::98::108::101::32::103::40::107::32::105::110::116::41::[]⟩⟩], .tuple ⟨[.agg ⟨[.int .i64 1, .string ⟨⟨[]⟩⟩, .string ⟨⟨103::[]⟩⟩, .slice (some ⟨0, 0, none⟩) 1 1, .slice none 0 0, .slice none 0 0, .slice none 0 0, .string ⟨⟨[]⟩⟩, .slice none 0 0, .slice none 0 0, .slice none 0 0, .bool false, .slice none 0 0]⟩, .int .i64 0, .int .i64 0]⟩, [.cells 176 [.string ⟨⟨107::[]⟩⟩, .int .i64 1, .string ⟨⟨[]⟩⟩]], [64]⟩
set_option maxHeartbeats 0 in
theorem pc6_ok : laidOk pc6 (runV envB mkT 60 72 pc6.args .nil 0) = true := by kernel_rfl
def pc7 : Laid :=
 ⟨[.string ⟨⟨99::114::101::97::116::101::32::116::97::98::108::101::32::104::40::107::32::105::110::116::41::[]⟩⟩], .tuple ⟨[.agg ⟨[.int .i64 1, .string ⟨⟨[]⟩⟩, .string ⟨⟨104::[]⟩⟩, .slice (some ⟨0, 0, none⟩) 1 1, .slice none 0 0, .slice none 0 0, .slice none 0 0, .string ⟨⟨[]⟩⟩, .slice none 0 0, .slice none 0 0, .slice none 0 0, .bool false, .slice none 0 0]⟩, .int .i64 0, .int .i64 0]⟩, [.cells 176 [.string ⟨⟨107::[]⟩⟩, .int .i64 1, .string ⟨⟨[]⟩⟩]], [64]⟩
set_option maxHeartbeats 0 in
theorem pc7_ok : laidOk pc7 (runV envB mkT 60 72 pc7.args .nil 0) = true := by kernel_rfl
def pc8 : Laid :=
 ⟨[.string ⟨⟨99::114::101::97::116::101::32::116::97::98::108::101::32::105::40::107::32::105::110::116::41::[]⟩⟩], .tuple ⟨[.agg ⟨[.int .i64 1, .string ⟨⟨[]⟩⟩, .string ⟨⟨105::[]⟩⟩, .slice (some ⟨0, 0, none⟩) 1 1, .slice none 0 0, .slice none 0 0, .slice none 0 0, .string ⟨⟨[]⟩⟩, .slice none 0 0, .slice none 0 0, .slice none 0 0, .bool false, .slice none 0 0]⟩, .int .i64 0, .int .i64 0]⟩, [.cells 176 [.string ⟨⟨107::[]⟩⟩, .int .i64 1, .string ⟨⟨[]⟩⟩]], [64]⟩
set_option maxHeartbeats 0 in
theorem pc8_ok : laidOk pc8 (runV envB mkT 60 72 pc8.args .nil 0) = true := by kernel_rfl
def pc9 : Laid :=
 ⟨[.string ⟨⟨99::114::101::97::116::101::32::116::97::98::108::101::32::106::40::107::32::105::110::116::41::[]⟩⟩], .tuple ⟨[.agg ⟨[.int .i64 1, .string ⟨⟨[]⟩⟩, .string ⟨⟨106::[]⟩⟩, .slice (some ⟨0, 0, none⟩) 1 1, .slice none 0 0, .slice none 0 0, .slice none 0 0, .string ⟨⟨[]⟩⟩, .slice none 0 0, .slice none 0 0, .slice none 0 0, .bool false, .slice none 0 0]⟩, .int .i64 0, .int .i64 0]⟩, [.cells 176 [.string ⟨⟨107::[]⟩⟩, .int .i64 1, .string ⟨⟨[]⟩⟩]], [64]⟩
set_option maxHeartbeats 0 in
theorem pc9_ok : laidOk pc9 (runV envB mkT 60 72 pc9.args .nil 0) = true := by kernel_rfl
def pc10 : Laid :=
 ⟨[.string ⟨⟨99::114::101::97::116::101::32::116::97::98::108::101::32::107::40::107::32::105::110::116::41::[]⟩⟩], .tuple ⟨[.agg ⟨[.int .i64 1, .string ⟨⟨[]⟩⟩, .string ⟨⟨107::[]⟩⟩, .slice (some ⟨0, 0, none⟩) 1 1, .slice none 0 0, .slice none 0 0, .slice none 0 0, .string ⟨⟨[]⟩⟩, .slice none 0 0, .slice none 0 0, .slice none 0 0, .bool false, .slice none 0 0]⟩, .int .i64 0, .int .i64 0]⟩, [.cells 176 [.string ⟨⟨107::[]⟩⟩, .int .i64 1, .string ⟨⟨[]⟩⟩]], [64]⟩
set_option maxHeartbeats 0 in
theorem pc10_ok : laidOk pc10 (runV envB mkT 60 72 pc10.args .nil 0) = true := by kernel_rfl
def pc11 : Laid :=
 ⟨[.string ⟨⟨99::114::101::97::116::101::32::116::97::98::108::101::32::108::40::107::32::105::110::116::41::[]⟩⟩], .tuple ⟨[.agg ⟨[.int .i64 1, .string ⟨⟨[]⟩⟩, .string ⟨⟨108::[]⟩⟩, .slice (some ⟨0, 0, none⟩) 1 1, .slice none 0 0, .slice none 0 0, .slice none 0 0, .string ⟨⟨[]⟩⟩, .slice none 0 0, .slice none 0 0, .slice none 0 0, .bool false, .slice none 0 0]⟩, .int .i64 0, .int .i64 0]⟩, [.cells 176 [.string ⟨⟨107::[]⟩⟩, .int .i64 1, .string ⟨⟨[]⟩⟩]], [64]⟩
set_option maxHeartbeats 0 in
theorem pc11_ok : laidOk pc11 (runV envB mkT 60 72 pc11.args .nil 0) = true := by kernel_rfl
def pc12 : Laid :=
 ⟨[.string ⟨⟨99::114::101::97::116::101::32::116::97::98::108::101::32::109::40::107::32::105::110::116::41::[]⟩⟩], .tuple ⟨[.agg ⟨[.int .i64 1, .string ⟨⟨[]⟩⟩, .string ⟨⟨109::[]⟩⟩, .slice (some ⟨0, 0, none⟩) 1 1, .slice none 0 0, .slice none 0 0, .slice none 0 0, .string ⟨⟨[]⟩⟩, .slice none 0 0, .slice none 0 0, .slice none 0 0, .bool false, .slice none 0 0]⟩, .int .i64 0, .int .i64 0]⟩, [.cells 176 [.string ⟨⟨107::[]⟩⟩, .int .i64 1, .string ⟨⟨[]⟩⟩]], [64]⟩
set_option maxHeartbeats 0 in
theorem pc12_ok : laidOk pc12 (runV envB mkT 60 72 pc12.args .nil 0) = true := by kernel_rfl
def pc13 : Laid :=
 ⟨[.string ⟨⟨99::114::101::97::116::101::32::116::97::98::108::101::32::110::40::107::32::105::110::116::41::[]⟩⟩], .tuple ⟨[.agg ⟨[.int .i64 1, .string ⟨⟨[]⟩⟩, .string ⟨⟨110::[]⟩⟩, .slice (some ⟨0, 0, none⟩) 1 1, .slice none 0 0, .slice none 0 0, .slice none 0 0, .string ⟨⟨[]⟩⟩, .slice none 0 0, .slice none 0 0, .slice none 0 0, .bool false, .slice none 0 0]⟩, .int .i64 0, .int .i64 0]⟩, [.cells 176 [.string ⟨⟨107::[]⟩⟩, .int .i64 1, .string ⟨⟨[]⟩⟩]], [64]⟩
set_option maxHeartbeats 0 in
theorem pc13_ok : laidOk pc13 (runV envB mkT 60 72 pc13.args .nil 0) = true := by kernel_rfl
def pc14 : Laid :=
 ⟨[.string ⟨⟨99::114::101::97::116::101::32::116::97::98::108::101::32::111::40::107::32::105::110::116::41::[]⟩⟩], .tuple ⟨[.agg ⟨[.int .i64 1, .string ⟨⟨[]⟩⟩, .string ⟨⟨111::[]⟩⟩, .slice (some ⟨0, 0, none⟩) 1 1, .slice none 0 0, .slice none 0 0, .slice none 0 0, .string ⟨⟨[]⟩⟩, .slice none 0 0, .slice none 0 0, .slice none 0 0, .bool false, .slice none 0 0]⟩, .int .i64 0, .int .i64 0]⟩, [.cells 176 [.string ⟨⟨107::[]⟩⟩, .int .i64 1, .string ⟨⟨[]⟩⟩]], [64]⟩
set_option maxHeartbeats 0 in
theorem pc14_ok : laidOk pc14 (runV envB mkT 60 72 pc14.args .nil 0) = true := by kernel_rfl
def pc15 : Laid :=
 ⟨[.string ⟨⟨99::114::101::97::116::101::32::116::97::98::108::101::32::112::40::107::32::105::110::116::41::[]⟩⟩], .tuple ⟨[.agg ⟨[.int .i64 1, .string ⟨⟨[]⟩⟩, .string ⟨⟨112::[]⟩⟩, .slice (some ⟨0, 0, none⟩) 1 1, .slice none 0 0, .slice none 0 0, .slice none 0 0, .string ⟨⟨[]⟩⟩, .slice none 0 0, .slice none 0 0, .slice none 0 0, .bool false, .slice none 0 0]⟩, .int .i64 0, .int .i64 0]⟩, [.cells 176 [.string ⟨⟨107::[]⟩⟩, .int .i64 1, .string ⟨⟨[]⟩⟩]], [64]⟩
set_option maxHeartbeats 0 in
theorem pc15_ok : laidOk pc15 (runV envB mkT 60 72 pc15.args .nil 0) = true := by kernel_rfl
def pc16 : Laid :=
 ⟨[.string ⟨⟨99::114::101::97::116::101::32::116::97::98::108::101::32::113::40::107::32::105::110::116::41::[]⟩⟩], .tuple ⟨[.agg ⟨[.int .i64 1, .string ⟨⟨[]⟩⟩, .string ⟨⟨113::[]⟩⟩, .slice (some ⟨0, 0, none⟩) 1 1, .slice none 0 0, .slice none 0 0, .slice none 0 0, .string ⟨⟨[]⟩⟩, .slice none 0 0, .slice none 0 0, .slice none 0 0, .bool false, .slice none 0 0]⟩, .int .i64 0, .int .i64 0]⟩, [.cells 176 [.string ⟨⟨107::[]⟩⟩, .int .i64 1, .string ⟨⟨[]⟩⟩]], [64]⟩
set_option maxHeartbeats 0 in
theorem pc16_ok : laidOk pc16 (runV envB mkT 60 72 pc16.args .nil 0) = true := by kernel_rfl
def pc17 : Laid :=
 ⟨[.string ⟨⟨99::114::101::97::116::101::32::116::97::98::108::101::32::114::40::107::32::105::110::116::41::[]⟩⟩], .tuple ⟨[.agg ⟨[.int .i64 1, .string ⟨⟨[]⟩⟩, .string ⟨⟨114::[]⟩⟩, .slice (some ⟨0, 0, none⟩) 1 1, .slice none 0 0, .slice none 0 0, .slice none 0 0, .string ⟨⟨[]⟩⟩, .slice none 0 0, .slice none 0 0, .slice none 0 0, .bool false, .slice none 0 0]⟩, .int .i64 0, .int .i64 0]⟩, [.cells 176 [.string ⟨⟨107::[]⟩⟩, .int .i64 1, .string ⟨⟨[]⟩⟩]], [64]⟩
set_option maxHeartbeats 0 in
theorem pc17_ok : laidOk pc17 (runV envB mkT 60 72 pc17.args .nil 0) = true := by kernel_rfl
def pc18 : Laid :=
 ⟨[.string ⟨⟨99::114::101::97::116::101::32::116::97::98::108::101::32::115::40::107::32::105::110::116::41::[]⟩⟩], .tuple ⟨[.agg ⟨[.int .i64 1, .string ⟨⟨[]⟩⟩, .string ⟨⟨115::[]⟩⟩, .slice (some ⟨0, 0, none⟩) 1 1, .slice none 0 0, .slice none 0 0, .slice none 0 0, .string ⟨⟨[]⟩⟩, .slice none 0 0, .slice none 0 0, .slice none 0 0, .bool false, .slice none 0 0]⟩, .int .i64 0, .int .i64 0]⟩, [.cells 176 [.string ⟨⟨107::[]⟩⟩, .int .i64 1, .string ⟨⟨[]⟩⟩]], [64]⟩
set_option maxHeartbeats 0 in
theorem pc18_ok : laidOk pc18 (runV envB mkT 60 72 pc18.args .nil 0) = true := by kernel_rfl
def pc19 : Laid :=
 ⟨[.string ⟨⟨99::114::101::97::116::101::32::116::97::98::108::101::32::116::40::107::32::105::110::116::41::[]⟩⟩], .tuple ⟨[.agg ⟨[.int .i64 1, .string ⟨⟨[]⟩⟩, .string ⟨⟨116::[]⟩⟩, .slice (some ⟨0, 0, none⟩) 1 1, .slice none 0 0, .slice none 0 0, .slice none 0 0, .string ⟨⟨[]⟩⟩, .slice none 0 0, .slice none 0 0, .slice none 0 0, .bool false, .slice none 0 0]⟩, .int .i64 0, .int .i64 0]⟩, [.cells 176 [.string ⟨⟨107::[]⟩⟩, .int .i64 1, .string ⟨⟨[]⟩⟩]], [64]⟩
set_option maxHeartbeats 0 in
theorem pc19_ok : laidOk pc19 (runV envB mkT 60 72 pc19.args .nil 0) = true := by kernel_rfl
def pc20 : Laid :=
 ⟨[.string ⟨⟨99::114::101::97::116::101::32::116::97::98::108::101::32::117::40::107::32::105::110::116::41::[]⟩⟩], .tuple ⟨[.agg ⟨[.int .i64 1, .string ⟨⟨[]⟩⟩, .string ⟨⟨117::[]⟩⟩, .slice (some ⟨0, 0, none⟩) 1 1, .slice none 0 0, .slice none 0 0, .slice none 0 0, .string ⟨⟨[]⟩⟩, .slice none 0 0, .slice none 0 0, .slice none 0 0, .bool false, .slice none 0 0]⟩, .int .i64 0, .int .i64 0]⟩, [.cells 176 [.string ⟨⟨107::[]⟩⟩, .int .i64 1, .string ⟨⟨[]⟩⟩]], [64]⟩
set_option maxHeartbeats 0 in
theorem pc20_ok : laidOk pc20 (runV envB mkT 60 72 pc20.args .nil 0) = true := by kernel_rfl
def pc21 : Laid :=
 ⟨[.string ⟨⟨99::114::101::97::116::101::32::116::97::98::108::101::32::118::40::107::32::105::110::116::41::[]⟩⟩], .tuple ⟨[.agg ⟨[.int .i64 1, .string ⟨⟨[]⟩⟩, .string ⟨⟨118::[]⟩⟩, .slice (some ⟨0, 0, none⟩) 1 1, .slice none 0 0, .slice none 0 0, .slice none 0 0, .string ⟨⟨[]⟩⟩, .slice none 0 0, .slice none 0 0, .slice none 0 0, .bool false, .slice none 0 0]⟩, .int .i64 0, .int .i64 0]⟩, [.cells 176 [.string ⟨⟨107::[]⟩⟩, .int .i64 1, .string ⟨⟨[]⟩⟩]], [64]⟩
set_option maxHeartbeats 0 in
theorem pc21_ok : laidOk pc21 (runV envB mkT 60 72 pc21.args .nil 0) = true := by kernel_rfl
def pc22 : Laid :=
 ⟨[.string ⟨⟨99::114::101::97::116::101::32::116::97::98::108::101::32::119::40::107::32::105::110::116::41::[]⟩⟩], .tuple ⟨[.agg ⟨[.int .i64 1, .string ⟨⟨[]⟩⟩, .string ⟨⟨119::[]⟩⟩, .slice (some ⟨0, 0, none⟩) 1 1, .slice none 0 0, .slice none 0 0, .slice none 0 0, .string ⟨⟨[]⟩⟩, .slice none 0 0, .slice none 0 0, .slice none 0 0, .bool false, .slice none 0 0]⟩, .int .i64 0, .int .i64 0]⟩, [.cells 176 [.string ⟨⟨107::[]⟩⟩, .int .i64 1, .string ⟨⟨[]⟩⟩]], [64]⟩
set_option maxHeartbeats 0 in
theorem pc22_ok : laidOk pc22 (runV envB mkT 60 72 pc22.args .nil 0) = true := by kernel_rfl
def pc23 : Laid :=
 ⟨[.string ⟨⟨99::114::101::97::116::101::32::116::97::98::108::101::32::120::40::107::32::105::110::116::41::[]⟩⟩], .tuple ⟨[.agg ⟨[.int .i64 1, .string ⟨⟨[]⟩⟩, .string ⟨⟨120::[]⟩⟩, .slice (some ⟨0, 0, none⟩) 1 1, .slice none 0 0, .slice none 0 0, .slice none 0 0, .string ⟨⟨[]⟩⟩, .slice none 0 0, .slice none 0 0, .slice none 0 0, .bool false, .slice none 0 0]⟩, .int .i64 0, .int .i64 0]⟩, [.cells 176 [.string ⟨⟨107::[]⟩⟩, .int .i64 1, .string ⟨⟨[]⟩⟩]], [64]⟩
set_option maxHeartbeats 0 in
theorem pc23_ok : laidOk pc23 (runV envB mkT 60 72 pc23.args .nil 0) = true := by kernel_rfl
def pc24 : Laid :=
 ⟨[.string ⟨⟨99::114::101::97::116::101::32::116::97::98::108::101::32::121::40::107::32::105::110::116::41::[]⟩⟩], .tuple ⟨[.agg ⟨[.int .i64 1, .string ⟨⟨[]⟩⟩, .string ⟨⟨121::[]⟩⟩, .slice (some ⟨0, 0, none⟩) 1 1, .slice none 0 0, .slice none 0 0, .slice none 0 0, .string ⟨⟨[]⟩⟩, .slice none 0 0, .slice none 0 0, .slice none 0 0, .bool false, .slice none 0 0]⟩, .int .i64 0, .int .i64 0]⟩, [.cells 176 [.string ⟨⟨107::[]⟩⟩, .int .i64 1, .string ⟨⟨[]⟩⟩]], [64]⟩
set_option maxHeartbeats 0 in
theorem pc24_ok : laidOk pc24 (runV envB mkT 60 72 pc24.args .nil 0) = true := by kernel_rfl
def pc25 : Laid :=
 ⟨[.string ⟨⟨99::114::101::97::116::101::32::116::97::98::108::101::32::122::40::107::32::105::110::116::41::[]⟩⟩], .tuple ⟨[.agg ⟨[.int .i64 1, .string ⟨⟨[]⟩⟩, .string ⟨⟨122::[]⟩⟩, .slice (some ⟨0, 0, none⟩) 1 1, .slice none 0 0, .slice none 0 0, .slice none 0 0, .string ⟨⟨[]⟩⟩, .slice none 0 0, .slice none 0 0, .slice none 0 0, .bool false, .slice none 0 0]⟩, .int .i64 0, .int .i64 0]⟩, [.cells 176 [.string ⟨⟨107::[]⟩⟩, .int .i64 1, .string ⟨⟨[]⟩⟩]], [64]⟩
set_option maxHeartbeats 0 in
theorem pc25_ok : laidOk pc25 (runV envB mkT 60 72 pc25.args .nil 0) = true := by kernel_rfl
def pcT : List Laid := pc0 :: pc1 :: pc2 :: pc3 :: pc4 :: pc5 :: pc6 :: pc7 :: pc8 :: pc9 :: pc10 :: pc11 :: pc12 :: pc13 :: pc14 :: pc15 :: pc16 :: pc17 :: pc18 :: pc19 :: pc20 :: pc21 :: pc22 :: pc23 :: pc24 :: pc25 :: []
theorem pcT_ok : ∀ x ∈ pcT, laidOk x (run envB 60 72 x.args .nil 0) = true := by
 have H : ∀ x : Laid, laidOk x (runV envB mkT 60 72 x.args .nil 0) = true → laidOk x (run envB 60 72 x.args .nil 0) = true := fun x h => laid_le (runV_le (E := envB) stT 60 72 _ .nil 0) h
 intro x hx
 unfold pcT at hx
 rcases List.mem_cons.1 hx with rfl | hx
 ·exact H _ pc0_ok
 rcases List.mem_cons.1 hx with rfl | hx
 ·exact H _ pc1_ok
 rcases List.mem_cons.1 hx with rfl | hx
 ·exact H _ pc2_ok
 rcases List.mem_cons.1 hx with rfl | hx
 ·exact H _ pc3_ok
 rcases List.mem_cons.1 hx with rfl | hx
 ·exact H _ pc4_ok
 rcases List.mem_cons.1 hx with rfl | hx
 ·exact H _ pc5_ok
 rcases List.mem_cons.1 hx with rfl | hx
 ·exact H _ pc6_ok
 rcases List.mem_cons.1 hx with rfl | hx
 ·exact H _ pc7_ok
 rcases List.mem_cons.1 hx with rfl | hx
 ·exact H _ pc8_ok
 rcases List.mem_cons.1 hx with rfl | hx
 ·exact H _ pc9_ok
 rcases List.mem_cons.1 hx with rfl | hx
 ·exact H _ pc10_ok
 rcases List.mem_cons.1 hx with rfl | hx
 ·exact H _ pc11_ok
 rcases List.mem_cons.1 hx with rfl | hx
 ·exact H _ pc12_ok
 rcases List.mem_cons.1 hx with rfl | hx
 ·exact H _ pc13_ok
 rcases List.mem_cons.1 hx with rfl | hx
 ·exact H _ pc14_ok
 rcases List.mem_cons.1 hx with rfl | hx
 ·exact H _ pc15_ok
 rcases List.mem_cons.1 hx with rfl | hx
 ·exact H _ pc16_ok
 rcases List.mem_cons.1 hx with rfl | hx
 ·exact H _ pc17_ok
 rcases List.mem_cons.1 hx with rfl | hx
 ·exact H _ pc18_ok
 rcases List.mem_cons.1 hx with rfl | hx
 ·exact H _ pc19_ok
 rcases List.mem_cons.1 hx with rfl | hx
 ·exact H _ pc20_ok
 rcases List.mem_cons.1 hx with rfl | hx
 ·exact H _ pc21_ok
 rcases List.mem_cons.1 hx with rfl | hx
 ·exact H _ pc22_ok
 rcases List.mem_cons.1 hx with rfl | hx
 ·exact H _ pc23_ok
 rcases List.mem_cons.1 hx with rfl | hx
 ·exact H _ pc24_ok
 rcases List.mem_cons.1 hx with rfl | hx
 ·exact H _ pc25_ok
 cases hx
end
end Go.Z
end

section
set_option linter.unusedSimpArgs false
set_option linter.unusedVariables false
set_option linter.unusedSectionVars false
set_option linter.deprecated false
namespace Go.Z
open Go.X Go.RowKit Go.Proofs Go.Proofs.LB
noncomputable section
def joinC : List Laid → List Laid → List Laid
 | [], m => m
 | x :: l, m => x :: joinC l m
theorem joinC_mem {x : Laid} : ∀ {l m : List Laid}, x ∈ joinC l m → x ∈ l ∨ x ∈ m
 | [], m, h => .inr h
 | y :: l, m, h => by
  rcases List.mem_cons.1 h with rfl | h
  ·exact .inl (by simp)
  ·rcases joinC_mem h with h | h
   ·exact .inl (by simp [h])
   ·exact .inr h
def pcdT : List Laid := joinC paT pcT
theorem pcdT_ok : TabsOk pcdT := fun x hx => by
 rcases joinC_mem hx with h | h
 ·exact paT_ok x h
 ·exact pcT_ok x h
end
end Go.Z
end
