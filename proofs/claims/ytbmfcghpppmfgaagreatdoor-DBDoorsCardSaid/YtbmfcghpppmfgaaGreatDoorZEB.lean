/- One part of a proof: an evaluator of the model, shown right, and contracts that it yields. No condition beyond those that each theorem names. -/
import Derived.Test.YtbmfcghpppmfgaaGreatDoorZEA
section
set_option linter.unusedSimpArgs false
set_option linter.unusedVariables false
set_option linter.unusedSectionVars false
set_option linter.deprecated false
namespace Go.Z
open Go.X Go.RowKit Go.Proofs Go.Proofs.LB
set_option linter.unusedVariables false
set_option maxRecDepth 100000
noncomputable section
def pa0 : Laid :=
 ⟨[.string ⟨⟨99::114::101::97::116::101::32::116::97::98::108::101::32::116::40::107::32::105::110::116::44::32::118::32::116::101::120::116::44::32::110::32::105::110::116::41::[]⟩⟩], .tuple ⟨[.agg ⟨[.int .i64 1, .string ⟨⟨[]⟩⟩, .string ⟨⟨116::[]⟩⟩, .slice (some ⟨0, 0, some 0⟩) 3 0, .slice none 0 0, .slice none 0 0, .slice none 0 0, .string ⟨⟨[]⟩⟩, .slice none 0 0, .slice none 0 0, .slice none 0 0, .bool false, .slice none 0 0]⟩, .int .i64 0, .int .i64 0]⟩, [.grown 176 3 [.string ⟨⟨107::[]⟩⟩, .int .i64 1, .string ⟨⟨[]⟩⟩, .string ⟨⟨118::[]⟩⟩, .int .i64 2, .string ⟨⟨[]⟩⟩, .string ⟨⟨110::[]⟩⟩, .int .i64 1, .string ⟨⟨[]⟩⟩]], [121]⟩
set_option maxHeartbeats 0 in
theorem pa0_ok : laidOk pa0 (runV envB mkT 60 72 pa0.args .nil 0) = true := by kernel_rfl
def pa1 : Laid :=
 ⟨[.string ⟨⟨99::114::101::97::116::101::32::116::97::98::108::101::32::117::40::107::32::116::101::120::116::44::32::114::32::105::110::116::32::114::101::102::32::116::44::32::110::32::105::110::116::41::[]⟩⟩], .tuple ⟨[.agg ⟨[.int .i64 1, .string ⟨⟨[]⟩⟩, .string ⟨⟨117::[]⟩⟩, .slice (some ⟨0, 0, some 0⟩) 3 0, .slice none 0 0, .slice none 0 0, .slice none 0 0, .string ⟨⟨[]⟩⟩, .slice none 0 0, .slice none 0 0, .slice none 0 0, .bool false, .slice none 0 0]⟩, .int .i64 0, .int .i64 0]⟩, [.grown 176 3 [.string ⟨⟨107::[]⟩⟩, .int .i64 2, .string ⟨⟨[]⟩⟩, .string ⟨⟨114::[]⟩⟩, .int .i64 1, .string ⟨⟨116::[]⟩⟩, .string ⟨⟨110::[]⟩⟩, .int .i64 1, .string ⟨⟨[]⟩⟩]], [135]⟩
set_option maxHeartbeats 0 in
theorem pa1_ok : laidOk pa1 (runV envB mkT 60 72 pa1.args .nil 0) = true := by kernel_rfl
def pa2 : Laid :=
 ⟨[.string ⟨⟨99::114::101::97::116::101::32::105::110::100::101::120::32::111::110::32::116::40::110::41::[]⟩⟩], .tuple ⟨[.agg ⟨[.int .i64 2, .string ⟨⟨116::[]⟩⟩, .string ⟨⟨110::[]⟩⟩, .slice none 0 0, .slice none 0 0, .slice none 0 0, .slice none 0 0, .string ⟨⟨[]⟩⟩, .slice none 0 0, .slice none 0 0, .slice none 0 0, .bool false, .slice none 0 0]⟩, .int .i64 0, .int .i64 0]⟩, [], []⟩
set_option maxHeartbeats 0 in
theorem pa2_ok : laidOk pa2 (runV envB mkT 60 72 pa2.args .nil 0) = true := by kernel_rfl
def pa3 : Laid :=
 ⟨[.string ⟨⟨99::114::101::97::116::101::32::118::105::101::119::32::100::32::115::116::114::105::112::32::49::32::97::115::32::115::101::108::101::99::116::32::99::111::117::110::116::40::42::41::44::32::115::117::109::40::110::41::32::102::114::111::109::32::116::[]⟩⟩], .tuple ⟨[.agg ⟨[.int .i64 3, .string ⟨⟨[]⟩⟩, .string ⟨⟨100::[]⟩⟩, .slice none 0 0, .slice (some ⟨0, 0, none⟩) 1 1, .slice none 0 0, .slice none 0 0, .string ⟨⟨[]⟩⟩, .slice none 0 0, .slice none 0 0, .slice none 0 0, .bool false, .slice (some ⟨1, 0, none⟩) 1 1]⟩, .int .i64 0, .int .i64 0]⟩, [.cells 44 [.int .u16 1],
 .cells 104 [.int .i64 6, .string ⟨⟨116::[]⟩⟩, .string ⟨⟨[]⟩⟩, .slice none 0 0, .slice none 0 0, .slice none 0 0, .slice (some ⟨2, 0, some 0⟩) 2 0, .string ⟨⟨[]⟩⟩, .slice none 0 0, .slice none 0 0, .slice none 0 0, .bool false, .slice none 0 0],
 .grown 213 3 [.int .i64 1, .string ⟨⟨[]⟩⟩, .string ⟨⟨[]⟩⟩, .int .i64 2, .string ⟨⟨[]⟩⟩, .string ⟨⟨110::[]⟩⟩]], [134, 178, 169]⟩
set_option maxHeartbeats 0 in
theorem pa3_ok : laidOk pa3 (runV envB mkT 60 72 pa3.args .nil 0) = true := by kernel_rfl
def pa4 : Laid :=
 ⟨[.string ⟨⟨99::114::101::97::116::101::32::99::108::111::115::117::114::101::32::101::32::115::116::114::105::112::32::50::32::97::115::32::105::110::115::101::114::116::32::105::110::116::111::32::116::32::118::97::108::117::101::115::40::55::44::32::39::101::39::44::32::49::41::[]⟩⟩], .tuple ⟨[.agg ⟨[.int .i64 4, .string ⟨⟨[]⟩⟩, .string ⟨⟨101::[]⟩⟩, .slice none 0 0, .slice (some ⟨0, 0, none⟩) 1 1, .slice none 0 0, .slice none 0 0, .string ⟨⟨[]⟩⟩, .slice none 0 0, .slice none 0 0, .slice none 0 0, .bool false, .slice (some ⟨1, 0, none⟩) 1 1]⟩, .int .i64 0, .int .i64 0]⟩, [.cells 44 [.int .u16 2],
 .cells 104 [.int .i64 5, .string ⟨⟨116::[]⟩⟩, .string ⟨⟨[]⟩⟩, .slice none 0 0, .slice none 0 0, .slice (some ⟨2, 0, some 0⟩) 3 0, .slice none 0 0, .string ⟨⟨[]⟩⟩, .slice none 0 0, .slice none 0 0, .slice none 0 0, .bool false, .slice none 0 0],
 .grown 216 7 [.int .i64 1, .int .i64 1, .int .i64 7, .string ⟨⟨[]⟩⟩, .string ⟨⟨[]⟩⟩, .string ⟨⟨[]⟩⟩, .slice none 0 0, .int .i64 1, .int .i64 2, .int .i64 0, .string ⟨⟨101::[]⟩⟩, .string ⟨⟨[]⟩⟩, .string ⟨⟨[]⟩⟩, .slice none 0 0, .int .i64 1, .int .i64 1, .int .i64 1, .string ⟨⟨[]⟩⟩, .string ⟨⟨[]⟩⟩, .string ⟨⟨[]⟩⟩, .slice none 0 0]], [128, 256, 252]⟩
set_option maxHeartbeats 0 in
theorem pa4_ok : laidOk pa4 (runV envB mkT 60 72 pa4.args .nil 0) = true := by kernel_rfl
def pa5 : Laid :=
 ⟨[.string ⟨⟨105::110::115::101::114::116::32::105::110::116::111::32::116::32::118::97::108::117::101::115::40::57::44::32::39::122::39::44::32::57::41::[]⟩⟩], .tuple ⟨[.agg ⟨[.int .i64 5, .string ⟨⟨116::[]⟩⟩, .string ⟨⟨[]⟩⟩, .slice none 0 0, .slice none 0 0, .slice (some ⟨0, 0, some 0⟩) 3 0, .slice none 0 0, .string ⟨⟨[]⟩⟩, .slice none 0 0, .slice none 0 0, .slice none 0 0, .bool false, .slice none 0 0]⟩, .int .i64 0, .int .i64 0]⟩, [.grown 216 7 [.int .i64 1, .int .i64 1, .int .i64 9, .string ⟨⟨[]⟩⟩, .string ⟨⟨[]⟩⟩, .string ⟨⟨[]⟩⟩, .slice none 0 0, .int .i64 1, .int .i64 2, .int .i64 0, .string ⟨⟨122::[]⟩⟩, .string ⟨⟨[]⟩⟩, .string ⟨⟨[]⟩⟩, .slice none 0 0, .int .i64 1, .int .i64 1, .int .i64 9, .string ⟨⟨[]⟩⟩, .string ⟨⟨[]⟩⟩, .string ⟨⟨[]⟩⟩, .slice none 0 0]], [195]⟩
set_option maxHeartbeats 0 in
theorem pa5_ok : laidOk pa5 (runV envB mkT 60 72 pa5.args .nil 0) = true := by kernel_rfl
def pa6 : Laid :=
 ⟨[.string ⟨⟨98::101::103::105::110::[]⟩⟩], .tuple ⟨[.agg ⟨[.int .i64 9, .string ⟨⟨[]⟩⟩, .string ⟨⟨[]⟩⟩, .slice none 0 0, .slice none 0 0, .slice none 0 0, .slice none 0 0, .string ⟨⟨[]⟩⟩, .slice none 0 0, .slice none 0 0, .slice none 0 0, .bool false, .slice none 0 0]⟩, .int .i64 0, .int .i64 0]⟩, [], []⟩
set_option maxHeartbeats 0 in
theorem pa6_ok : laidOk pa6 (runV envB mkT 60 72 pa6.args .nil 0) = true := by kernel_rfl
def pa7 : Laid :=
 ⟨[.string ⟨⟨115::101::108::101::99::116::32::42::32::102::114::111::109::32::116::[]⟩⟩], .tuple ⟨[.agg ⟨[.int .i64 6, .string ⟨⟨116::[]⟩⟩, .string ⟨⟨[]⟩⟩, .slice none 0 0, .slice none 0 0, .slice none 0 0, .slice none 0 0, .string ⟨⟨[]⟩⟩, .slice none 0 0, .slice none 0 0, .slice none 0 0, .bool false, .slice none 0 0]⟩, .int .i64 0, .int .i64 0]⟩, [], []⟩
set_option maxHeartbeats 0 in
theorem pa7_ok : laidOk pa7 (runV envB mkT 60 72 pa7.args .nil 0) = true := by kernel_rfl
def pa8 : Laid :=
 ⟨[.string ⟨⟨105::110::115::101::114::116::32::105::110::116::111::32::116::32::118::97::108::117::101::115::40::49::44::32::39::97::39::44::32::49::41::[]⟩⟩], .tuple ⟨[.agg ⟨[.int .i64 5, .string ⟨⟨116::[]⟩⟩, .string ⟨⟨[]⟩⟩, .slice none 0 0, .slice none 0 0, .slice (some ⟨0, 0, some 0⟩) 3 0, .slice none 0 0, .string ⟨⟨[]⟩⟩, .slice none 0 0, .slice none 0 0, .slice none 0 0, .bool false, .slice none 0 0]⟩, .int .i64 0, .int .i64 0]⟩, [.grown 216 7 [.int .i64 1, .int .i64 1, .int .i64 1, .string ⟨⟨[]⟩⟩, .string ⟨⟨[]⟩⟩, .string ⟨⟨[]⟩⟩, .slice none 0 0, .int .i64 1, .int .i64 2, .int .i64 0, .string ⟨⟨97::[]⟩⟩, .string ⟨⟨[]⟩⟩, .string ⟨⟨[]⟩⟩, .slice none 0 0, .int .i64 1, .int .i64 1, .int .i64 1, .string ⟨⟨[]⟩⟩, .string ⟨⟨[]⟩⟩, .string ⟨⟨[]⟩⟩, .slice none 0 0]], [195]⟩
set_option maxHeartbeats 0 in
theorem pa8_ok : laidOk pa8 (runV envB mkT 60 72 pa8.args .nil 0) = true := by kernel_rfl
def pa9 : Laid :=
 ⟨[.string ⟨⟨114::97::105::115::101::32::49::[]⟩⟩], .tuple ⟨[.agg ⟨[.int .i64 12, .string ⟨⟨[]⟩⟩, .string ⟨⟨[]⟩⟩, .slice none 0 0, .slice (some ⟨0, 0, none⟩) 1 1, .slice none 0 0, .slice none 0 0, .string ⟨⟨[]⟩⟩, .slice none 0 0, .slice none 0 0, .slice none 0 0, .bool false, .slice none 0 0]⟩, .int .i64 0, .int .i64 0]⟩, [.cells 44 [.int .u16 1]], [26]⟩
set_option maxHeartbeats 0 in
theorem pa9_ok : laidOk pa9 (runV envB mkT 60 72 pa9.args .nil 0) = true := by kernel_rfl
def pa10 : Laid :=
 ⟨[.string ⟨⟨114::97::105::115::101::32::50::[]⟩⟩], .tuple ⟨[.agg ⟨[.int .i64 12, .string ⟨⟨[]⟩⟩, .string ⟨⟨[]⟩⟩, .slice none 0 0, .slice (some ⟨0, 0, none⟩) 1 1, .slice none 0 0, .slice none 0 0, .string ⟨⟨[]⟩⟩, .slice none 0 0, .slice none 0 0, .slice none 0 0, .bool false, .slice none 0 0]⟩, .int .i64 0, .int .i64 0]⟩, [.cells 44 [.int .u16 2]], [26]⟩
set_option maxHeartbeats 0 in
theorem pa10_ok : laidOk pa10 (runV envB mkT 60 72 pa10.args .nil 0) = true := by kernel_rfl
def pa11 : Laid :=
 ⟨[.string ⟨⟨114::97::105::115::101::32::51::[]⟩⟩], .tuple ⟨[.agg ⟨[.int .i64 12, .string ⟨⟨[]⟩⟩, .string ⟨⟨[]⟩⟩, .slice none 0 0, .slice (some ⟨0, 0, none⟩) 1 1, .slice none 0 0, .slice none 0 0, .string ⟨⟨[]⟩⟩, .slice none 0 0, .slice none 0 0, .slice none 0 0, .bool false, .slice none 0 0]⟩, .int .i64 0, .int .i64 0]⟩, [.cells 44 [.int .u16 3]], [26]⟩
set_option maxHeartbeats 0 in
theorem pa11_ok : laidOk pa11 (runV envB mkT 60 72 pa11.args .nil 0) = true := by kernel_rfl
def pa12 : Laid :=
 ⟨[.string ⟨⟨115::101::108::101::99::116::32::42::32::102::114::111::109::32::117::[]⟩⟩], .tuple ⟨[.agg ⟨[.int .i64 6, .string ⟨⟨117::[]⟩⟩, .string ⟨⟨[]⟩⟩, .slice none 0 0, .slice none 0 0, .slice none 0 0, .slice none 0 0, .string ⟨⟨[]⟩⟩, .slice none 0 0, .slice none 0 0, .slice none 0 0, .bool false, .slice none 0 0]⟩, .int .i64 0, .int .i64 0]⟩, [], []⟩
set_option maxHeartbeats 0 in
theorem pa12_ok : laidOk pa12 (runV envB mkT 60 72 pa12.args .nil 0) = true := by kernel_rfl
def pa13 : Laid :=
 ⟨[.string ⟨⟨99::111::109::109::105::116::[]⟩⟩], .tuple ⟨[.agg ⟨[.int .i64 10, .string ⟨⟨[]⟩⟩, .string ⟨⟨[]⟩⟩, .slice none 0 0, .slice none 0 0, .slice none 0 0, .slice none 0 0, .string ⟨⟨[]⟩⟩, .slice none 0 0, .slice none 0 0, .slice none 0 0, .bool false, .slice none 0 0]⟩, .int .i64 0, .int .i64 0]⟩, [], []⟩
set_option maxHeartbeats 0 in
theorem pa13_ok : laidOk pa13 (runV envB mkT 60 72 pa13.args .nil 0) = true := by kernel_rfl
def pa14 : Laid :=
 ⟨[.string ⟨⟨105::110::115::101::114::116::32::105::110::116::111::32::116::32::118::97::108::117::101::115::40::50::44::32::39::98::39::44::32::50::41::[]⟩⟩], .tuple ⟨[.agg ⟨[.int .i64 5, .string ⟨⟨116::[]⟩⟩, .string ⟨⟨[]⟩⟩, .slice none 0 0, .slice none 0 0, .slice (some ⟨0, 0, some 0⟩) 3 0, .slice none 0 0, .string ⟨⟨[]⟩⟩, .slice none 0 0, .slice none 0 0, .slice none 0 0, .bool false, .slice none 0 0]⟩, .int .i64 0, .int .i64 0]⟩, [.grown 216 7 [.int .i64 1, .int .i64 1, .int .i64 2, .string ⟨⟨[]⟩⟩, .string ⟨⟨[]⟩⟩, .string ⟨⟨[]⟩⟩, .slice none 0 0, .int .i64 1, .int .i64 2, .int .i64 0, .string ⟨⟨98::[]⟩⟩, .string ⟨⟨[]⟩⟩, .string ⟨⟨[]⟩⟩, .slice none 0 0, .int .i64 1, .int .i64 1, .int .i64 2, .string ⟨⟨[]⟩⟩, .string ⟨⟨[]⟩⟩, .string ⟨⟨[]⟩⟩, .slice none 0 0]], [195]⟩
set_option maxHeartbeats 0 in
theorem pa14_ok : laidOk pa14 (runV envB mkT 60 72 pa14.args .nil 0) = true := by kernel_rfl
def paT : List Laid := pa0 :: pa1 :: pa2 :: pa3 :: pa4 :: pa5 :: pa6 :: pa7 :: pa8 :: pa9 :: pa10 :: pa11 :: pa12 :: pa13 :: pa14 :: []
theorem paT_ok : ∀ x ∈ paT, laidOk x (run envB 60 72 x.args .nil 0) = true := by
 have H : ∀ x : Laid, laidOk x (runV envB mkT 60 72 x.args .nil 0) = true → laidOk x (run envB 60 72 x.args .nil 0) = true := fun x h => laid_le (runV_le (E := envB) stT 60 72 _ .nil 0) h
 intro x hx
 unfold paT at hx
 rcases List.mem_cons.1 hx with rfl | hx
 ·exact H _ pa0_ok
 rcases List.mem_cons.1 hx with rfl | hx
 ·exact H _ pa1_ok
 rcases List.mem_cons.1 hx with rfl | hx
 ·exact H _ pa2_ok
 rcases List.mem_cons.1 hx with rfl | hx
 ·exact H _ pa3_ok
 rcases List.mem_cons.1 hx with rfl | hx
 ·exact H _ pa4_ok
 rcases List.mem_cons.1 hx with rfl | hx
 ·exact H _ pa5_ok
 rcases List.mem_cons.1 hx with rfl | hx
 ·exact H _ pa6_ok
 rcases List.mem_cons.1 hx with rfl | hx
 ·exact H _ pa7_ok
 rcases List.mem_cons.1 hx with rfl | hx
 ·exact H _ pa8_ok
 rcases List.mem_cons.1 hx with rfl | hx
 ·exact H _ pa9_ok
 rcases List.mem_cons.1 hx with rfl | hx
 ·exact H _ pa10_ok
 rcases List.mem_cons.1 hx with rfl | hx
 ·exact H _ pa11_ok
 rcases List.mem_cons.1 hx with rfl | hx
 ·exact H _ pa12_ok
 rcases List.mem_cons.1 hx with rfl | hx
 ·exact H _ pa13_ok
 rcases List.mem_cons.1 hx with rfl | hx
 ·exact H _ pa14_ok
 cases hx
end
end Go.Z
end
