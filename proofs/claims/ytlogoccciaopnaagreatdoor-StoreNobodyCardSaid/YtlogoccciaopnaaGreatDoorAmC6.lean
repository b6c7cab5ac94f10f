/- Frames; the journals that are scanned. Printed by mkSt.py. -/
import Derived.Test.YtlogoccciaopnaaGreatDoorAmC5
import Derived.Test.YtlogoccciaopnaaGreatDoorAmC3
namespace Am
open Go Go.Proofs
set_option maxRecDepth 1000000
set_option maxHeartbeats 0

noncomputable def cons142 : List (Nat × Con UU) := [(73, con73)]
theorem cons142_ok : ConsOK Tryz.prog cons142 := ⟨con73_ok, trivial⟩
noncomputable def con142 : Con UU := conRunT (E cons142 []) 500 142 false false
theorem con142_ok : ConOK Tryz.prog 142 con142 := conRT cons142_ok (fn := Tryz.f142) ⟨Tryz.func142, name142⟩ (by kernel_rfl) (by kernel_rfl) 500 false false
noncomputable def cons46 : List (Nat × Con UU) := [(73, con73)]
theorem cons46_ok : ConsOK Tryz.prog cons46 := ⟨con73_ok, trivial⟩
noncomputable def con46 : Con UU := conRunT (E cons46 []) 500 46 false false
theorem con46_ok : ConOK Tryz.prog 46 con46 := conRT cons46_ok (fn := Tryz.f46) ⟨Tryz.func46, name46⟩ (by kernel_rfl) (by kernel_rfl) 500 false false
noncomputable def cons79 : List (Nat × Con UU) := [(142, con142)]
theorem cons79_ok : ConsOK Tryz.prog cons79 := ⟨con142_ok, trivial⟩
def s79_0 : List UInt8 := [73, 69, 74, 49, 1, 1, 40, 19, 197, 47]
noncomputable def v79_0 : AV UU := .tup [.int .i64 1, .nilsl, .int .i64 10, .int .i64 0]
theorem run79_0 : runT (E cons79 []) 500 79 [.str s79_0] [] (finT false) = some v79_0 := by kernel_rfl
def s79_1 : List UInt8 := []
noncomputable def v79_1 : AV UU := .tup [.int .i64 0, .nilsl, .int .i64 0, .int .i64 4]
theorem run79_1 : runT (E cons79 []) 500 79 [.str s79_1] [] (finT false) = some v79_1 := by kernel_rfl
def s79_2 : List UInt8 := [73, 69, 74, 49, 1, 1, 40, 19, 197, 47, 21, 1, 1, 18, 73, 69, 68, 49, 9, 4, 2, 2, 2, 0, 0, 0, 0, 0, 239, 165, 1, 218, 40, 14, 150, 67]
noncomputable def v79_2 : AV UU := .tup [.int .i64 1, .fsl Ty.record [UU.untup Ty.record (((1) : Int), ((1) : Int), ([73, 69, 68, 49, 9, 4, 2, 2, 2, 0, 0, 0, 0, 0, 239, 165, 1, 218] : List UInt8), ())], .int .i64 36, .int .i64 0]
theorem run79_2 : runT (E cons79 []) 500 79 [.str s79_2] [] (finT false) = some v79_2 := by kernel_rfl
def s79_3 : List UInt8 := [73, 69, 74, 49, 1, 1, 40, 19, 197, 47, 21, 1, 1, 18, 73, 69, 68, 49, 9, 4, 2, 2, 2, 0, 0, 0, 0, 0, 239, 165, 1, 218, 40, 14, 150, 67, 96]
noncomputable def v79_3 : AV UU := .tup [.int .i64 1, .fsl Ty.record [UU.untup Ty.record (((1) : Int), ((1) : Int), ([73, 69, 68, 49, 9, 4, 2, 2, 2, 0, 0, 0, 0, 0, 239, 165, 1, 218] : List UInt8), ())], .int .i64 36, .int .i64 5]
theorem run79_3 : runT (E cons79 []) 500 79 [.str s79_3] [] (finT false) = some v79_3 := by kernel_rfl
def s79_4 : List UInt8 := [73, 69, 74, 49, 1, 2, 146, 66, 204, 182]
noncomputable def v79_4 : AV UU := .tup [.int .i64 2, .nilsl, .int .i64 10, .int .i64 0]
theorem run79_4 : runT (E cons79 []) 500 79 [.str s79_4] [] (finT false) = some v79_4 := by kernel_rfl
def s79_5 : List UInt8 := [73, 69, 74, 49, 1, 1, 40, 19, 197, 47, 21, 1, 1, 18, 73, 69, 68, 49, 9, 4, 2, 2, 2, 0, 0, 0, 0, 0, 239, 165, 1, 218, 40, 14, 150, 67, 96, 2, 2, 93, 88, 36, 0, 0, 0, 0, 0, 3, 107, 101, 121, 5, 118, 97, 108, 117, 101, 0, 0, 0, 0, 0, 0, 0, 0, 0, 0, 0, 0, 0, 0, 0, 0, 0, 0, 0, 0, 0, 0, 0, 0, 0, 0, 0, 0, 0, 0, 0, 0, 0, 0, 0, 0, 0, 0, 0, 0, 0, 0, 0, 0, 0, 0, 0, 0, 0, 0, 0, 0, 0, 0, 0, 0, 0, 0, 0, 0, 0, 0, 0, 0, 0, 0, 0, 0, 0, 0, 0, 0, 252, 115, 12, 188, 220, 189, 238, 31]
noncomputable def v79_5 : AV UU := .tup [.int .i64 1, .fsl Ty.record [UU.untup Ty.record (((1) : Int), ((1) : Int), ([73, 69, 68, 49, 9, 4, 2, 2, 2, 0, 0, 0, 0, 0, 239, 165, 1, 218] : List UInt8), ()), UU.untup Ty.record (((2) : Int), ((2) : Int), ([88, 36, 0, 0, 0, 0, 0, 3, 107, 101, 121, 5, 118, 97, 108, 117, 101, 0, 0, 0, 0, 0, 0, 0, 0, 0, 0, 0, 0, 0, 0, 0, 0, 0, 0, 0, 0, 0, 0, 0, 0, 0, 0, 0, 0, 0, 0, 0, 0, 0, 0, 0, 0, 0, 0, 0, 0, 0, 0, 0, 0, 0, 0, 0, 0, 0, 0, 0, 0, 0, 0, 0, 0, 0, 0, 0, 0, 0, 0, 0, 0, 0, 0, 0, 0, 0, 0, 0, 0, 252, 115, 12, 188] : List UInt8), ())], .int .i64 137, .int .i64 0]
theorem run79_5 : runT (E cons79 []) 500 79 [.str s79_5] [] (finT false) = some v79_5 := by kernel_rfl
def s79_6 : List UInt8 := [73, 69, 74]
noncomputable def v79_6 : AV UU := .tup [.int .i64 0, .nilsl, .int .i64 0, .int .i64 4]
theorem run79_6 : runT (E cons79 []) 500 79 [.str s79_6] [] (finT false) = some v79_6 := by kernel_rfl
def s79_7 : List UInt8 := [73, 69, 74, 49, 1, 2, 146, 66, 204, 182, 31, 1, 1, 28, 73, 69, 68, 49, 19, 4, 2, 2, 2, 0, 0, 0, 1, 3, 107, 101, 121, 5, 118, 97, 108, 117, 101, 0, 122, 215, 96, 97, 243, 168, 93, 255]
noncomputable def v79_7 : AV UU := .tup [.int .i64 2, .fsl Ty.record [UU.untup Ty.record (((1) : Int), ((1) : Int), ([73, 69, 68, 49, 19, 4, 2, 2, 2, 0, 0, 0, 1, 3, 107, 101, 121, 5, 118, 97, 108, 117, 101, 0, 122, 215, 96, 97] : List UInt8), ())], .int .i64 46, .int .i64 0]
theorem run79_7 : runT (E cons79 []) 500 79 [.str s79_7] [] (finT false) = some v79_7 := by kernel_rfl
noncomputable def tab79 : List (List UInt8 × AV UU) := [(s79_0, v79_0), (s79_1, v79_1), (s79_2, v79_2), (s79_3, v79_3), (s79_4, v79_4), (s79_5, v79_5), (s79_6, v79_6), (s79_7, v79_7)]
noncomputable def con79 : Con UU := conTab tab79 false
theorem con79_ok : ConOK Tryz.prog 79 con79 := conTb cons79_ok (fn := Tryz.f79) ⟨Tryz.func79, name79⟩ (by kernel_rfl) (by kernel_rfl) (List.forall_mem_cons.2 ⟨run79_0, List.forall_mem_cons.2 ⟨run79_1, List.forall_mem_cons.2 ⟨run79_2, List.forall_mem_cons.2 ⟨run79_3, List.forall_mem_cons.2 ⟨run79_4, List.forall_mem_cons.2 ⟨run79_5, List.forall_mem_cons.2 ⟨run79_6, List.forall_mem_cons.2 ⟨run79_7, List.forall_mem_nil _⟩⟩⟩⟩⟩⟩⟩⟩)
end Am
