/- The checksums. Printed by mkSt.py. -/
import Derived.Test.YtlogoccciaopnaaGreatDoorAmC4
namespace Am
open Go Go.Proofs
set_option maxRecDepth 1000000
set_option maxHeartbeats 0

noncomputable def cons73 : List (Nat × Con UU) := [(120, con120)]
theorem cons73_ok : ConsOK Tryz.prog cons73 := ⟨con120_ok, trivial⟩
def s73_0 : List UInt8 := [9, 4, 2, 2, 2, 0, 0, 0, 0, 0]
noncomputable def v73_0 : AV UU := .int .u32 3657541103
theorem run73_0 : runT (E cons73 []) 500 73 [.str s73_0] [] (finT true) = some v73_0 := by kernel_rfl
def s73_1 : List UInt8 := [1, 1]
noncomputable def v73_1 : AV UU := .int .u32 801444648
theorem run73_1 : runT (E cons73 []) 500 73 [.str s73_1] [] (finT true) = some v73_1 := by kernel_rfl
def s73_2 : List UInt8 := [21, 1, 1, 18, 73, 69, 68, 49, 9, 4, 2, 2, 2, 0, 0, 0, 0, 0, 239, 165, 1, 218]
noncomputable def v73_2 : AV UU := .int .u32 1133907496
theorem run73_2 : runT (E cons73 []) 500 73 [.str s73_2] [] (finT true) = some v73_2 := by kernel_rfl
def s73_3 : List UInt8 := [88, 36, 0, 0, 0, 0, 0, 3, 107, 101, 121, 5, 118, 97, 108, 117, 101, 0, 0, 0, 0, 0, 0, 0, 0, 0, 0, 0, 0, 0, 0, 0, 0, 0, 0, 0, 0, 0, 0, 0, 0, 0, 0, 0, 0, 0, 0, 0, 0, 0, 0, 0, 0, 0, 0, 0, 0, 0, 0, 0, 0, 0, 0, 0, 0, 0, 0, 0, 0, 0, 0, 0, 0, 0, 0, 0, 0, 0, 0, 0, 0, 0, 0, 0, 0, 0, 0, 0, 0]
noncomputable def v73_3 : AV UU := .int .u32 3154932732
theorem run73_3 : runT (E cons73 []) 500 73 [.str s73_3] [] (finT true) = some v73_3 := by kernel_rfl
def s73_4 : List UInt8 := [96, 2, 2, 93, 88, 36, 0, 0, 0, 0, 0, 3, 107, 101, 121, 5, 118, 97, 108, 117, 101, 0, 0, 0, 0, 0, 0, 0, 0, 0, 0, 0, 0, 0, 0, 0, 0, 0, 0, 0, 0, 0, 0, 0, 0, 0, 0, 0, 0, 0, 0, 0, 0, 0, 0, 0, 0, 0, 0, 0, 0, 0, 0, 0, 0, 0, 0, 0, 0, 0, 0, 0, 0, 0, 0, 0, 0, 0, 0, 0, 0, 0, 0, 0, 0, 0, 0, 0, 0, 0, 0, 0, 0, 252, 115, 12, 188]
noncomputable def v73_4 : AV UU := .int .u32 535739868
theorem run73_4 : runT (E cons73 []) 500 73 [.str s73_4] [] (finT true) = some v73_4 := by kernel_rfl
def s73_5 : List UInt8 := [19, 4, 2, 2, 2, 0, 0, 0, 1, 3, 107, 101, 121, 5, 118, 97, 108, 117, 101, 0]
noncomputable def v73_5 : AV UU := .int .u32 1633736570
theorem run73_5 : runT (E cons73 []) 500 73 [.str s73_5] [] (finT true) = some v73_5 := by kernel_rfl
def s73_6 : List UInt8 := [1, 2]
noncomputable def v73_6 : AV UU := .int .u32 3066839698
theorem run73_6 : runT (E cons73 []) 500 73 [.str s73_6] [] (finT true) = some v73_6 := by kernel_rfl
def s73_7 : List UInt8 := [31, 1, 1, 28, 73, 69, 68, 49, 19, 4, 2, 2, 2, 0, 0, 0, 1, 3, 107, 101, 121, 5, 118, 97, 108, 117, 101, 0, 122, 215, 96, 97]
noncomputable def v73_7 : AV UU := .int .u32 4284328179
theorem run73_7 : runT (E cons73 []) 500 73 [.str s73_7] [] (finT true) = some v73_7 := by kernel_rfl
noncomputable def tab73 : List (List UInt8 × AV UU) := [(s73_0, v73_0), (s73_1, v73_1), (s73_2, v73_2), (s73_3, v73_3), (s73_4, v73_4), (s73_5, v73_5), (s73_6, v73_6), (s73_7, v73_7)]
noncomputable def con73 : Con UU := conTab tab73 true
theorem con73_ok : ConOK Tryz.prog 73 con73 := conTb cons73_ok (fn := Tryz.f73) ⟨Tryz.func73, name73⟩ (by kernel_rfl) (by kernel_rfl) (List.forall_mem_cons.2 ⟨run73_0, List.forall_mem_cons.2 ⟨run73_1, List.forall_mem_cons.2 ⟨run73_2, List.forall_mem_cons.2 ⟨run73_3, List.forall_mem_cons.2 ⟨run73_4, List.forall_mem_cons.2 ⟨run73_5, List.forall_mem_cons.2 ⟨run73_6, List.forall_mem_cons.2 ⟨run73_7, List.forall_mem_nil _⟩⟩⟩⟩⟩⟩⟩⟩)
end Am
