/- The rest. Printed by mkSt.py. -/
import Derived.Test.YtlogoccciaopnaaGreatDoorAmC7
namespace Am
open Go Go.Proofs
set_option maxRecDepth 1000000
set_option maxHeartbeats 0

noncomputable def cons54 : List (Nat × Con UU) := [(56, con56), (46, con46), (76, con76), (77, con77)]
theorem cons54_ok : ConsOK Tryz.prog cons54 := ⟨con56_ok, con46_ok, con76_ok, con77_ok, trivial⟩
noncomputable def a54_0 : List (AV UU) := [.agg [.int .i64 2, .int .i64 1, .int .i64 1, .nilsl, .int .i64 1, .int .i64 0, .int .i64 0, .nilsl, .nilsl, .nilsl]]
noncomputable def v54_0 : AV UU := .tup [.str [73, 69, 68, 49, 9, 4, 2, 2, 2, 0, 0, 0, 0, 0, 239, 165, 1, 218], .int .i64 0]
theorem run54_0 : runT (E cons54 []) 500 54 a54_0 [] (finT false) = some v54_0 := by kernel_rfl
noncomputable def a54_1 : List (AV UU) := [.agg [.int .i64 2, .int .i64 1, .int .i64 1, .fsl Ty.node [], .int .i64 1, .int .i64 0, .int .i64 0, .fsl Ty.int [], .fsl Ty.meta_ [UU.untup Ty.meta_ (([107, 101, 121] : List UInt8), ([118, 97, 108, 117, 101] : List UInt8), ())], .fsl Ty.link []]]
noncomputable def v54_1 : AV UU := .tup [.str [73, 69, 68, 49, 19, 4, 2, 2, 2, 0, 0, 0, 1, 3, 107, 101, 121, 5, 118, 97, 108, 117, 101, 0, 122, 215, 96, 97], .int .i64 0]
theorem run54_1 : runT (E cons54 []) 500 54 a54_1 [] (finT false) = some v54_1 := by kernel_rfl
noncomputable def tab54 : List (List (AV UU) × AV UU) := [(a54_0, v54_0), (a54_1, v54_1)]
noncomputable def con54 : Con UU := conTabA tab54 false
theorem con54_ok : ConOK Tryz.prog 54 con54 := conTbA cons54_ok (fn := Tryz.f54) ⟨Tryz.func54, name54⟩ (by kernel_rfl) (by kernel_rfl) (List.forall_mem_cons.2 ⟨run54_0, List.forall_mem_cons.2 ⟨run54_1, List.forall_mem_nil _⟩⟩)
noncomputable def cons42 : List (Nat × Con UU) := [(56, con56), (86, con86)]
theorem cons42_ok : ConsOK Tryz.prog cons42 := ⟨con56_ok, con86_ok, trivial⟩
noncomputable def a42_0 : List (AV UU) := [.agg [.int .i64 2, .int .i64 1, .int .i64 1, .fsl Ty.node [], .int .i64 1, .int .i64 0, .int .i64 0, .fsl Ty.int [], .fsl Ty.meta_ [], .fsl Ty.link []], .agg [.int .i64 18, .int .i64 0, .int .i64 0, .int .i64 0, .int .i64 0, .int .i64 0, .str [107, 101, 121], .str [118, 97, 108, 117, 101], .int .i64 0, .int .i64 0, .int .i64 0, .str [], .bool false, .bool false, .bool false, .int .i64 0, .int .i64 0, .int .i64 0, .int .i64 0, .nilsl, .int .i64 0, .int .i64 0, .int .i64 0, .int .i64 0, .int .i64 0, .int .i64 0, .int .i64 0, .int .i64 0, .int .i64 0, .nilsl, .int .i64 0, .int .i64 0, .int .i64 0, .int .i64 0, .int .i64 0, .nilsl, .int .i64 0, .nilsl, .nilsl, .int .i64 0, .int .i64 0, .int .i64 0, .int .i64 0, .str [], .int .i64 0, .int .i64 0, .int .i64 0, .int .i64 0, .int .i64 0, .int .i64 0, .nilsl, .int .i64 0, .int .i64 0, .nilsl, .int .i64 0, .int .i64 0, .nilsl, .int .i64 0, .int .i64 0, .int .i64 0, .int .i64 0, .int .i64 0, .int .i64 0, .int .i64 0, .int .i64 0, .int .i64 0, .int .i64 0, .int .i64 0, .int .i64 0, .int .i64 0, .int .i64 0, .nilsl, .bool false, .nilsl, .int .i64 0, .int .i64 0, .int .i64 0, .int .i64 0, .int .i64 0, .int .i64 0, .int .i64 0, .int .i64 0, .int .i64 0, .int .i64 0]]
noncomputable def v42_0 : AV UU := .tup [.agg [.int .i64 2, .int .i64 1, .int .i64 1, .fsl Ty.node [], .int .i64 1, .int .i64 0, .int .i64 0, .fsl Ty.int [], .fsl Ty.meta_ [UU.untup Ty.meta_ (([107, 101, 121] : List UInt8), ([118, 97, 108, 117, 101] : List UInt8), ())], .fsl Ty.link []], .int .i64 0]
theorem run42_0 : runT (E cons42 []) 500 42 a42_0 [] (finT false) = some v42_0 := by kernel_rfl
noncomputable def tab42 : List (List (AV UU) × AV UU) := [(a42_0, v42_0)]
noncomputable def con42 : Con UU := conTabA tab42 false
theorem con42_ok : ConOK Tryz.prog 42 con42 := conTbA cons42_ok (fn := Tryz.f42) ⟨Tryz.func42, name42⟩ (by kernel_rfl) (by kernel_rfl) (List.forall_mem_cons.2 ⟨run42_0, List.forall_mem_nil _⟩)
noncomputable def cons53 : List (Nat × Con UU) := [(85, con85), (86, con86), (87, con87), (88, con88), (89, con89), (90, con90), (91, con91), (92, con92)]
theorem cons53_ok : ConsOK Tryz.prog cons53 := ⟨con85_ok, con86_ok, con87_ok, con88_ok, con89_ok, con90_ok, con91_ok, con92_ok, trivial⟩
noncomputable def a53_0 : List (AV UU) := [.agg [.int .i64 2, .int .i64 1, .int .i64 1, .nilsl, .int .i64 1, .int .i64 0, .int .i64 0, .nilsl, .nilsl, .nilsl]]
noncomputable def v53_0 : AV UU := .agg [.int .i64 2, .int .i64 1, .int .i64 1, .fsl Ty.node [], .int .i64 1, .int .i64 0, .int .i64 0, .fsl Ty.int [], .fsl Ty.meta_ [], .fsl Ty.link []]
theorem run53_0 : runT (E cons53 []) 500 53 a53_0 [] (finT false) = some v53_0 := by kernel_rfl
noncomputable def a53_1 : List (AV UU) := [.agg [.int .i64 2, .int .i64 1, .int .i64 1, .fsl Ty.node [], .int .i64 1, .int .i64 0, .int .i64 0, .fsl Ty.int [], .fsl Ty.meta_ [], .fsl Ty.link []]]
noncomputable def v53_1 : AV UU := .agg [.int .i64 2, .int .i64 1, .int .i64 1, .fsl Ty.node [], .int .i64 1, .int .i64 0, .int .i64 0, .fsl Ty.int [], .fsl Ty.meta_ [], .fsl Ty.link []]
theorem run53_1 : runT (E cons53 []) 500 53 a53_1 [] (finT false) = some v53_1 := by kernel_rfl
noncomputable def a53_2 : List (AV UU) := [.agg [.int .i64 2, .int .i64 1, .int .i64 1, .fsl Ty.node [], .int .i64 1, .int .i64 0, .int .i64 0, .fsl Ty.int [], .fsl Ty.meta_ [UU.untup Ty.meta_ (([107, 101, 121] : List UInt8), ([118, 97, 108, 117, 101] : List UInt8), ())], .fsl Ty.link []]]
noncomputable def v53_2 : AV UU := .agg [.int .i64 2, .int .i64 1, .int .i64 1, .fsl Ty.node [], .int .i64 1, .int .i64 0, .int .i64 0, .fsl Ty.int [], .fsl Ty.meta_ [UU.untup Ty.meta_ (([107, 101, 121] : List UInt8), ([118, 97, 108, 117, 101] : List UInt8), ())], .fsl Ty.link []]
theorem run53_2 : runT (E cons53 []) 500 53 a53_2 [] (finT false) = some v53_2 := by kernel_rfl
noncomputable def a53_3 : List (AV UU) := [.agg [.int .i64 2, .int .i64 1, .int .i64 1, .nilsl, .int .i64 1, .int .i64 0, .int .i64 0, .nilsl, .fsl Ty.meta_ [UU.untup Ty.meta_ (([107, 101, 121] : List UInt8), ([118, 97, 108, 117, 101] : List UInt8), ())], .nilsl]]
noncomputable def v53_3 : AV UU := .agg [.int .i64 2, .int .i64 1, .int .i64 1, .fsl Ty.node [], .int .i64 1, .int .i64 0, .int .i64 0, .fsl Ty.int [], .fsl Ty.meta_ [UU.untup Ty.meta_ (([107, 101, 121] : List UInt8), ([118, 97, 108, 117, 101] : List UInt8), ())], .fsl Ty.link []]
theorem run53_3 : runT (E cons53 []) 500 53 a53_3 [] (finT false) = some v53_3 := by kernel_rfl
noncomputable def tab53 : List (List (AV UU) × AV UU) := [(a53_0, v53_0), (a53_1, v53_1), (a53_2, v53_2), (a53_3, v53_3)]
noncomputable def con53 : Con UU := conTabA tab53 false
theorem con53_ok : ConOK Tryz.prog 53 con53 := conTbA cons53_ok (fn := Tryz.f53) ⟨Tryz.func53, name53⟩ (by kernel_rfl) (by kernel_rfl) (List.forall_mem_cons.2 ⟨run53_0, List.forall_mem_cons.2 ⟨run53_1, List.forall_mem_cons.2 ⟨run53_2, List.forall_mem_cons.2 ⟨run53_3, List.forall_mem_nil _⟩⟩⟩⟩)
noncomputable def cons48 : List (Nat × Con UU) := [(79, con79), (46, con46)]
theorem cons48_ok : ConsOK Tryz.prog cons48 := ⟨con79_ok, con46_ok, trivial⟩
noncomputable def a48_0 : List (AV UU) := [.str [73, 69, 74, 49, 1, 1, 40, 19, 197, 47], .agg [.int .i64 1, .int .i64 1, .str [73, 69, 68, 49, 9, 4, 2, 2, 2, 0, 0, 0, 0, 0, 239, 165, 1, 218]]]
noncomputable def v48_0 : AV UU := .tup [.str [73, 69, 74, 49, 1, 1, 40, 19, 197, 47, 21, 1, 1, 18, 73, 69, 68, 49, 9, 4, 2, 2, 2, 0, 0, 0, 0, 0, 239, 165, 1, 218, 40, 14, 150, 67], .int .i64 0]
theorem run48_0 : runT (E cons48 []) 500 48 a48_0 [] (finT false) = some v48_0 := by kernel_rfl
noncomputable def a48_1 : List (AV UU) := [.str [73, 69, 74, 49, 1, 1, 40, 19, 197, 47, 21, 1, 1, 18, 73, 69, 68, 49, 9, 4, 2, 2, 2, 0, 0, 0, 0, 0, 239, 165, 1, 218, 40, 14, 150, 67], .agg [.int .i64 2, .int .i64 2, .str [88, 36, 0, 0, 0, 0, 0, 3, 107, 101, 121, 5, 118, 97, 108, 117, 101, 0, 0, 0, 0, 0, 0, 0, 0, 0, 0, 0, 0, 0, 0, 0, 0, 0, 0, 0, 0, 0, 0, 0, 0, 0, 0, 0, 0, 0, 0, 0, 0, 0, 0, 0, 0, 0, 0, 0, 0, 0, 0, 0, 0, 0, 0, 0, 0, 0, 0, 0, 0, 0, 0, 0, 0, 0, 0, 0, 0, 0, 0, 0, 0, 0, 0, 0, 0, 0, 0, 0, 0, 252, 115, 12, 188]]]
noncomputable def v48_1 : AV UU := .tup [.str [73, 69, 74, 49, 1, 1, 40, 19, 197, 47, 21, 1, 1, 18, 73, 69, 68, 49, 9, 4, 2, 2, 2, 0, 0, 0, 0, 0, 239, 165, 1, 218, 40, 14, 150, 67, 96, 2, 2, 93, 88, 36, 0, 0, 0, 0, 0, 3, 107, 101, 121, 5, 118, 97, 108, 117, 101, 0, 0, 0, 0, 0, 0, 0, 0, 0, 0, 0, 0, 0, 0, 0, 0, 0, 0, 0, 0, 0, 0, 0, 0, 0, 0, 0, 0, 0, 0, 0, 0, 0, 0, 0, 0, 0, 0, 0, 0, 0, 0, 0, 0, 0, 0, 0, 0, 0, 0, 0, 0, 0, 0, 0, 0, 0, 0, 0, 0, 0, 0, 0, 0, 0, 0, 0, 0, 0, 0, 0, 0, 252, 115, 12, 188, 220, 189, 238, 31], .int .i64 0]
theorem run48_1 : runT (E cons48 []) 500 48 a48_1 [] (finT false) = some v48_1 := by kernel_rfl
noncomputable def a48_2 : List (AV UU) := [.str [73, 69, 74, 49, 1, 2, 146, 66, 204, 182], .agg [.int .i64 1, .int .i64 1, .str [73, 69, 68, 49, 19, 4, 2, 2, 2, 0, 0, 0, 1, 3, 107, 101, 121, 5, 118, 97, 108, 117, 101, 0, 122, 215, 96, 97]]]
noncomputable def v48_2 : AV UU := .tup [.str [73, 69, 74, 49, 1, 2, 146, 66, 204, 182, 31, 1, 1, 28, 73, 69, 68, 49, 19, 4, 2, 2, 2, 0, 0, 0, 1, 3, 107, 101, 121, 5, 118, 97, 108, 117, 101, 0, 122, 215, 96, 97, 243, 168, 93, 255], .int .i64 0]
theorem run48_2 : runT (E cons48 []) 500 48 a48_2 [] (finT false) = some v48_2 := by kernel_rfl
noncomputable def tab48 : List (List (AV UU) × AV UU) := [(a48_0, v48_0), (a48_1, v48_1), (a48_2, v48_2)]
noncomputable def con48 : Con UU := conTabA tab48 false
theorem con48_ok : ConOK Tryz.prog 48 con48 := conTbA cons48_ok (fn := Tryz.f48) ⟨Tryz.func48, name48⟩ (by kernel_rfl) (by kernel_rfl) (List.forall_mem_cons.2 ⟨run48_0, List.forall_mem_cons.2 ⟨run48_1, List.forall_mem_cons.2 ⟨run48_2, List.forall_mem_nil _⟩⟩⟩)
noncomputable def cons31 : List (Nat × Con UU) := [(54, con54), (48, con48), (46, con46)]
theorem cons31_ok : ConsOK Tryz.prog cons31 := ⟨con54_ok, con48_ok, con46_ok, trivial⟩
noncomputable def a31_0 : List (AV UU) := [.agg [.int .i64 2, .int .i64 1, .int .i64 1, .nilsl, .int .i64 1, .int .i64 0, .int .i64 0, .nilsl, .nilsl, .nilsl], .int .i64 1]
noncomputable def v31_0 : AV UU := .tup [.str [73, 69, 74, 49, 1, 1, 40, 19, 197, 47, 21, 1, 1, 18, 73, 69, 68, 49, 9, 4, 2, 2, 2, 0, 0, 0, 0, 0, 239, 165, 1, 218, 40, 14, 150, 67], .int .i64 0]
theorem run31_0 : runT (E cons31 []) 500 31 a31_0 [] (finT false) = some v31_0 := by kernel_rfl
noncomputable def a31_1 : List (AV UU) := [.agg [.int .i64 2, .int .i64 1, .int .i64 1, .fsl Ty.node [], .int .i64 1, .int .i64 0, .int .i64 0, .fsl Ty.int [], .fsl Ty.meta_ [UU.untup Ty.meta_ (([107, 101, 121] : List UInt8), ([118, 97, 108, 117, 101] : List UInt8), ())], .fsl Ty.link []], .int .i64 2]
noncomputable def v31_1 : AV UU := .tup [.str [73, 69, 74, 49, 1, 2, 146, 66, 204, 182, 31, 1, 1, 28, 73, 69, 68, 49, 19, 4, 2, 2, 2, 0, 0, 0, 1, 3, 107, 101, 121, 5, 118, 97, 108, 117, 101, 0, 122, 215, 96, 97, 243, 168, 93, 255], .int .i64 0]
theorem run31_1 : runT (E cons31 []) 500 31 a31_1 [] (finT false) = some v31_1 := by kernel_rfl
noncomputable def tab31 : List (List (AV UU) × AV UU) := [(a31_0, v31_0), (a31_1, v31_1)]
noncomputable def con31 : Con UU := conTabA tab31 false
theorem con31_ok : ConOK Tryz.prog 31 con31 := conTbA cons31_ok (fn := Tryz.f31) ⟨Tryz.func31, name31⟩ (by kernel_rfl) (by kernel_rfl) (List.forall_mem_cons.2 ⟨run31_0, List.forall_mem_cons.2 ⟨run31_1, List.forall_mem_nil _⟩⟩)
noncomputable def cons63 : List (Nat × Con UU) := [(79, con79), (105, con105)]
theorem cons63_ok : ConsOK Tryz.prog cons63 := ⟨con79_ok, con105_ok, trivial⟩
noncomputable def a63_0 : List (AV UU) := [.str []]
noncomputable def v63_0 : AV UU := .tup [.agg [.int .i64 0, .int .i64 0, .int .i64 0, .int .i64 0, .nilsl, .int .i64 0, .int .i64 0, .int .i64 0, .nilsl, .nilsl, .nilsl, .nilsl], .bool false]
theorem run63_0 : runT (E cons63 []) 500 63 a63_0 [] (finT false) = some v63_0 := by kernel_rfl
noncomputable def a63_1 : List (AV UU) := [.str [73, 69, 74, 49, 1, 1, 40, 19, 197, 47, 21, 1, 1, 18, 73, 69, 68, 49, 9, 4, 2, 2, 2, 0, 0, 0, 0, 0, 239, 165, 1, 218, 40, 14, 150, 67, 96]]
noncomputable def v63_1 : AV UU := .tup [.agg [.int .i64 1, .int .i64 2, .int .i64 1, .int .i64 1, .nilsl, .int .i64 1, .int .i64 0, .int .i64 0, .nilsl, .nilsl, .nilsl, .fsl Ty.record [UU.untup Ty.record (((1) : Int), ((1) : Int), ([73, 69, 68, 49, 9, 4, 2, 2, 2, 0, 0, 0, 0, 0, 239, 165, 1, 218] : List UInt8), ())]], .bool true]
theorem run63_1 : runT (E cons63 []) 500 63 a63_1 [] (finT false) = some v63_1 := by kernel_rfl
noncomputable def a63_2 : List (AV UU) := [.str [73, 69, 74, 49, 1, 1, 40, 19, 197, 47, 21, 1, 1, 18, 73, 69, 68, 49, 9, 4, 2, 2, 2, 0, 0, 0, 0, 0, 239, 165, 1, 218, 40, 14, 150, 67, 96, 2, 2, 93, 88, 36, 0, 0, 0, 0, 0, 3, 107, 101, 121, 5, 118, 97, 108, 117, 101, 0, 0, 0, 0, 0, 0, 0, 0, 0, 0, 0, 0, 0, 0, 0, 0, 0, 0, 0, 0, 0, 0, 0, 0, 0, 0, 0, 0, 0, 0, 0, 0, 0, 0, 0, 0, 0, 0, 0, 0, 0, 0, 0, 0, 0, 0, 0, 0, 0, 0, 0, 0, 0, 0, 0, 0, 0, 0, 0, 0, 0, 0, 0, 0, 0, 0, 0, 0, 0, 0, 0, 0, 252, 115, 12, 188, 220, 189, 238, 31]]
noncomputable def v63_2 : AV UU := .tup [.agg [.int .i64 1, .int .i64 2, .int .i64 1, .int .i64 1, .nilsl, .int .i64 1, .int .i64 0, .int .i64 0, .nilsl, .nilsl, .nilsl, .fsl Ty.record [UU.untup Ty.record (((1) : Int), ((1) : Int), ([73, 69, 68, 49, 9, 4, 2, 2, 2, 0, 0, 0, 0, 0, 239, 165, 1, 218] : List UInt8), ()), UU.untup Ty.record (((2) : Int), ((2) : Int), ([88, 36, 0, 0, 0, 0, 0, 3, 107, 101, 121, 5, 118, 97, 108, 117, 101, 0, 0, 0, 0, 0, 0, 0, 0, 0, 0, 0, 0, 0, 0, 0, 0, 0, 0, 0, 0, 0, 0, 0, 0, 0, 0, 0, 0, 0, 0, 0, 0, 0, 0, 0, 0, 0, 0, 0, 0, 0, 0, 0, 0, 0, 0, 0, 0, 0, 0, 0, 0, 0, 0, 0, 0, 0, 0, 0, 0, 0, 0, 0, 0, 0, 0, 0, 0, 0, 0, 0, 0, 252, 115, 12, 188] : List UInt8), ())]], .bool true]
theorem run63_2 : runT (E cons63 []) 500 63 a63_2 [] (finT false) = some v63_2 := by kernel_rfl
noncomputable def a63_3 : List (AV UU) := [.str [73, 69, 74]]
noncomputable def v63_3 : AV UU := .tup [.agg [.int .i64 0, .int .i64 0, .int .i64 0, .int .i64 0, .nilsl, .int .i64 0, .int .i64 0, .int .i64 0, .nilsl, .nilsl, .nilsl, .nilsl], .bool false]
theorem run63_3 : runT (E cons63 []) 500 63 a63_3 [] (finT false) = some v63_3 := by kernel_rfl
noncomputable def a63_4 : List (AV UU) := [.str [73, 69, 74, 49, 1, 2, 146, 66, 204, 182, 31, 1, 1, 28, 73, 69, 68, 49, 19, 4, 2, 2, 2, 0, 0, 0, 1, 3, 107, 101, 121, 5, 118, 97, 108, 117, 101, 0, 122, 215, 96, 97, 243, 168, 93, 255]]
noncomputable def v63_4 : AV UU := .tup [.agg [.int .i64 2, .int .i64 2, .int .i64 1, .int .i64 1, .nilsl, .int .i64 1, .int .i64 0, .int .i64 0, .nilsl, .fsl Ty.meta_ [UU.untup Ty.meta_ (([107, 101, 121] : List UInt8), ([118, 97, 108, 117, 101] : List UInt8), ())], .nilsl, .fsl Ty.record [UU.untup Ty.record (((1) : Int), ((1) : Int), ([73, 69, 68, 49, 19, 4, 2, 2, 2, 0, 0, 0, 1, 3, 107, 101, 121, 5, 118, 97, 108, 117, 101, 0, 122, 215, 96, 97] : List UInt8), ())]], .bool true]
theorem run63_4 : runT (E cons63 []) 500 63 a63_4 [] (finT false) = some v63_4 := by kernel_rfl
noncomputable def tab63 : List (List (AV UU) × AV UU) := [(a63_0, v63_0), (a63_1, v63_1), (a63_2, v63_2), (a63_3, v63_3), (a63_4, v63_4)]
noncomputable def con63 : Con UU := conTabA tab63 false
theorem con63_ok : ConOK Tryz.prog 63 con63 := conTbA cons63_ok (fn := Tryz.f63) ⟨Tryz.func63, name63⟩ (by kernel_rfl) (by kernel_rfl) (List.forall_mem_cons.2 ⟨run63_0, List.forall_mem_cons.2 ⟨run63_1, List.forall_mem_cons.2 ⟨run63_2, List.forall_mem_cons.2 ⟨run63_3, List.forall_mem_cons.2 ⟨run63_4, List.forall_mem_nil _⟩⟩⟩⟩⟩)
noncomputable def cons65 : List (Nat × Con UU) := [(46, con46)]
theorem cons65_ok : ConsOK Tryz.prog cons65 := ⟨con46_ok, trivial⟩
noncomputable def a65_0 : List (AV UU) := [.str [73, 69, 74, 49, 1, 1, 40, 19, 197, 47, 21, 1, 1, 18, 73, 69, 68, 49, 9, 4, 2, 2, 2, 0, 0, 0, 0, 0, 239, 165, 1, 218, 40, 14, 150, 67, 96], .int .i64 1, .fsl Ty.record [UU.untup Ty.record (((1) : Int), ((1) : Int), ([73, 69, 68, 49, 9, 4, 2, 2, 2, 0, 0, 0, 0, 0, 239, 165, 1, 218] : List UInt8), ())]]
noncomputable def v65_0 : AV UU := .str [73, 69, 74, 49, 1, 1, 40, 19, 197, 47, 21, 1, 1, 18, 73, 69, 68, 49, 9, 4, 2, 2, 2, 0, 0, 0, 0, 0, 239, 165, 1, 218, 40, 14, 150, 67]
theorem run65_0 : runT (E cons65 []) 500 65 a65_0 [] (finT false) = some v65_0 := by kernel_rfl
noncomputable def a65_1 : List (AV UU) := [.str [73, 69, 74, 49, 1, 1, 40, 19, 197, 47, 21, 1, 1, 18, 73, 69, 68, 49, 9, 4, 2, 2, 2, 0, 0, 0, 0, 0, 239, 165, 1, 218, 40, 14, 150, 67, 96, 2, 2, 93, 88, 36, 0, 0, 0, 0, 0, 3, 107, 101, 121, 5, 118, 97, 108, 117, 101, 0, 0, 0, 0, 0, 0, 0, 0, 0, 0, 0, 0, 0, 0, 0, 0, 0, 0, 0, 0, 0, 0, 0, 0, 0, 0, 0, 0, 0, 0, 0, 0, 0, 0, 0, 0, 0, 0, 0, 0, 0, 0, 0, 0, 0, 0, 0, 0, 0, 0, 0, 0, 0, 0, 0, 0, 0, 0, 0, 0, 0, 0, 0, 0, 0, 0, 0, 0, 0, 0, 0, 0, 252, 115, 12, 188, 220, 189, 238, 31], .int .i64 1, .fsl Ty.record [UU.untup Ty.record (((1) : Int), ((1) : Int), ([73, 69, 68, 49, 9, 4, 2, 2, 2, 0, 0, 0, 0, 0, 239, 165, 1, 218] : List UInt8), ()), UU.untup Ty.record (((2) : Int), ((2) : Int), ([88, 36, 0, 0, 0, 0, 0, 3, 107, 101, 121, 5, 118, 97, 108, 117, 101, 0, 0, 0, 0, 0, 0, 0, 0, 0, 0, 0, 0, 0, 0, 0, 0, 0, 0, 0, 0, 0, 0, 0, 0, 0, 0, 0, 0, 0, 0, 0, 0, 0, 0, 0, 0, 0, 0, 0, 0, 0, 0, 0, 0, 0, 0, 0, 0, 0, 0, 0, 0, 0, 0, 0, 0, 0, 0, 0, 0, 0, 0, 0, 0, 0, 0, 0, 0, 0, 0, 0, 0, 252, 115, 12, 188] : List UInt8), ())]]
noncomputable def v65_1 : AV UU := .str [73, 69, 74, 49, 1, 1, 40, 19, 197, 47, 21, 1, 1, 18, 73, 69, 68, 49, 9, 4, 2, 2, 2, 0, 0, 0, 0, 0, 239, 165, 1, 218, 40, 14, 150, 67, 96, 2, 2, 93, 88, 36, 0, 0, 0, 0, 0, 3, 107, 101, 121, 5, 118, 97, 108, 117, 101, 0, 0, 0, 0, 0, 0, 0, 0, 0, 0, 0, 0, 0, 0, 0, 0, 0, 0, 0, 0, 0, 0, 0, 0, 0, 0, 0, 0, 0, 0, 0, 0, 0, 0, 0, 0, 0, 0, 0, 0, 0, 0, 0, 0, 0, 0, 0, 0, 0, 0, 0, 0, 0, 0, 0, 0, 0, 0, 0, 0, 0, 0, 0, 0, 0, 0, 0, 0, 0, 0, 0, 0, 252, 115, 12, 188, 220, 189, 238, 31]
theorem run65_1 : runT (E cons65 []) 500 65 a65_1 [] (finT false) = some v65_1 := by kernel_rfl
noncomputable def a65_2 : List (AV UU) := [.str [73, 69, 74, 49, 1, 2, 146, 66, 204, 182, 31, 1, 1, 28, 73, 69, 68, 49, 19, 4, 2, 2, 2, 0, 0, 0, 1, 3, 107, 101, 121, 5, 118, 97, 108, 117, 101, 0, 122, 215, 96, 97, 243, 168, 93, 255], .int .i64 2, .fsl Ty.record [UU.untup Ty.record (((1) : Int), ((1) : Int), ([73, 69, 68, 49, 19, 4, 2, 2, 2, 0, 0, 0, 1, 3, 107, 101, 121, 5, 118, 97, 108, 117, 101, 0, 122, 215, 96, 97] : List UInt8), ())]]
noncomputable def v65_2 : AV UU := .str [73, 69, 74, 49, 1, 2, 146, 66, 204, 182, 31, 1, 1, 28, 73, 69, 68, 49, 19, 4, 2, 2, 2, 0, 0, 0, 1, 3, 107, 101, 121, 5, 118, 97, 108, 117, 101, 0, 122, 215, 96, 97, 243, 168, 93, 255]
theorem run65_2 : runT (E cons65 []) 500 65 a65_2 [] (finT false) = some v65_2 := by kernel_rfl
noncomputable def tab65 : List (List (AV UU) × AV UU) := [(a65_0, v65_0), (a65_1, v65_1), (a65_2, v65_2)]
noncomputable def con65 : Con UU := conTabA tab65 false
theorem con65_ok : ConOK Tryz.prog 65 con65 := conTbA cons65_ok (fn := Tryz.f65) ⟨Tryz.func65, name65⟩ (by kernel_rfl) (by kernel_rfl) (List.forall_mem_cons.2 ⟨run65_0, List.forall_mem_cons.2 ⟨run65_1, List.forall_mem_cons.2 ⟨run65_2, List.forall_mem_nil _⟩⟩⟩)
noncomputable def cons49 : List (Nat × Con UU) := []
theorem cons49_ok : ConsOK Tryz.prog cons49 := trivial
noncomputable def con49 : Con UU := conRunT (E cons49 []) 500 49 false true
theorem con49_ok : ConOK Tryz.prog 49 con49 := conRT cons49_ok (fn := Tryz.f49) ⟨Tryz.func49, name49⟩ (by kernel_rfl) (by kernel_rfl) 500 false true
end Am
