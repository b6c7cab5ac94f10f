/- The documents and edits that are decoded. Printed by mkSt.py. -/
import Derived.Test.YtlogoccciaopnaaGreatDoorAmC6
import Derived.Test.YtlogoccciaopnaaGreatDoorAmC2b
namespace Am
open Go Go.Proofs
set_option maxRecDepth 1000000
set_option maxHeartbeats 0

noncomputable def cons56 : List (Nat × Con UU) := []
theorem cons56_ok : ConsOK Tryz.prog cons56 := trivial
noncomputable def a56_0 : List (AV UU) := [.agg [.int .i64 2, .int .i64 1, .int .i64 1, .nilsl, .int .i64 1, .int .i64 0, .int .i64 0, .nilsl, .nilsl, .nilsl]]
noncomputable def v56_0 : AV UU := .int .i64 0
theorem run56_0 : runT (E cons56 []) 500 56 a56_0 [] (finT false) = some v56_0 := by kernel_rfl
noncomputable def a56_1 : List (AV UU) := [.agg [.int .i64 2, .int .i64 1, .int .i64 1, .fsl Ty.node [], .int .i64 1, .int .i64 0, .int .i64 0, .fsl Ty.int [], .fsl Ty.meta_ [], .fsl Ty.link []]]
noncomputable def v56_1 : AV UU := .int .i64 0
theorem run56_1 : runT (E cons56 []) 500 56 a56_1 [] (finT false) = some v56_1 := by kernel_rfl
noncomputable def a56_2 : List (AV UU) := [.agg [.int .i64 2, .int .i64 1, .int .i64 1, .fsl Ty.node [], .int .i64 1, .int .i64 0, .int .i64 0, .fsl Ty.int [], .fsl Ty.meta_ [UU.untup Ty.meta_ (([107, 101, 121] : List UInt8), ([118, 97, 108, 117, 101] : List UInt8), ())], .fsl Ty.link []]]
noncomputable def v56_2 : AV UU := .int .i64 0
theorem run56_2 : runT (E cons56 []) 500 56 a56_2 [] (finT false) = some v56_2 := by kernel_rfl
noncomputable def a56_3 : List (AV UU) := [.agg [.int .i64 2, .int .i64 1, .int .i64 1, .nilsl, .int .i64 1, .int .i64 0, .int .i64 0, .nilsl, .fsl Ty.meta_ [UU.untup Ty.meta_ (([107, 101, 121] : List UInt8), ([118, 97, 108, 117, 101] : List UInt8), ())], .nilsl]]
noncomputable def v56_3 : AV UU := .int .i64 0
theorem run56_3 : runT (E cons56 []) 500 56 a56_3 [] (finT false) = some v56_3 := by kernel_rfl
noncomputable def tab56 : List (List (AV UU) × AV UU) := [(a56_0, v56_0), (a56_1, v56_1), (a56_2, v56_2), (a56_3, v56_3)]
noncomputable def con56 : Con UU := conTabA tab56 false
theorem con56_ok : ConOK Tryz.prog 56 con56 := conTbA cons56_ok (fn := Tryz.f56) ⟨Tryz.func56, name56⟩ (by kernel_rfl) (by kernel_rfl) (List.forall_mem_cons.2 ⟨run56_0, List.forall_mem_cons.2 ⟨run56_1, List.forall_mem_cons.2 ⟨run56_2, List.forall_mem_cons.2 ⟨run56_3, List.forall_mem_nil _⟩⟩⟩⟩)
noncomputable def cons105 : List (Nat × Con UU) := [(142, con142), (56, con56)]
theorem cons105_ok : ConsOK Tryz.prog cons105 := ⟨con142_ok, con56_ok, trivial⟩
def s105_0 : List UInt8 := [73, 69, 68, 49, 9, 4, 2, 2, 2, 0, 0, 0, 0, 0, 239, 165, 1, 218]
noncomputable def v105_0 : AV UU := .tup [.agg [.int .i64 2, .int .i64 1, .int .i64 1, .nilsl, .int .i64 1, .int .i64 0, .int .i64 0, .nilsl, .nilsl, .nilsl], .int .i64 0]
theorem run105_0 : runT (E cons105 []) 500 105 [.str s105_0] [] (finT false) = some v105_0 := by kernel_rfl
def s105_1 : List UInt8 := [73, 69, 68, 49, 19, 4, 2, 2, 2, 0, 0, 0, 1, 3, 107, 101, 121, 5, 118, 97, 108, 117, 101, 0, 122, 215, 96, 97]
noncomputable def v105_1 : AV UU := .tup [.agg [.int .i64 2, .int .i64 1, .int .i64 1, .nilsl, .int .i64 1, .int .i64 0, .int .i64 0, .nilsl, .fsl Ty.meta_ [UU.untup Ty.meta_ (([107, 101, 121] : List UInt8), ([118, 97, 108, 117, 101] : List UInt8), ())], .nilsl], .int .i64 0]
theorem run105_1 : runT (E cons105 []) 500 105 [.str s105_1] [] (finT false) = some v105_1 := by kernel_rfl
noncomputable def tab105 : List (List UInt8 × AV UU) := [(s105_0, v105_0), (s105_1, v105_1)]
noncomputable def con105 : Con UU := conTab tab105 false
theorem con105_ok : ConOK Tryz.prog 105 con105 := conTb cons105_ok (fn := Tryz.f105) ⟨Tryz.func105, name105⟩ (by kernel_rfl) (by kernel_rfl) (List.forall_mem_cons.2 ⟨run105_0, List.forall_mem_cons.2 ⟨run105_1, List.forall_mem_nil _⟩⟩)
noncomputable def cons75 : List (Nat × Con UU) := []
theorem cons75_ok : ConsOK Tryz.prog cons75 := trivial
noncomputable def con75 : Con UU := conRunT (E cons75 []) 500 75 false false
theorem con75_ok : ConOK Tryz.prog 75 con75 := conRT cons75_ok (fn := Tryz.f75) ⟨Tryz.func75, name75⟩ (by kernel_rfl) (by kernel_rfl) 500 false false
noncomputable def cons76 : List (Nat × Con UU) := []
theorem cons76_ok : ConsOK Tryz.prog cons76 := trivial
noncomputable def con76 : Con UU := conRunT (E cons76 []) 500 76 false false
theorem con76_ok : ConOK Tryz.prog 76 con76 := conRT cons76_ok (fn := Tryz.f76) ⟨Tryz.func76, name76⟩ (by kernel_rfl) (by kernel_rfl) 500 false false
noncomputable def cons77 : List (Nat × Con UU) := []
theorem cons77_ok : ConsOK Tryz.prog cons77 := trivial
noncomputable def con77 : Con UU := conRunT (E cons77 []) 500 77 false false
theorem con77_ok : ConOK Tryz.prog 77 con77 := conRT cons77_ok (fn := Tryz.f77) ⟨Tryz.func77, name77⟩ (by kernel_rfl) (by kernel_rfl) 500 false false
noncomputable def cons20 : List (Nat × Con UU) := [(46, con46), (75, con75), (76, con76), (77, con77)]
theorem cons20_ok : ConsOK Tryz.prog cons20 := ⟨con46_ok, con75_ok, con76_ok, con77_ok, trivial⟩
noncomputable def a20_0 : List (AV UU) := [.agg [.int .i64 18, .int .i64 0, .int .i64 0, .int .i64 0, .int .i64 0, .int .i64 0, .str [107, 101, 121], .str [118, 97, 108, 117, 101], .int .i64 0, .int .i64 0, .int .i64 0, .str [], .bool false, .bool false, .bool false, .int .i64 0, .int .i64 0, .int .i64 0, .int .i64 0, .nilsl, .int .i64 0, .int .i64 0, .int .i64 0, .int .i64 0, .int .i64 0, .int .i64 0, .int .i64 0, .int .i64 0, .int .i64 0, .nilsl, .int .i64 0, .int .i64 0, .int .i64 0, .int .i64 0, .int .i64 0, .nilsl, .int .i64 0, .nilsl, .nilsl, .int .i64 0, .int .i64 0, .int .i64 0, .int .i64 0, .str [], .int .i64 0, .int .i64 0, .int .i64 0, .int .i64 0, .int .i64 0, .int .i64 0, .nilsl, .int .i64 0, .int .i64 0, .nilsl, .int .i64 0, .int .i64 0, .nilsl, .int .i64 0, .int .i64 0, .int .i64 0, .int .i64 0, .int .i64 0, .int .i64 0, .int .i64 0, .int .i64 0, .int .i64 0, .int .i64 0, .int .i64 0, .int .i64 0, .int .i64 0, .int .i64 0, .nilsl, .bool false, .nilsl, .int .i64 0, .int .i64 0, .int .i64 0, .int .i64 0, .int .i64 0, .int .i64 0, .int .i64 0, .int .i64 0, .int .i64 0, .int .i64 0]]
noncomputable def v20_0 : AV UU := .tup [.str [88, 36, 0, 0, 0, 0, 0, 3, 107, 101, 121, 5, 118, 97, 108, 117, 101, 0, 0, 0, 0, 0, 0, 0, 0, 0, 0, 0, 0, 0, 0, 0, 0, 0, 0, 0, 0, 0, 0, 0, 0, 0, 0, 0, 0, 0, 0, 0, 0, 0, 0, 0, 0, 0, 0, 0, 0, 0, 0, 0, 0, 0, 0, 0, 0, 0, 0, 0, 0, 0, 0, 0, 0, 0, 0, 0, 0, 0, 0, 0, 0, 0, 0, 0, 0, 0, 0, 0, 0, 252, 115, 12, 188], .int .i64 0]
theorem run20_0 : runT (E cons20 []) 500 20 a20_0 [] (finT false) = some v20_0 := by kernel_rfl
noncomputable def tab20 : List (List (AV UU) × AV UU) := [(a20_0, v20_0)]
noncomputable def con20 : Con UU := conTabA tab20 false
theorem con20_ok : ConOK Tryz.prog 20 con20 := conTbA cons20_ok (fn := Tryz.f20) ⟨Tryz.func20, name20⟩ (by kernel_rfl) (by kernel_rfl) (List.forall_mem_cons.2 ⟨run20_0, List.forall_mem_nil _⟩)
noncomputable def cons106 : List (Nat × Con UU) := [(142, con142), (20, con20)]
theorem cons106_ok : ConsOK Tryz.prog cons106 := ⟨con142_ok, con20_ok, trivial⟩
def s106_0 : List UInt8 := [88, 36, 0, 0, 0, 0, 0, 3, 107, 101, 121, 5, 118, 97, 108, 117, 101, 0, 0, 0, 0, 0, 0, 0, 0, 0, 0, 0, 0, 0, 0, 0, 0, 0, 0, 0, 0, 0, 0, 0, 0, 0, 0, 0, 0, 0, 0, 0, 0, 0, 0, 0, 0, 0, 0, 0, 0, 0, 0, 0, 0, 0, 0, 0, 0, 0, 0, 0, 0, 0, 0, 0, 0, 0, 0, 0, 0, 0, 0, 0, 0, 0, 0, 0, 0, 0, 0, 0, 0, 252, 115, 12, 188]
noncomputable def v106_0 : AV UU := .tup [.agg [.int .i64 18, .int .i64 0, .int .i64 0, .int .i64 0, .int .i64 0, .int .i64 0, .str [107, 101, 121], .str [118, 97, 108, 117, 101], .int .i64 0, .int .i64 0, .int .i64 0, .str [], .bool false, .bool false, .bool false, .int .i64 0, .int .i64 0, .int .i64 0, .int .i64 0, .nilsl, .int .i64 0, .int .i64 0, .int .i64 0, .int .i64 0, .int .i64 0, .int .i64 0, .int .i64 0, .int .i64 0, .int .i64 0, .nilsl, .int .i64 0, .int .i64 0, .int .i64 0, .int .i64 0, .int .i64 0, .nilsl, .int .i64 0, .nilsl, .nilsl, .int .i64 0, .int .i64 0, .int .i64 0, .int .i64 0, .str [], .int .i64 0, .int .i64 0, .int .i64 0, .int .i64 0, .int .i64 0, .int .i64 0, .nilsl, .int .i64 0, .int .i64 0, .nilsl, .int .i64 0, .int .i64 0, .nilsl, .int .i64 0, .int .i64 0, .int .i64 0, .int .i64 0, .int .i64 0, .int .i64 0, .int .i64 0, .int .i64 0, .int .i64 0, .int .i64 0, .int .i64 0, .int .i64 0, .int .i64 0, .int .i64 0, .nilsl, .bool false, .nilsl, .int .i64 0, .int .i64 0, .int .i64 0, .int .i64 0, .int .i64 0, .int .i64 0, .int .i64 0, .int .i64 0, .int .i64 0, .int .i64 0], .int .i64 0]
theorem run106_0 : runT (E cons106 []) 500 106 [.str s106_0] [] (finT false) = some v106_0 := by kernel_rfl
noncomputable def tab106 : List (List UInt8 × AV UU) := [(s106_0, v106_0)]
noncomputable def con106 : Con UU := conTab tab106 false
theorem con106_ok : ConOK Tryz.prog 106 con106 := conTb cons106_ok (fn := Tryz.f106) ⟨Tryz.func106, name106⟩ (by kernel_rfl) (by kernel_rfl) (List.forall_mem_cons.2 ⟨run106_0, List.forall_mem_nil _⟩)
end Am
