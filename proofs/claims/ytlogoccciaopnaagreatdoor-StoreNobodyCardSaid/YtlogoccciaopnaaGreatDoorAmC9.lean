/- The worked example. Printed by mkSt.py. -/
import Derived.Test.YtlogoccciaopnaaGreatDoorAmC8
namespace Am
open Go Go.Proofs
set_option maxRecDepth 1000000
set_option maxHeartbeats 0

noncomputable def cons16 : List (Nat × Con UU) := [(31, con31), (63, con63), (65, con65), (42, con42), (20, con20), (106, con106), (48, con48), (53, con53), (49, con49), (56, con56)]
theorem cons16_ok : ConsOK Tryz.prog cons16 := ⟨con31_ok, con63_ok, con65_ok, con42_ok, con20_ok, con106_ok, con48_ok, con53_ok, con49_ok, con56_ok, trivial⟩
theorem run16 : runT (E cons16 []) 3000 16 [] [] (finT true) = some (.bool true) := by kernel_rfl
noncomputable def con16 : Con UU := conNo (.bool true) true
theorem con16_ok : ConOK Tryz.prog 16 con16 := conNo_ok cons16_ok (fn := Tryz.f16) ⟨Tryz.func16, name16⟩ (by kernel_rfl) (by kernel_rfl) run16
end Am
