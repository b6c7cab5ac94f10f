/- The law's function, of any call on a store. -/
import Derived.Test.YtlogoccciaopnaaGreatDoorAmC9
import Derived.Test.YtlogoccciaopnaaGreatDoorAmC10
namespace Am
open Go Go.Proofs
set_option maxRecDepth 1000000
set_option maxHeartbeats 0

def g3 (o : UU.den Ty.imageeditorlaw45_op) : Option Bool :=
  (g25 (show Dimageeditorlaw45_op from o).n).bind fun _ => (g25 (show Dimageeditorlaw45_op from o).n).bind fun _ => (g25 (show Dimageeditorlaw45_op from o).n).bind fun _ => (g25 (show Dimageeditorlaw45_op from o).n).bind fun _ => some true

theorem g3_eq (o : UU.den Ty.imageeditorlaw45_op) : g3 o = some true := by
  obtain ⟨s, hs⟩ := g25_some (show Dimageeditorlaw45_op from o).n
  unfold g3
  rw [hs]
  rfl

noncomputable def cons3 : List (Nat × Con UU) := [(25, con25), (16, con16)]
theorem cons3_ok : ConsOK Tryz.prog cons3 := ⟨con25_ok, con16_ok, trivial⟩
noncomputable def con3 : Con UU := conOf [.ty Ty.imageeditorlaw45_op] (.one (.cell .bool)) (fun x => g3 x.1)
theorem con3_ok : ConOK Tryz.prog 3 con3 := con (cons := cons3) (cuts := []) cons3_ok trivial (fn := Tryz.f3) ⟨Tryz.func3, name3⟩ (by kernel_rfl) (by kernel_rfl) rfl rfl 300
  (fun x => (runT_eq (E cons3 []) 300 3 _ [] _).symm.trans (by kernel_rfl))
end Am
