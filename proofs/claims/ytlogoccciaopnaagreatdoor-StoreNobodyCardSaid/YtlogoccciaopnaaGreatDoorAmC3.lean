/- The clones. Printed by mkSt.py. -/
import Derived.Test.YtlogoccciaopnaaGreatDoorAmC2
namespace Am
open Go Go.Proofs
set_option maxRecDepth 1000000
set_option maxHeartbeats 0

def g85 (xs : List (UU.den Ty.node)) : Option (List (UU.den Ty.node)) := chk (roomy (List.length ([] : List (UU.den Ty.node)) + xs.length) 440) (some ([] ++ xs))
noncomputable def con85 : Con UU := conOf [.cell (.sl Ty.node)] (.one (.cell (.sl Ty.node))) (fun x => g85 x.1)
theorem con85_ok : ConOK Tryz.prog 85 con85 := conNil (cons := []) (cuts := []) trivial trivial (fn := Tryz.f85) ⟨Tryz.func85, name85⟩ (by kernel_rfl) (by kernel_rfl) (rd := .one (.cell (.sl Ty.node))) rfl 100 (by kernel_rfl) (fun xs => by kernel_rfl)
def g86 (xs : List (UU.den Ty.meta_)) : Option (List (UU.den Ty.meta_)) := chk (roomy (List.length ([] : List (UU.den Ty.meta_)) + xs.length) 32) (some ([] ++ xs))
noncomputable def con86 : Con UU := conOwn [.cell (.sl Ty.meta_)] Ty.meta_ (fun x => g86 x.1)
theorem con86_ok : ConOK Tryz.prog 86 con86 := ownNil (cons := []) (cuts := []) trivial trivial (fn := Tryz.f86) ⟨Tryz.func86, name86⟩ (by kernel_rfl) (by kernel_rfl) 100 (by kernel_rfl) (fun xs => by kernel_rfl)
def g87 (xs : List (UU.den Ty.link)) : Option (List (UU.den Ty.link)) := chk (roomy (List.length ([] : List (UU.den Ty.link)) + xs.length) 80) (some ([] ++ xs))
noncomputable def con87 : Con UU := conOf [.cell (.sl Ty.link)] (.one (.cell (.sl Ty.link))) (fun x => g87 x.1)
theorem con87_ok : ConOK Tryz.prog 87 con87 := conNil (cons := []) (cuts := []) trivial trivial (fn := Tryz.f87) ⟨Tryz.func87, name87⟩ (by kernel_rfl) (by kernel_rfl) (rd := .one (.cell (.sl Ty.link))) rfl 100 (by kernel_rfl) (fun xs => by kernel_rfl)
def g88 (xs : List (UU.den Ty.int)) : Option (List (UU.den Ty.int)) := chk (roomy (List.length ([] : List (UU.den Ty.int)) + xs.length) 8) (some ([] ++ xs))
noncomputable def con88 : Con UU := conOf [.cell (.sl Ty.int)] (.one (.cell (.sl Ty.int))) (fun x => g88 x.1)
theorem con88_ok : ConOK Tryz.prog 88 con88 := conNil (cons := []) (cuts := []) trivial trivial (fn := Tryz.f88) ⟨Tryz.func88, name88⟩ (by kernel_rfl) (by kernel_rfl) (rd := .one (.cell (.sl Ty.int))) rfl 100 (by kernel_rfl) (fun xs => by kernel_rfl)
def g89 (xs : List (UU.den Ty.pixel)) : Option (List (UU.den Ty.pixel)) := chk (roomy (List.length ([] : List (UU.den Ty.pixel)) + xs.length) 32) (some ([] ++ xs))
noncomputable def con89 : Con UU := conOf [.cell (.sl Ty.pixel)] (.one (.cell (.sl Ty.pixel))) (fun x => g89 x.1)
theorem con89_ok : ConOK Tryz.prog 89 con89 := conNil (cons := []) (cuts := []) trivial trivial (fn := Tryz.f89) ⟨Tryz.func89, name89⟩ (by kernel_rfl) (by kernel_rfl) (rd := .one (.cell (.sl Ty.pixel))) rfl 100 (by kernel_rfl) (fun xs => by kernel_rfl)
def g90 (xs : List (UU.den Ty.stop)) : Option (List (UU.den Ty.stop)) := chk (roomy (List.length ([] : List (UU.den Ty.stop)) + xs.length) 40) (some ([] ++ xs))
noncomputable def con90 : Con UU := conOf [.cell (.sl Ty.stop)] (.one (.cell (.sl Ty.stop))) (fun x => g90 x.1)
theorem con90_ok : ConOK Tryz.prog 90 con90 := conNil (cons := []) (cuts := []) trivial trivial (fn := Tryz.f90) ⟨Tryz.func90, name90⟩ (by kernel_rfl) (by kernel_rfl) (rd := .one (.cell (.sl Ty.stop))) rfl 100 (by kernel_rfl) (fun xs => by kernel_rfl)
def g91 (xs : List (UU.den Ty.seg)) : Option (List (UU.den Ty.seg)) := chk (roomy (List.length ([] : List (UU.den Ty.seg)) + xs.length) 56) (some ([] ++ xs))
noncomputable def con91 : Con UU := conOf [.cell (.sl Ty.seg)] (.one (.cell (.sl Ty.seg))) (fun x => g91 x.1)
theorem con91_ok : ConOK Tryz.prog 91 con91 := conNil (cons := []) (cuts := []) trivial trivial (fn := Tryz.f91) ⟨Tryz.func91, name91⟩ (by kernel_rfl) (by kernel_rfl) (rd := .one (.cell (.sl Ty.seg))) rfl 100 (by kernel_rfl) (fun xs => by kernel_rfl)
def g92 (xs : List (UU.den Ty.point)) : Option (List (UU.den Ty.point)) := chk (roomy (List.length ([] : List (UU.den Ty.point)) + xs.length) 16) (some ([] ++ xs))
noncomputable def con92 : Con UU := conOf [.cell (.sl Ty.point)] (.one (.cell (.sl Ty.point))) (fun x => g92 x.1)
theorem con92_ok : ConOK Tryz.prog 92 con92 := conNil (cons := []) (cuts := []) trivial trivial (fn := Tryz.f92) ⟨Tryz.func92, name92⟩ (by kernel_rfl) (by kernel_rfl) (rd := .one (.cell (.sl Ty.point))) rfl 100 (by kernel_rfl) (fun xs => by kernel_rfl)
end Am
