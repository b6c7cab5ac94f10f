/- Contracts and loops. Printed by gen/auto.py. -/
import Derived.Test.YtbeffjadfgbojaaAmC10
namespace Am
open Go Go.Proofs
set_option maxRecDepth 100000

noncomputable def g4 (a : List Dedit) (b : List (List Dbind)) : Option Bool :=
  (g11 a b).bind fun r388 => (g12 a b).bind fun r389 => (match (eqI r388.2.1 r389.2.1) with | true => (g13 r388.1 r389.1).bind fun r390 => (match r390 with | true => (g10 ).bind fun r391 => some r391 | false => some false) | false => some false)
noncomputable def con4 : Con UU := conOf [.cell (.sl Ty.edit), .cell (.sl Ty.l_bind)] (.one (.cell .bool)) (fun x => g4 x.1 x.2.1)
theorem con4_ok : ConOK Try.prog 4 con4 := con (cons := [(10, con10), (11, con11), (12, con12), (13, con13)]) (cuts := []) ⟨con10_ok, con11_ok, con12_ok, con13_ok, trivial⟩ trivial (fn := Try.f4) ⟨Try.func4, name4⟩ (by kernel_rfl) (by kernel_rfl) rfl rfl 200
  (fun x => by obtain ⟨a, b, _⟩ := x; kernel_rfl)

noncomputable def g3 (a : Daction) (b : List Darg) : Option Bool :=
  (g7 a b).bind fun r392 => (g8 a b).bind fun r393 => (match (eqI r392.2.1 r393.2.1) with | true => (g9 r392.1 r393.1).bind fun r394 => (match r394 with | true => (g10 ).bind fun r395 => some r395 | false => some false) | false => some false)
noncomputable def con3 : Con UU := conOf [.ty Ty.action, .cell (.sl Ty.arg)] (.one (.cell .bool)) (fun x => g3 x.1 x.2.1)
theorem con3_ok : ConOK Try.prog 3 con3 := con (cons := [(7, con7), (8, con8), (9, con9), (10, con10)]) (cuts := []) ⟨con7_ok, con8_ok, con9_ok, con10_ok, trivial⟩ trivial (fn := Try.f3) ⟨Try.func3, name3⟩ (by kernel_rfl) (by kernel_rfl) rfl rfl 200
  (fun x => by obtain ⟨a, b, _⟩ := x; kernel_rfl)
end Am
