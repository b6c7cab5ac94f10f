/- The worked example of the law: its run, step by step, with nothing unknown. -/
import Derived.Test.YtbeffjadfgbojaaAmL6
namespace Am
open Go Go.Proofs
set_option maxRecDepth 1000000

/-- Contains, computed -/
def g35c (a : List (List UInt8)) (b : List UInt8) : Option Bool := chk (decide (a.length < 9223372036854775807)) (some (a.any fun x => eqS b x))
noncomputable def con35c : Con UU := conOf [.cell (.sl Ty.str), .cell .str] (.one (.cell .bool)) (fun x => g35c x.1 x.2.1)
theorem g35c_le (a : List (List UInt8)) (b : List UInt8) (r : Bool) (h : g35c a b = some r) : g35 a b = some r := by
  unfold g35c at h
  by_cases hl : a.length < 9223372036854775807
  · rw [decide_eq_true hl] at h
    rw [g35_eq a b (by omega)]; exact h
  · rw [decide_eq_false hl] at h; cases h
theorem con35c_ok : ConOK Try.prog 35 con35c := con_weaken con35_ok fun x r h => g35c_le x.1 x.2.1 r h

def g10 : Option Bool := some true
noncomputable def con10 : Con UU := conOf [] (.one (.cell .bool)) (fun _ => g10)
theorem con10_ok : ConOK Try.prog 10 con10 := con (cons := [(15, con15), (35, con35c), (38, con38), (39, con39), (40, con40), (41, con41), (42, con42), (43, con43), (44, con44), (45, con45)]) (cuts := [])
  ⟨con15_ok, con35c_ok, con38_ok, con39_ok, con40_ok, con41_ok, con42_ok, con43_ok, con44_ok, con45_ok, trivial⟩ trivial (fn := Try.f10) ⟨Try.func10, name10⟩ (by kernel_rfl) (by kernel_rfl) rfl rfl 3000
  (fun _ => by kernel_rfl)
end Am
