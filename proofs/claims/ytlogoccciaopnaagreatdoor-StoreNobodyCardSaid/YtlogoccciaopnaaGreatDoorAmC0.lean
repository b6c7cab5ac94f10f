/- The builder's check and text, at the seat. -/
import Derived.Test.YtlogoccciaopnaaGreatDoorAmG
import Derived.Test.YtlogoccciaopnaaGreatDoorAmSy
namespace Am
open Go Go.Proofs Go.Shelf
set_option maxRecDepth 100000

def ren169 : Shelf.Ren := { f := fun x => match x with | 169 => 96 | n => n, t := fun x => match x with | 70 => 181 | 9 => 9 | 0 => 0 | 72 => 183 | 37 => 170 | 127 => 221 | 3 => 3 | 5 => 5 | n => n, g := fun x => x }
theorem lays169 : Lays.n169 Tryz.prog ren169 :=
  { mixed := by kernel_rfl,
    f169 := Tryz.func96.trans (congrArg some (by kernel_rfl)),
    t0 := Tryz.underlying0,
    a0 := Tryz.isAgg0,
    z0 := Tryz.sizeOf0,
    v0 := Tryz.zeroValue0,
    t3 := Tryz.underlying3,
    a3 := Tryz.isAgg3,
    z3 := Tryz.sizeOf3,
    v3 := Tryz.zeroValue3,
    t9 := Tryz.underlying9,
    a9 := Tryz.isAgg9,
    z9 := Tryz.sizeOf9,
    v9 := Tryz.zeroValue9,
    t37 := Tryz.underlying170,
    a37 := Tryz.isAgg170,
    z37 := Tryz.sizeOf170,
    v37 := Tryz.zeroValue170,
    t70 := Tryz.underlying181,
    a70 := Tryz.isAgg181,
    z70 := Tryz.sizeOf181,
    v70 := Tryz.zeroValue181,
    t72 := Tryz.underlying183,
    a72 := Tryz.isAgg183,
    z72 := Tryz.sizeOf183,
    v72 := Tryz.zeroValue183,
    t127 := Tryz.underlying221,
    a127 := Tryz.isAgg221,
    z127 := Tryz.sizeOf221,
    v127 := Tryz.zeroValue221 }

theorem x72 : Builder.X72 Tryz.prog ren169 := ⟨by kernel_rfl, by kernel_rfl⟩
theorem extra : Builder.Extra Tryz.prog ren169 := { x72 with t5 := Tryz.underlying5, a5 := Tryz.isAgg5, z5 := Tryz.sizeOf5, v5 := Tryz.zeroValue5, infoByte := by kernel_rfl, cellsByte := by kernel_rfl, sizeByte := by kernel_rfl, neB5 := by decide }

set_option maxHeartbeats 1000000 in
theorem cc_used (b : Nat) (w : World) (h0 : w.cell? ⟨b, 0, none⟩ = some (.pointer (some ⟨b, 0, none⟩))) :
    Calls Tryz.prog 133 #[.pointer (some ⟨b, 0, none⟩)] w fun e w' => e = .returned (.tuple #[]) ∧ w' = w := by
  obtain ⟨j, hj, _⟩ := Option.map_eq_some_iff.1 (show (Tryz.prog.info? 183).map (·.size) = some 2 from x72.sizeBuilder)
  go_enter Tryz.func133, Tryz.ntmps133
  go_wp2
  rw [Lib.run_neq_ptr_same w _ Tryz.underlying181 hj]
  go_wp2
  go_end0
  exact ⟨rfl, rfl⟩

set_option maxHeartbeats 1000000 in
theorem cc_fresh (b : Nat) (w : World) (h0 : w.cell? ⟨b, 0, none⟩ = some (.pointer none)) (hsh : w.shape? b = some (183, 2)) (hfz : w.frozen? ⟨b, 0, none⟩ = false) :
    Calls Tryz.prog 133 #[.pointer (some ⟨b, 0, none⟩)] w fun e w' => e = .returned (.tuple #[]) ∧ w' = w.setCell ⟨b, 0, none⟩ (.pointer (some ⟨b, 0, none⟩)) := by
  obtain ⟨j, hj, hjs⟩ := Option.map_eq_some_iff.1 (show (Tryz.prog.info? 183).map (·.size) = some 2 from x72.sizeBuilder)
  go_enter Tryz.func133, Tryz.ntmps133
  go_wp2
  rw [Lib.run_to_unsafe w ⟨b, 0, none⟩ Tryz.underlying181 Tryz.underlying274 hj (by rw [hjs]; decide) hsh (Nat.zero_lt_succ 1)]
  simp only [Result.andThen]
  rw [Oper.upon_value]
  go_wp2
  rw [run_callFunc_extern Tryz.func182 (by kernel_rfl) (by kernel_rfl) (by kernel_rfl) (e := Extern.AbiNoEscape.same) (by kernel_rfl)]
  rw [Lib.run_noEscape]
  simp only [Result.andThen]
  rw [Oper.upon_value]
  go_wp2
  rw [Lib.run_from_unsafe w ⟨b, 0, none⟩ Tryz.underlying274 Tryz.underlying181 hj hsh x72.liesBuilder]
  simp only [Result.andThen]
  rw [Oper.upon_value]
  go_wp2
  go_end0
  exact ⟨rfl, rfl⟩

theorem spec133 : SpecOK (U := UU) Tryz.prog 133 (copyCheckS 183) := copyCheck_spec (enters_of Tryz.func133 (by kernel_rfl) name133) cc_used cc_fresh
theorem spec96 : SpecOK (U := UU) Tryz.prog 96 (bldStringS 183 5) := bldString_ok lays169 extra (enters_of Tryz.func96 (by kernel_rfl) name96)
end Am
