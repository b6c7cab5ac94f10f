import Derived.Test.YtlogoccciaopnaaGreatDoorTie
import Derived.Test.YtlogoccciaopnaaGreatDoorCards
import Derived.SevenTiedAt
import Derived.KernelRfl
namespace Go.Proofs.YtlogoccciaopnaaGreatDoor
open Go
set_option maxRecDepth 100000
theorem goesAll : Tryz.prog.funcs.any Func.goes = false := by kernel_rfl
theorem goesNone (f : FuncId) : Tryz.prog.goes f = false := by
  unfold Program.goes
  rw [goesAll, Bool.and_false, Bool.or_false, List.any_eq_false]
  intro g _
  cases h : Tryz.prog.funcs[g]? with
  | none => simp
  | some fn =>
    have := Array.any_eq_false.1 goesAll g (Array.getElem?_eq_some_iff.1 h).1
    have h2 := (Array.getElem?_eq_some_iff.1 h).2
    rw [h2] at this
    simpa using this
theorem goesRow : false = Rows.storeNobodyRow.goesBy Tryz.pinned.checked.prog := by
  show false = (Tryz.prog.goesAt .entering _)
  unfold Program.goesAt Program.goesFrom
  cases Tryz.prog.funcNamed Rows.storeNobodyRow.func with
  | none => rfl
  | some f => simp [goesNone]
end Go.Proofs.YtlogoccciaopnaaGreatDoor
