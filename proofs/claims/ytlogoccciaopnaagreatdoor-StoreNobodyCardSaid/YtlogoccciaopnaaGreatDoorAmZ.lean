/- WHAT IS PROVED: imageeditorlaw45.StoreNobody returns true for every call on a store that there is, and leaves it as it was. CONDITIONS: none but those of the statement's own form (a slice or string is of at most 2^47 - 4096 bytes; the two listed variables of unicode/utf8 start as the program's text lays them: the card ties them). -/
import Derived.Test.YtlogoccciaopnaaGreatDoorAmZa
import Derived.Test.YtlogoccciaopnaaGreatDoorAmZc
import Derived.Test.YtlogoccciaopnaaGreatDoorAmZd
import Derived.Test.YtlogoccciaopnaaGreatDoorCards
namespace Go.Proofs.YtlogoccciaopnaaGreatDoor.storeNobodyCardSaid
open Go Go.Proofs Go.ChangeShapes Go.WideShapes Go.ChangeAt Go.RowKit
set_option maxRecDepth 100000
set_option maxHeartbeats 0

theorem named3 : Tryz.prog.funcNamed Rows.storeNobodyRow.func = some 3 := by kernel_rfl

theorem holds : Rows.StoreNobodySaid :=
  OpenClaim.holds_of_wide 3 Tryz.f3 rfl rfl rfl rfl rfl rfl rfl ⟨rfl, rfl, rfl, rfl, rfl⟩ rfl rfl rfl rfl rfl named3 Tryz.func3 joined
    (of_decide_eq_true (by kernel_rfl)) (by unfold Func.isWrapper; first | (rw [if_pos (by decide +kernel)]; kernel_rfl) | (rw [if_neg (by decide +kernel)]; exact ⟨rfl, rfl⟩))
    (fun os started H enc _ => lifted os started H enc)

theorem proved : Rows.StoreNobodyCardSaid :=
  Claim7.holds_tied_plain_at .later [] [.data, .pinned] true (true, "14bf109d4d3af9016ee1596abedc8a3642ef48a47e2126c039a1f8d3ae086b72") false holds (fun _ h => by cases h) (by kernel_rfl) (fun _ h => by cases h) storeNobody_row_tie rfl ⟨rfl, rfl⟩ (by kernel_rfl) rfl
    (fun f fn hf hfn => by
      obtain rfl : f = 3 := Option.some.inj (named3.symm.trans hf) |>.symm
      obtain rfl : fn = Tryz.f3 := (Option.some.inj (Tryz.func3.symm.trans hfn)).symm
      exact ⟨by kernel_rfl, fun j t ht => by
        rw [Tryz.params3] at ht
        have hm : t ∈ [50] := by simpa using Array.mem_of_getElem? ht
        have hall : ([50].all fun u => !Tryz.prog.wantsStandIn u) = true := by kernel_rfl
        exact (show Tryz.prog.wantsStandIn t = false by simpa using List.all_eq_true.1 hall t hm)⟩)
    goesRow
end Go.Proofs.YtlogoccciaopnaaGreatDoor.storeNobodyCardSaid
