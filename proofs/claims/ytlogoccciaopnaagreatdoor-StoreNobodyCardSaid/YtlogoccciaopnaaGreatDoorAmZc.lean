/- The closed facts of the row, one by one. -/
import Derived.Test.YtlogoccciaopnaaGreatDoorAmZb
import Derived.JoinedOf
import Derived.KernelRfl
namespace Go.Proofs.YtlogoccciaopnaaGreatDoor
open Go
set_option maxRecDepth 100000
set_option maxHeartbeats 0
theorem jf0 : (Rows.storeNobodyRow.wf (OpenSpec.ofChange Rows.storeNobodySpec)) = true := by kernel_rfl
theorem jf1 : (laidOutB Tryz.prog) = true := by kernel_rfl
theorem jf2 : (mapsRowed Tryz.prog) = true := by kernel_rfl
theorem jf3 : (Tryz.f3.params.all (Tryz.prog.readableRec ·)) = true := by kernel_rfl
theorem jf4 : (namedTie Tryz.prog Rows.storeNobodyRow.named Rows.storeNobodySpec.vars) = true := by kernel_rfl
theorem jf5 : ((Rows.storeNobodyRow.stops == [])) = true := by kernel_rfl
theorem jf6 : ((Tryz.prog.stops == [])) = true := by kernel_rfl
theorem jf7 : ((Rows.storeNobodyRow.knobs == [])) = true := by kernel_rfl
theorem jf8 : ((Tryz.prog.stopKnobs == [])) = true := by kernel_rfl
theorem jf9 : (Rows.storeNobodyRow.inPlace == Tryz.prog.inPlace 3) = true := by
  unfold Program.inPlace
  rw [clo]
  kernel_rfl
theorem unf : Tryz.prog.unfollowed 3 = true := by
  unfold Program.unfollowed
  rw [clo]
  kernel_rfl
theorem jf10 : (Rows.storeNobodyRow.unfollowed == Tryz.prog.unfollowed 3) = true := by
  rw [unf]; rfl
theorem jf11 : (Rows.storeNobodyRow.recurses == Tryz.prog.recurses 3) = true := by
  unfold Program.recurses
  rw [unf]; rfl
theorem jf12 : (Rows.storeNobodyRow.named == Tryz.prog.varsNamed 3) = true := by
  unfold Program.varsNamed
  rw [clo]
  kernel_rfl
theorem jf13 : ((Rows.storeNobodyRow.maps == (Tryz.f3.params.toList ++ Rows.storeNobodySpec.plain.varTypes Tryz.prog).any (Tryz.prog.mapsRec ·))) = true := by kernel_rfl
theorem jf14 : ((Rows.storeNobodyRow.ifaces == (Tryz.f3.params.toList ++ Rows.storeNobodySpec.plain.varTypes Tryz.prog).any (Tryz.prog.ifacesRec ·))) = true := by kernel_rfl
theorem jf15 : ((Rows.storeNobodyRow.mapsOut == Tryz.prog.mapsAmong Tryz.f3.resultTypes.toList)) = true := by kernel_rfl
theorem jf16 : ((Rows.storeNobodyRow.loops == (Tryz.f3.params.toList ++ Rows.storeNobodySpec.plain.varTypes Tryz.prog).any (Tryz.prog.loopsFrom ·))) = true := by kernel_rfl
theorem jf17 : ((Rows.storeNobodyRow.wideKeys == (Tryz.f3.params.toList ++ Rows.storeNobodySpec.plain.varTypes Tryz.prog ++ Tryz.f3.resultTypes.toList).any (Tryz.prog.wideKeysFrom ·))) = true := by kernel_rfl
theorem jf18 : (Rows.storeNobodySpec.vars.all (Tryz.prog.varReadable ·)) = true := by kernel_rfl
theorem jf19 : (Tryz.f3.resultTypes.all (fun t => Tryz.prog.readableRec t && decide (t < Tryz.prog.types.size))) = true := by kernel_rfl
theorem jf20 : ((Rows.storeNobodyRow.ifacesOut == Tryz.f3.resultTypes.toList.any (Tryz.prog.ifacesRec ·))) = true := by kernel_rfl
theorem jf21 : ((Rows.storeNobodyRow.loopsOut == Tryz.f3.resultTypes.toList.any (Tryz.prog.loopsFrom ·))) = true := by kernel_rfl
theorem jf22 : ((Rows.storeNobodyRow.plainKeys == Tryz.prog.plainKeys)) = true := by kernel_rfl
theorem jf23 : (Rows.storeNobodyRow.shortTexts.isNone) = true := by kernel_rfl
theorem jf24 : (Tryz.prog.stopsHeard) = true := by kernel_rfl
theorem jf25 : (Tryz.prog.mayEnter) = true := by kernel_rfl
theorem jf26 : ((Rows.storeNobodyRow.lifted == Tryz.prog.liftsFinal)) = true := by kernel_rfl
theorem jf27 : ((Tryz.prog.make == some Rows.storeNobodyRow.make)) = true := by kernel_rfl
theorem jf28 : ((Rows.storeNobodyRow.kinds == (if Rows.storeNobodyRow.domain.isEmpty then [] else Tryz.f3.params.toList.map fun t => match Tryz.prog.underlying t with | some (.int k) => some k | _ => none))) = true := by kernel_rfl
theorem jf29 : ((Rows.storeNobodyRow.pinned == Rows.storeNobodyRow.pinnedBy)) = true := by kernel_rfl
theorem jf30 : ((Rows.storeNobodyRow.veiled == (Tryz.f3.params.toList ++ Rows.storeNobodySpec.plain.varTypes Tryz.prog ++ Tryz.f3.resultTypes.toList).any (Tryz.prog.veiledRec ·))) = true := by kernel_rfl
theorem jf31 : (Rows.storeNobodyRow.veiledFits Tryz.prog Tryz.f3.params.toList (Tryz.f3.params.toList ++ Rows.storeNobodySpec.plain.varTypes Tryz.prog ++ Tryz.f3.resultTypes.toList)) = true := by kernel_rfl
theorem joined : joinedFacts Tryz.pinned.checked.prog 3 Tryz.f3 Rows.storeNobodySpec Rows.storeNobodyRow = true := by
  unfold joinedFacts
  show (Rows.storeNobodyRow.wf (OpenSpec.ofChange Rows.storeNobodySpec) && laidOutB Tryz.prog && mapsRowed Tryz.prog && Tryz.f3.params.all (Tryz.prog.readableRec ·) && namedTie Tryz.prog Rows.storeNobodyRow.named Rows.storeNobodySpec.vars && (Rows.storeNobodyRow.stops == []) && (Tryz.prog.stops == []) && (Rows.storeNobodyRow.knobs == []) && (Tryz.prog.stopKnobs == []) && (Rows.storeNobodyRow.inPlace == Tryz.prog.inPlace 3) && (Rows.storeNobodyRow.unfollowed == Tryz.prog.unfollowed 3) && (Rows.storeNobodyRow.recurses == Tryz.prog.recurses 3) && (Rows.storeNobodyRow.named == Tryz.prog.varsNamed 3) && (Rows.storeNobodyRow.maps == (Tryz.f3.params.toList ++ Rows.storeNobodySpec.plain.varTypes Tryz.prog).any (Tryz.prog.mapsRec ·)) && (Rows.storeNobodyRow.ifaces == (Tryz.f3.params.toList ++ Rows.storeNobodySpec.plain.varTypes Tryz.prog).any (Tryz.prog.ifacesRec ·)) && (Rows.storeNobodyRow.mapsOut == Tryz.prog.mapsAmong Tryz.f3.resultTypes.toList) && (Rows.storeNobodyRow.loops == (Tryz.f3.params.toList ++ Rows.storeNobodySpec.plain.varTypes Tryz.prog).any (Tryz.prog.loopsFrom ·)) && (Rows.storeNobodyRow.wideKeys == (Tryz.f3.params.toList ++ Rows.storeNobodySpec.plain.varTypes Tryz.prog ++ Tryz.f3.resultTypes.toList).any (Tryz.prog.wideKeysFrom ·)) && Rows.storeNobodySpec.vars.all (Tryz.prog.varReadable ·) && Tryz.f3.resultTypes.all (fun t => Tryz.prog.readableRec t && decide (t < Tryz.prog.types.size)) && (Rows.storeNobodyRow.ifacesOut == Tryz.f3.resultTypes.toList.any (Tryz.prog.ifacesRec ·)) && (Rows.storeNobodyRow.loopsOut == Tryz.f3.resultTypes.toList.any (Tryz.prog.loopsFrom ·)) && (Rows.storeNobodyRow.plainKeys == Tryz.prog.plainKeys) && Rows.storeNobodyRow.shortTexts.isNone && Tryz.prog.stopsHeard && Tryz.prog.mayEnter && (Rows.storeNobodyRow.lifted == Tryz.prog.liftsFinal) && (Tryz.prog.make == some Rows.storeNobodyRow.make) && (Rows.storeNobodyRow.kinds == (if Rows.storeNobodyRow.domain.isEmpty then [] else Tryz.f3.params.toList.map fun t => match Tryz.prog.underlying t with | some (.int k) => some k | _ => none)) && (Rows.storeNobodyRow.pinned == Rows.storeNobodyRow.pinnedBy) && (Rows.storeNobodyRow.veiled == (Tryz.f3.params.toList ++ Rows.storeNobodySpec.plain.varTypes Tryz.prog ++ Tryz.f3.resultTypes.toList).any (Tryz.prog.veiledRec ·)) && Rows.storeNobodyRow.veiledFits Tryz.prog Tryz.f3.params.toList (Tryz.f3.params.toList ++ Rows.storeNobodySpec.plain.varTypes Tryz.prog ++ Tryz.f3.resultTypes.toList)) = true
  simp only [jf0, jf1, jf2, jf3, jf4, jf5, jf6, jf7, jf8, jf9, jf10, jf11, jf12, jf13, jf14, jf15, jf16, jf17, jf18, jf19, jf20, jf21, jf22, jf23, jf24, jf25, jf26, jf27, jf28, jf29, jf30, jf31, Bool.and_self]
end Go.Proofs.YtlogoccciaopnaaGreatDoor
