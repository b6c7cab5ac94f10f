/- The contract of the law, as the row asks it. -/
import Derived.Test.YtlogoccciaopnaaGreatDoorAmB3
import Derived.Test.YtlogoccciaopnaaGreatDoorAmC11
import Derived.Test.YtlogoccciaopnaaGreatDoorTie
import Derived.WalkKit
import Derived.ProofKit
import Derived.OpenShut
import Derived.SizedLaws
import Derived.Handed
import Derived.JoinedOf
import Derived.LaidMore
import Derived.Lay
import Derived.SevenTiedAt
import Derived.Stop.Joined
namespace Go.Proofs.YtlogoccciaopnaaGreatDoor.storeNobodyCardSaid
open Go Go.Proofs Go.ChangeShapes Go.WideShapes Go.ChangeAt Go.RowKit Am
set_option maxRecDepth 100000

theorem own : ownKnob Tryz.prog.godebug = none := by kernel_rfl

theorem reads : ∀ t ∈ Tryz.f3.params.toList, Tryz.prog.readableRec t = true ∧ t < Tryz.prog.types.size := by
  rw [Tryz.params3]
  intro t ht
  obtain rfl := List.mem_singleton.1 ht
  exact ⟨by kernel_rfl, of_decide_eq_true (by kernel_rfl)⟩

theorem contract (H : Type) (enc : TypeId × Value → H) (W : World) (base : Nat) (args : Array Value) (ds gs : List (DataW H)) (before : List MemPlace)
    (hval : ∀ (j : Nat) t v, Tryz.f3.params[j]? = some t → args[j]? = some v → Value.okWide Tryz.prog W .any base t v)
    (hW : DataW.Whole enc Tryz.prog Tryz.f3.params.toList Rows.storeNobodySpec.vars false W args.toList ds gs before) (hk : (DataW.weightsEach Tryz.prog (Tryz.f3.params.toList ++ Rows.storeNobodySpec.plain.varTypes Tryz.prog) (ds ++ gs)).all (· ≤ reachBytes) = true) :
    Calls Tryz.prog 3 args W fun e W' => ∃ v, e = .returned v ∧ Rows.storeNobodySpec.post enc Tryz.prog Tryz.f3 false true false false W args v W' := by
  have hW' := hW
  obtain ⟨p, q, hA0, hV, rfl, hfz, hnd⟩ := hW
  have hA : DataW.TrodAll enc Tryz.prog W 0 (fun _ => true) true Tryz.f3.params.toList args.toList ds p := hA0
  rw [Tryz.params3] at hA hval hk
  obtain ⟨v0, vs0, d0, ds0, p0, q0, hargs, rfl, rfl, h0, r0⟩ := trodAll_cons hA
  obtain ⟨rfl, rfl, rfl⟩ := trodAll_nil r0
  obtain rfl : args = #[v0] := by cases args; simp_all
  obtain ⟨rfl, rfl⟩ := trodVars_none hV
  have hw : ∀ (i : Nat) (t : TypeId) (d : DataW H), [50][i]? = some t → [d0][i]? = some d → ∀ n ∈ d.weights Tryz.prog t, n ≤ 140737488351232 := fun i t d ht hd n hn =>
    of_decide_eq_true (List.all_eq_true.1 hk n (weightsEach_mem (i := i) hn (by
      have hi := (List.getElem?_eq_some_iff.1 ht).1
      rw [List.getElem?_append_left hi]; exact ht) (by
      have hi := (List.getElem?_eq_some_iff.1 hd).1
      rw [List.getElem?_append_left hi]; exact hd)))
  obtain ⟨fs, hu⟩ : ∃ fs, Tryz.prog.underlying 50 = some (.struct fs) := ⟨_, Tryz.underlying50⟩
  obtain ⟨a, ha1, _⟩ := readArg_ty (G := E [] []) tis smallW hBytes hsh (c := Ty.imageeditorlaw45_op) (n := 12) (by kernel_rfl) hu (by kernel_rfl) (hval 0 50 v0 rfl rfl) h0 (hw 0 _ d0 rfl rfl)
  refine law_calls con3_ok (a, ()) (by kernel_rfl) (g3_eq a) (RelL.cons ha1 RelL.nil) (fun W' hk' => ?_)
  exact ⟨_, rfl, law_post rfl (t0 := 4) Tryz.underlying4 (by kernel_rfl) laid_out reads hW' rfl hk'⟩

theorem lifted (os : Os) (started : os.Started) (H : Type) (enc : TypeId × Value → H) :
    ReturnsInHanded {} Tryz.checked os 3 .any (fun w args => (Rows.storeNobodySpec.pre enc Tryz.prog Tryz.f3 Rows.storeNobodyRow.domain false w args ∧ laidMetH Tryz.prog Rows.storeNobodyRow.laid w) ∧ sizedMet enc Tryz.prog Tryz.f3 (OpenSpec.ofChange Rows.storeNobodySpec) false w args)
      (Rows.storeNobodySpec.post enc Tryz.prog Tryz.f3 false true false false) := by
  refine returnsInHanded_of_change_and (C := Tryz.checked) (X := fun w _ => laidMetH Tryz.prog Rows.storeNobodyRow.laid w) (fun _ _ _ hh h => h.of_heap hh) own started (by kernel_rfl) Tryz.func3
    (ChangeSpec.witness_shaped (enc := enc) (C := Tryz.checked) (os := os) (X := fun w _ => laidMetH Tryz.prog Rows.storeNobodyRow.laid w) false (World.laidAll Tryz.prog os Rows.storeNobodyRow.laid) #[((Tryz.prog.info? 50).bind (·.zero)).getD default] 12 (World.laidAll_os _ _ _)
      (World.shaped_of_ZipB (by kernel_rfl) (by kernel_rfl)) (by kernel_rfl) (by kernel_rfl) (by kernel_rfl)
      (by rw [MakeChecks.laidMetH_plain _ _ _ (by kernel_rfl)]; exact laidMet_laidAll _ (by kernel_rfl) (by kernel_rfl))) ?_
  intro W base args ds gs before hval hW _ hk _ _
  exact contract H enc W base args ds gs before hval hW hk
end Go.Proofs.YtlogoccciaopnaaGreatDoor.storeNobodyCardSaid
