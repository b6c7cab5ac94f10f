/- WHAT IS PROVED: imageeditorlaw56.BatchChecks returns true for every list of actions that is of bulk at most 1048576, and leaves it as it was. CONDITION: that bound. -/
import Derived.Test.YtbeffjadfgbojaaAmB3
import Derived.Test.YtbeffjadfgbojaaAmL9
import Derived.WalkKit
import Derived.ProofKit
import Derived.OpenShut
import Derived.JoinedCond
namespace Go.Proofs.Ytbeffjadfgbojaa.batchChecks
open Go Go.Proofs Go.ChangeShapes Go.WideShapes Go.ChangeAt Go.RowKit Am
set_option maxRecDepth 100000

theorem own : ownKnob Try.prog.godebug = none := by kernel_rfl

theorem reads : ∀ t ∈ Try.f5.params.toList, Try.prog.readableRec t = true ∧ t < Try.prog.types.size := by
  rw [Try.params5]
  intro t ht
  obtain rfl := List.mem_singleton.1 ht
  exact ⟨by kernel_rfl, of_decide_eq_true (by kernel_rfl)⟩

theorem acts_small {l : List Daction} (h : SmallV (U := UU) 1048576 (.fsl Ty.action l)) : ActsSm l where
  len := Nat.le_trans (small_fsl h).1 (by decide)
  binds := fun a ha => Nat.le_trans (small_fsl (t := Ty.bind) (xs := a.binds) ((small_fsl h).2 a ha (.fsl Ty.bind a.binds) (List.mem_of_getElem? (i := 84) (by kernel_rfl)))).1 (by decide)
  names := fun a ha => binds_small ((small_fsl h).2 a ha)

theorem contract (H : Type) (enc : TypeId × Value → H) (W : World) (base : Nat) (args : Array Value) (ds gs : List (DataW H)) (before : List MemPlace)
    (hval : ∀ (j : Nat) t v, Try.f5.params[j]? = some t → args[j]? = some v → Value.okWide Try.prog W .any base t v)
    (hW : DataW.Whole enc Try.prog Try.f5.params.toList Rows.batchChecksSpec.vars false W args.toList ds gs before) (hk : Rows.uptoSmall H (ds ++ gs) = true) :
    Calls Try.prog 5 args W fun e W' => ∃ v, e = .returned v ∧ Rows.batchChecksSpec.post enc Try.prog Try.f5 false true false false W args v W' := by
  have hW' := hW
  obtain ⟨p, q, hA0, hV, rfl, hfz, hnd⟩ := hW
  have hA : DataW.TrodAll enc Try.prog W 0 (fun _ => true) true Try.f5.params.toList args.toList ds p := hA0
  rw [Try.params5] at hA hval
  obtain ⟨v0, vs0, d0, ds0, p0, q0, hargs, rfl, rfl, h0, r0⟩ := trodAll_cons hA
  obtain ⟨rfl, rfl, rfl⟩ := trodAll_nil r0
  obtain rfl : args = #[v0] := by cases args; simp_all
  obtain ⟨rfl, rfl⟩ := trodVars_none hV
  have hb : Rows.uptoBulkAll [d0] ≤ 1048576 := of_decide_eq_true hk
  simp only [Rows.uptoBulkAll] at hb
  obtain ⟨l, hl1, hl2⟩ := readArg_sl (G := E [] []) tis smallD hsh (c := Ty.action) (n := 8) (by kernel_rfl) Try.underlying61 (hval 0 61 v0 rfl rfl) h0 (by show Rows.uptoBulk d0 ≤ _; omega)
  refine law_calls con5_ok (l, ()) (by kernel_rfl) (g5_eq l (acts_small hl2)) (RelL.cons hl1 RelL.nil) (fun W' hk' => ?_)
  exact ⟨_, rfl, law_post rfl (t0 := 4) Try.underlying4 (by kernel_rfl) laid_out reads hW' rfl hk'⟩

theorem lifted (os : Os) (started : os.Started) (H : Type) (enc : TypeId × Value → H) (F : Stop.Interp) :
    ReturnsInHanded {} Try.checked os 5 .any ((Rows.OpenSpec.upto Rows.batchChecksSpec).pre6 enc Try.prog Try.f5 Rows.batchChecksUptoRow.domain false) (((Rows.OpenSpec.upto Rows.batchChecksSpec).at F).post enc Try.prog Try.f5 false true false false) := by
  refine returnsInHanded_of_cond (C := Try.checked) (s := Rows.OpenSpec.upto Rows.batchChecksSpec) (k := Rows.uptoSmall) rfl own started (by kernel_rfl) Try.func5
    (OpenSpec.witness (enc := enc) (C := Try.checked) (s := Rows.OpenSpec.upto Rows.batchChecksSpec) (k := Rows.uptoSmall) rfl false ⟨#[], #[.slice none 0 0], []⟩ 12 (by kernel_rfl) (by kernel_rfl) (by kernel_rfl)
      (x := ((DataW.trodAll enc Try.prog (default : World) 0 (fun _ => true) true 12 Try.f5.params.toList [.slice none 0 0]).getD ([], []) |>.1, [], [])) (by kernel_rfl) rfl (by kernel_rfl)) ?_
  intro W base args ds gs before hval hW _ hk _
  exact contract H enc W base args ds gs before hval hW hk

theorem proved : Rows.BatchChecksUptoSaid :=
  OpenClaim.holds_of_cond 5 Try.f5 rfl rfl rfl rfl rfl rfl rfl ⟨rfl, rfl, rfl, rfl, rfl⟩ rfl rfl rfl rfl rfl (by kernel_rfl) Try.func5 (by kernel_rfl)
    (of_decide_eq_true (by kernel_rfl)) (by unfold Func.isWrapper; first | (rw [if_pos (by decide +kernel)]; kernel_rfl) | (rw [if_neg (by decide +kernel)]; exact ⟨rfl, rfl⟩))
    (fun os started H enc _ F => lifted os started H enc F)
end Go.Proofs.Ytbeffjadfgbojaa.batchChecks
