/- WHAT IS PROVED: imageeditorlaw56.BatchArgs returns true for every action, every list of arguments and every other argument that there are, and leaves them as they were. CONDITIONS: none but those of the statement's own form (a slice or string is of at most 2^47 - 4096 bytes). -/
import Derived.Test.YtbeffjadfgbojaaAmB3
import Derived.Test.YtbeffjadfgbojaaAmL10
import Derived.WalkKit
import Derived.ProofKit
import Derived.OpenShut
import Derived.SizedLaws
import Derived.Handed
import Derived.JoinedOf
namespace Go.Proofs.Ytbeffjadfgbojaa.batchArgsSaid
open Go Go.Proofs Go.ChangeShapes Go.WideShapes Go.ChangeAt Go.RowKit Am
set_option maxRecDepth 100000

theorem own : ownKnob Try.prog.godebug = none := by kernel_rfl

theorem reads : ∀ t ∈ Try.f6.params.toList, Try.prog.readableRec t = true ∧ t < Try.prog.types.size := by
  rw [Try.params6]
  intro t ht
  rcases List.mem_cons.1 ht with rfl | ht
  · exact ⟨by kernel_rfl, of_decide_eq_true (by kernel_rfl)⟩
  rcases List.mem_cons.1 ht with rfl | ht
  · exact ⟨by kernel_rfl, of_decide_eq_true (by kernel_rfl)⟩
  · obtain rfl := List.mem_singleton.1 ht
    exact ⟨by kernel_rfl, of_decide_eq_true (by kernel_rfl)⟩

theorem contract (H : Type) (enc : TypeId × Value → H) (W : World) (base : Nat) (args : Array Value) (ds gs : List (DataW H)) (before : List MemPlace)
    (hval : ∀ (j : Nat) t v, Try.f6.params[j]? = some t → args[j]? = some v → Value.okWide Try.prog W .any base t v)
    (hW : DataW.Whole enc Try.prog Try.f6.params.toList Rows.batchArgsSpec.vars false W args.toList ds gs before) (hk : (DataW.weightsEach Try.prog (Try.f6.params.toList ++ Rows.batchArgsSpec.plain.varTypes Try.prog) (ds ++ gs)).all (· ≤ reachBytes) = true) :
    Calls Try.prog 6 args W fun e W' => ∃ v, e = .returned v ∧ Rows.batchArgsSpec.post enc Try.prog Try.f6 false true false false W args v W' := by
  have hW' := hW
  obtain ⟨p, q, hA0, hV, rfl, hfz, hnd⟩ := hW
  have hA : DataW.TrodAll enc Try.prog W 0 (fun _ => true) true Try.f6.params.toList args.toList ds p := hA0
  rw [Try.params6] at hA hval hk
  obtain ⟨v0, vs0, d0, ds0, p0, q0, hargs, rfl, rfl, h0, r0⟩ := trodAll_cons hA
  obtain ⟨v1, vs1, d1, ds1, p1, q1, rfl, rfl, rfl, h1, r1⟩ := trodAll_cons r0
  obtain ⟨v2, vs2, d2, ds2, p2, q2, rfl, rfl, rfl, h2, r2⟩ := trodAll_cons r1
  obtain ⟨rfl, rfl, rfl⟩ := trodAll_nil r2
  obtain rfl : args = #[v0, v1, v2] := by cases args; simp_all
  obtain ⟨rfl, rfl⟩ := trodVars_none hV
  have hw : ∀ (i : Nat) (t : TypeId) (d : DataW H), [51, 52, 73][i]? = some t → [d0, d1, d2][i]? = some d → ∀ n ∈ d.weights Try.prog t, n ≤ 140737488351232 := fun i t d ht hd n hn =>
    of_decide_eq_true (List.all_eq_true.1 hk n (weightsEach_mem (i := i) hn (by
      have hi := (List.getElem?_eq_some_iff.1 ht).1
      rw [List.getElem?_append_left hi]; exact ht) (by
      have hi := (List.getElem?_eq_some_iff.1 hd).1
      rw [List.getElem?_append_left hi]; exact hd)))
  obtain ⟨fs, hu⟩ : ∃ fs, Try.prog.underlying 51 = some (.struct fs) := ⟨_, Try.underlying51⟩
  obtain ⟨a, ha1, ha2⟩ := readArg_ty (G := E [] []) tis smallW hBytes hsh (c := Ty.action) (n := 8) (by kernel_rfl) hu (by kernel_rfl) (hval 0 51 v0 rfl rfl) h0 (hw 0 _ d0 rfl rfl)
  obtain ⟨l, hl1, hl2⟩ := readArg_sl (G := E [] []) tis smallW hBytes hsh (c := Ty.arg) (n := 8) (by kernel_rfl) Try.underlying52 (hval 1 52 v1 rfl rfl) h1 (hw 1 _ d1 rfl rfl)
  obtain ⟨fs2, hu2⟩ : ∃ fs, Try.prog.underlying 73 = some (.struct fs) := ⟨_, Try.underlying73⟩
  obtain ⟨o, ho1, _⟩ := readArg_ty (G := E [] []) tis smallW hBytes hsh (c := Ty.arg) (n := 8) (by kernel_rfl) hu2 (by kernel_rfl) (hval 2 73 v2 rfl rfl) h2 (hw 2 _ d2 rfl rfl)
  have hn : l.length * 24 ≤ 140737488351232 := (small_fsl hl2).1
  have hbn : a.binds.length * 32 ≤ 140737488351232 := (small_fsl (t := Ty.bind) (xs := a.binds) (ha2 (.fsl Ty.bind a.binds) (List.mem_of_getElem? (i := 84) (by kernel_rfl)))).1
  refine law_calls con6_ok (a, l, o, ()) (by kernel_rfl) (g6_eq a l o (fill_smallW ha2 hl2) hn (by omega)) (RelL.cons ha1 (RelL.cons hl1 (RelL.cons ho1 RelL.nil))) (fun W' hk' => ?_)
  exact ⟨_, rfl, law_post rfl (t0 := 4) Try.underlying4 (by kernel_rfl) laid_out reads hW' rfl hk'⟩

theorem lifted (os : Os) (started : os.Started) (H : Type) (enc : TypeId × Value → H) :
    ReturnsInHanded {} Try.checked os 6 .any (Rows.batchArgsSpec.pre6 enc Try.prog Try.f6 Rows.batchArgsRow.domain false) (Rows.batchArgsSpec.post enc Try.prog Try.f6 false true false false) := by
  refine returnsInHanded_of_change_sized (C := Try.checked) own started (by kernel_rfl) Try.func6
    (ChangeSpec.witness6 (enc := enc) (C := Try.checked) false ⟨#[], #[((Try.prog.info? 51).bind (·.zero)).getD default, .slice none 0 0, ((Try.prog.info? 73).bind (·.zero)).getD default], []⟩ 12 (by kernel_rfl) (by kernel_rfl) (by kernel_rfl) (by kernel_rfl)) ?_
  intro W base args ds gs before hval hW _ hk _
  exact contract H enc W base args ds gs before hval hW hk

theorem proved : Rows.BatchArgsSaid :=
  OpenClaim.holds_of_wide 6 Try.f6 rfl rfl rfl rfl rfl rfl rfl ⟨rfl, rfl, rfl, rfl, rfl⟩ rfl rfl rfl rfl rfl (by kernel_rfl) Try.func6 (by kernel_rfl)
    (of_decide_eq_true (by kernel_rfl)) (by unfold Func.isWrapper; first | (rw [if_pos (by decide +kernel)]; kernel_rfl) | (rw [if_neg (by decide +kernel)]; exact ⟨rfl, rfl⟩))
    (fun os started H enc _ => lifted os started H enc)
end Go.Proofs.Ytbeffjadfgbojaa.batchArgsSaid
