/- The laws' functions answer true. -/
import Derived.Test.YtbeffjadfgbojaaAmC5
namespace Am
open Go Go.Proofs
set_option maxRecDepth 100000

theorem g3_eq (a : Daction) (args : List Darg) (h : FillSm a args) : g3 a args = some true := by
  unfold g3
  rw [g7_eq a args h, g8_eq a args h]
  have h9 := g9_self _ (fillR_sm a args h).len
  simp only [Option.bind_some, eqI_self, h9]
  rfl

theorem recordR_len (l : List Dedit) (binds : List (List Dbind)) (h : RecSm l binds) : (recordR l binds).1.length < 9223372036854775807 ∧ ∀ x ∈ (recordR l binds).1, EditLen x.edit ∧ x.binds.length < 9223372036854775807 := by
  unfold recordR
  cases eqI (l.length : Int) (binds.length : Int) with
  | false => exact ⟨by simp, by simp⟩
  | true =>
    cases eqI (checkE (zipA l binds)) 0 with
    | false => exact ⟨by simp, by simp⟩
    | true =>
      have hl := h.len
      refine ⟨by show (zipA l binds).length < _; unfold zipA; rw [List.length_zipWith]; omega, fun x hx => ?_⟩
      obtain ⟨h1, h2⟩ := zipA_mem hx
      have := h.each _ h2
      exact ⟨(h.edits _ h1).len, by omega⟩

theorem g4_eq (l : List Dedit) (binds : List (List Dbind)) (h : RecSm l binds) : g4 l binds = some true := by
  unfold g4
  rw [g11_eq l binds h, g12_eq l binds h]
  obtain ⟨h1, h2⟩ := recordR_len l binds h
  have h13 := g13_self _ h1 h2
  simp only [Option.bind_some, eqI_self, h13]
  rfl

end Am
