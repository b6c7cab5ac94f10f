/- The seat's types as they are read; what a bound on the readings gives. -/
import Derived.Test.YtbeffjadfgbojaaAmB2
import Derived.Test.YtbeffjadfgbojaaAmL7
import Derived.Test.YtbeffjadfgbojaaRows
namespace Am
open Go Go.Proofs
set_option maxRecDepth 100000

def cellEq : Cell Ty → Cell Ty → Bool
  | .int k, .int k' => IntKind.same k k'
  | .bool, .bool => true
  | .str, .str => true
  | .sl a, .sl b => decide (a = b)
  | _, _ => false

def cellsEq : List (Cell Ty) → List (Cell Ty) → Bool
  | [], [] => true
  | a :: l, b :: r => cellEq a b && cellsEq l r
  | _, _ => false

theorem cellEq_spec : ∀ {a b : Cell Ty}, cellEq a b = true → a = b
  | .int k, .int k', h => by
    have : k = k' := by cases k <;> cases k' <;> first | rfl | cases h
    rw [this]
  | .bool, .bool, _ => rfl
  | .str, .str, _ => rfl
  | .sl a, .sl b, h => by rw [of_decide_eq_true h]
  | .int _, .bool, h => by cases h
  | .int _, .str, h => by cases h
  | .int _, .sl _, h => by cases h
  | .bool, .int _, h => by cases h
  | .bool, .str, h => by cases h
  | .bool, .sl _, h => by cases h
  | .str, .int _, h => by cases h
  | .str, .bool, h => by cases h
  | .str, .sl _, h => by cases h
  | .sl _, .int _, h => by cases h
  | .sl _, .bool, h => by cases h
  | .sl _, .str, h => by cases h

theorem cellsEq_spec : ∀ {a b : List (Cell Ty)}, cellsEq a b = true → a = b
  | [], [], _ => rfl
  | a :: l, b :: r, h => by
    unfold cellsEq at h
    rw [Bool.and_eq_true] at h
    rw [cellEq_spec h.1, cellsEq_spec h.2]
  | [], _ :: _, h => by cases h
  | _ :: _, [], h => by cases h

noncomputable def shapeB (t : Nat) (i : TI UU) : Bool := match i.ty with
  | some c => match shapeOf (U := UU) tiTree.get 8 t with
    | some s => cellsEq s (tyShape c)
    | none => false
  | none => true

theorem shapes_ok : tiTree.all shapeB = true := by kernel_rfl

theorem hsh : ∀ (e : TypeId) (i : TI UU) (c : UU.T), (E [] []).ti e = some i → i.ty = some c → shapeOf (U := UU) (E [] []).ti 8 e = some (UU.shape c) := by
  intro e i c hi hc
  have h := tiTree.all_get shapes_ok hi
  unfold shapeB at h
  rw [hc] at h
  dsimp only at h
  split at h
  · rename_i s hs
    have := cellsEq_spec h
    subst this
    exact hs
  · cases h

theorem tis : TIs Try.prog (E [] []) := (E_ok (cons := []) (cuts := []) trivial).ti

/-! ## The bound -/
open Go.Proofs.Ytbeffjadfgbojaa in
theorem one_le {H : Type} (d : DataW H) : 1 ≤ Rows.uptoBulk d := by
  cases d with
  | lit l => cases l <;> simp [Rows.uptoBulk]
  | nil => simp [Rows.uptoBulk]
  | ptr d => simp [Rows.uptoBulk]
  | slice elems spare => simp [Rows.uptoBulk]
  | agg parts => simp [Rows.uptoBulk]
  | iface t d => simp [Rows.uptoBulk]
  | map entries => simp [Rows.uptoBulk]
  | held h => simp [Rows.uptoBulk]

open Go.Proofs.Ytbeffjadfgbojaa in
theorem bulk_part {H : Type} {d : DataW H} : ∀ {l : List (DataW H)}, d ∈ l → Rows.uptoBulk d ≤ Rows.uptoBulkAll l
  | x :: r, h => by
    simp only [Rows.uptoBulkAll]
    rcases List.mem_cons.1 h with h | h
    · subst h; omega
    · have := bulk_part h; omega

open Go.Proofs.Ytbeffjadfgbojaa in
theorem bulk_length {H : Type} : ∀ (l : List (DataW H)), l.length ≤ Rows.uptoBulkAll l
  | [] => by simp [Rows.uptoBulkAll]
  | x :: r => by have := one_le x; have := bulk_length r; simp only [Rows.uptoBulkAll, List.length_cons]; omega

open Go.Proofs.Ytbeffjadfgbojaa in
theorem smallD {H : Type} : SmallD (H := H) 1048576 (fun d => Rows.uptoBulk d ≤ 1048576) where
  str bs h := by simp only [Rows.uptoBulk] at h; omega
  slice es sp h := by
    simp only [Rows.uptoBulk] at h
    have := bulk_length es
    exact ⟨by omega, fun d hd => by have := bulk_part hd; omega⟩
  agg ps h := by
    simp only [Rows.uptoBulk] at h
    exact fun d hd => by have := bulk_part hd; omega

theorem small_fsl {N : Nat} {t : UU.T} {xs : List (UU.den t)} (h : SmallV (U := UU) N (.fsl t xs)) : xs.length ≤ N ∧ ∀ x ∈ xs, ∀ c ∈ enc t x, SmallV N c := by
  cases h with
  | fsl h1 h2 => exact ⟨h1, h2⟩
theorem small_str {N : Nat} {s : List UInt8} (h : SmallV (U := UU) N (.str s)) : s.length ≤ N := by cases h; assumption

theorem bind_small {x : Dbind} (h : ∀ c ∈ enc (U := UU) Ty.bind x, SmallV 1048576 c) : x.param.length < 9223372036854775807 := by
  have := small_str (h (.str x.param) (List.mem_of_getElem? (i := 1) (by kernel_rfl)))
  omega

theorem edit_small {a : Dedit} (h : ∀ c ∈ enc (U := UU) Ty.edit a, SmallV 1048576 c) : EditSm a where
  nmask := by have := (small_fsl (t := Ty.int) (xs := a.node.mask.v) (h (.fsl Ty.int a.node.mask.v) (List.mem_of_getElem? (i := 19) (by kernel_rfl)))).1; exact Nat.le_trans this (by decide)
  nimage := by have := (small_fsl (t := Ty.pixel) (xs := a.node.image.pix) (h (.fsl Ty.pixel a.node.image.pix) (List.mem_of_getElem? (i := 29) (by kernel_rfl)))).1; exact Nat.le_trans this (by decide)
  params := by have := (small_fsl (t := Ty.int) (xs := a.node.params) (h (.fsl Ty.int a.node.params) (List.mem_of_getElem? (i := 35) (by kernel_rfl)))).1; exact Nat.le_trans this (by decide)
  stops := by have := (small_fsl (t := Ty.stop) (xs := a.node.stops) (h (.fsl Ty.stop a.node.stops) (List.mem_of_getElem? (i := 37) (by kernel_rfl)))).1; exact Nat.le_trans this (by decide)
  segs := by have := (small_fsl (t := Ty.seg) (xs := a.node.segs) (h (.fsl Ty.seg a.node.segs) (List.mem_of_getElem? (i := 38) (by kernel_rfl)))).1; exact Nat.le_trans this (by decide)
  warp := by have := (small_fsl (t := Ty.point) (xs := a.node.warp.d) (h (.fsl Ty.point a.node.warp.d) (List.mem_of_getElem? (i := 50) (by kernel_rfl)))).1; exact Nat.le_trans this (by decide)
  mask := by have := (small_fsl (t := Ty.int) (xs := a.mask.v) (h (.fsl Ty.int a.mask.v) (List.mem_of_getElem? (i := 53) (by kernel_rfl)))).1; exact Nat.le_trans this (by decide)
  image := by have := (small_fsl (t := Ty.pixel) (xs := a.image.pix) (h (.fsl Ty.pixel a.image.pix) (List.mem_of_getElem? (i := 56) (by kernel_rfl)))).1; exact Nat.le_trans this (by decide)
  samples := by have := (small_fsl (t := Ty.sample) (xs := a.samples) (h (.fsl Ty.sample a.samples) (List.mem_of_getElem? (i := 73) (by kernel_rfl)))).1; exact Nat.le_trans this (by decide)
  dynamics := by have := (small_fsl (t := Ty.dynamic) (xs := a.brush.dynamics) (h (.fsl Ty.dynamic a.brush.dynamics) (List.mem_of_getElem? (i := 71) (by kernel_rfl)))).1; exact Nat.le_trans this (by decide)
  curves := fun x hx => by
    have h1 := (small_fsl (t := Ty.dynamic) (xs := a.brush.dynamics) (h (.fsl Ty.dynamic a.brush.dynamics) (List.mem_of_getElem? (i := 71) (by kernel_rfl)))).2 x hx
    have := (small_fsl (t := Ty.knot) (xs := x.curve) (h1 (.fsl Ty.knot x.curve) (List.mem_of_getElem? (i := 2) (by kernel_rfl)))).1
    exact Nat.le_trans this (by decide)

theorem action_small {a : Daction} (h : ∀ c ∈ enc (U := UU) Ty.action a, SmallV 1048576 c) : EditSm a.edit where
  nmask := by have := (small_fsl (t := Ty.int) (xs := a.edit.node.mask.v) (h (.fsl Ty.int a.edit.node.mask.v) (List.mem_of_getElem? (i := 19) (by kernel_rfl)))).1; exact Nat.le_trans this (by decide)
  nimage := by have := (small_fsl (t := Ty.pixel) (xs := a.edit.node.image.pix) (h (.fsl Ty.pixel a.edit.node.image.pix) (List.mem_of_getElem? (i := 29) (by kernel_rfl)))).1; exact Nat.le_trans this (by decide)
  params := by have := (small_fsl (t := Ty.int) (xs := a.edit.node.params) (h (.fsl Ty.int a.edit.node.params) (List.mem_of_getElem? (i := 35) (by kernel_rfl)))).1; exact Nat.le_trans this (by decide)
  stops := by have := (small_fsl (t := Ty.stop) (xs := a.edit.node.stops) (h (.fsl Ty.stop a.edit.node.stops) (List.mem_of_getElem? (i := 37) (by kernel_rfl)))).1; exact Nat.le_trans this (by decide)
  segs := by have := (small_fsl (t := Ty.seg) (xs := a.edit.node.segs) (h (.fsl Ty.seg a.edit.node.segs) (List.mem_of_getElem? (i := 38) (by kernel_rfl)))).1; exact Nat.le_trans this (by decide)
  warp := by have := (small_fsl (t := Ty.point) (xs := a.edit.node.warp.d) (h (.fsl Ty.point a.edit.node.warp.d) (List.mem_of_getElem? (i := 50) (by kernel_rfl)))).1; exact Nat.le_trans this (by decide)
  mask := by have := (small_fsl (t := Ty.int) (xs := a.edit.mask.v) (h (.fsl Ty.int a.edit.mask.v) (List.mem_of_getElem? (i := 53) (by kernel_rfl)))).1; exact Nat.le_trans this (by decide)
  image := by have := (small_fsl (t := Ty.pixel) (xs := a.edit.image.pix) (h (.fsl Ty.pixel a.edit.image.pix) (List.mem_of_getElem? (i := 56) (by kernel_rfl)))).1; exact Nat.le_trans this (by decide)
  samples := by have := (small_fsl (t := Ty.sample) (xs := a.edit.samples) (h (.fsl Ty.sample a.edit.samples) (List.mem_of_getElem? (i := 73) (by kernel_rfl)))).1; exact Nat.le_trans this (by decide)
  dynamics := by have := (small_fsl (t := Ty.dynamic) (xs := a.edit.brush.dynamics) (h (.fsl Ty.dynamic a.edit.brush.dynamics) (List.mem_of_getElem? (i := 71) (by kernel_rfl)))).1; exact Nat.le_trans this (by decide)
  curves := fun x hx => by
    have h1 := (small_fsl (t := Ty.dynamic) (xs := a.edit.brush.dynamics) (h (.fsl Ty.dynamic a.edit.brush.dynamics) (List.mem_of_getElem? (i := 71) (by kernel_rfl)))).2 x hx
    have := (small_fsl (t := Ty.knot) (xs := x.curve) (h1 (.fsl Ty.knot x.curve) (List.mem_of_getElem? (i := 2) (by kernel_rfl)))).1
    exact Nat.le_trans this (by decide)

theorem binds_small {a : Daction} (h : ∀ c ∈ enc (U := UU) Ty.action a, SmallV 1048576 c) : BindsLen a := fun b hb => bind_small ((small_fsl (t := Ty.bind) (xs := a.binds) (h (.fsl Ty.bind a.binds) (List.mem_of_getElem? (i := 84) (by kernel_rfl)))).2 b hb)

theorem fill_small {a : Daction} {args : List Darg} (h : ∀ c ∈ enc (U := UU) Ty.action a, SmallV 1048576 c) (h2 : SmallV (U := UU) 1048576 (.fsl Ty.arg args)) : FillSm a args :=
  ⟨action_small h, Nat.le_trans (small_fsl h2).1 (by decide), binds_small h⟩

theorem rec_small {l : List Dedit} {binds : List (List Dbind)} (h : SmallV (U := UU) 1048576 (.fsl Ty.edit l)) (h2 : SmallV (U := UU) 1048576 (.fsl Ty.l_bind binds)) : RecSm l binds where
  len := Nat.le_trans (small_fsl h).1 (by decide)
  edits := fun e he => edit_small ((small_fsl h).2 e he)
  each := fun b hb => Nat.le_trans (small_fsl (t := Ty.bind) (xs := b) ((small_fsl h2).2 b hb (.fsl Ty.bind b) (List.mem_of_getElem? (i := 0) (by kernel_rfl)))).1 (by decide)
  names := fun b hb x hx => bind_small ((small_fsl (t := Ty.bind) (xs := b) ((small_fsl h2).2 b hb (.fsl Ty.bind b) (List.mem_of_getElem? (i := 0) (by kernel_rfl)))).2 x hx)

theorem laid_out : laidOutB Try.prog = true := by kernel_rfl
end Am
