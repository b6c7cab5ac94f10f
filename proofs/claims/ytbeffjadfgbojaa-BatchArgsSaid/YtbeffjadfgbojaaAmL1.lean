/- Equal is equal: what the functions 'same' say of a value and itself. -/
import Derived.Test.YtbeffjadfgbojaaAmL0
import Derived.Test.YtbeffjadfgbojaaAmC2
namespace Am
open Go Go.Proofs

theorem g48_self (a : List Int) (h : a.length < 9223372036854775807) : g48 a a = some true := by
  unfold g48
  rw [eqI_self]
  have := calm_loop (step := step48_4) a.length (st := fun i => (((a, a, (i : Int), ()), ()) : D48_4.X)) (y := .inr ((), ())) (fun i hi => by
    simp only [step48_4, ltI_nat, decide_eq_true hi, ix_nat, List.getElem?_eq_getElem hi, Option.bind_some, eqI_self, Bool.not_true, addI_one i (by omega)]) (by
    simp only [step48_4, ltI_nat, Nat.lt_irrefl, decide_false])
  show (loopOf step48_4 ((a, a, ((0 : Nat) : Int), ()), ())).bind _ = _
  rw [this]; rfl

theorem g49_self (a : List Dknot) (h : a.length < 9223372036854775807) : g49 a a = some true := by
  unfold g49
  rw [eqI_self]
  have := calm_loop (step := step49_4) a.length (st := fun i => (((a, a, (i : Int), ()), ()) : D49_4.X)) (y := .inr ((), ())) (fun i hi => by
    simp only [step49_4, ltI_nat, decide_eq_true hi, ix_nat, List.getElem?_eq_getElem hi, Option.bind_some, eqI_self, Bool.and_self, Bool.not_true, addI_one i (by omega)]) (by
    simp only [step49_4, ltI_nat, Nat.lt_irrefl, decide_false])
  show (loopOf step49_4 ((a, a, ((0 : Nat) : Int), ()), ())).bind _ = _
  rw [this]; rfl

theorem g58_self (a : List Dstop) (h : a.length < 9223372036854775807) : g58 a a = some true := by
  unfold g58
  rw [eqI_self]
  have := calm_loop (step := step58_4) a.length (st := fun i => (((a, a, (i : Int), ()), ()) : D58_4.X)) (y := .inr ((), ())) (fun i hi => by
    simp only [step58_4, ltI_nat, decide_eq_true hi, ix_nat, List.getElem?_eq_getElem hi, Option.bind_some, eqI_self, Bool.and_self, Bool.not_true, addI_one i (by omega)]) (by
    simp only [step58_4, ltI_nat, Nat.lt_irrefl, decide_false])
  show (loopOf step58_4 ((a, a, ((0 : Nat) : Int), ()), ())).bind _ = _
  rw [this]; rfl

theorem g59_self (a : List Dseg) (h : a.length < 9223372036854775807) : g59 a a = some true := by
  unfold g59
  rw [eqI_self]
  have := calm_loop (step := step59_4) a.length (st := fun i => (((a, a, (i : Int), ()), ()) : D59_4.X)) (y := .inr ((), ())) (fun i hi => by
    simp only [step59_4, ltI_nat, decide_eq_true hi, ix_nat, List.getElem?_eq_getElem hi, Option.bind_some, eqI_self, Bool.and_self, Bool.not_true, addI_one i (by omega)]) (by
    simp only [step59_4, ltI_nat, Nat.lt_irrefl, decide_false])
  show (loopOf step59_4 ((a, a, ((0 : Nat) : Int), ()), ())).bind _ = _
  rw [this]; rfl

theorem g14_self (a : List (List UInt8)) (h : a.length < 9223372036854775807) : g14 a a = some true := by
  unfold g14
  rw [eqI_self]
  have := calm_loop (step := step14_4) a.length (st := fun i => (((a, a, (i : Int), ()), ()) : D14_4.X)) (y := .inr ((), ())) (fun i hi => by
    simp only [step14_4, ltI_nat, decide_eq_true hi, ix_nat, List.getElem?_eq_getElem hi, Option.bind_some, eqS_self, Bool.and_self, Bool.not_true, addI_one i (by omega)]) (by
    simp only [step14_4, ltI_nat, Nat.lt_irrefl, decide_false])
  show (loopOf step14_4 ((a, a, ((0 : Nat) : Int), ()), ())).bind _ = _
  rw [this]; rfl

theorem g60_self (a : Dwarp) (h : a.d.length < 9223372036854775807) : g60 a a = some true := by
  unfold g60
  simp only [eqI_self, Bool.not_true]
  have := calm_loop (step := step60_4) a.d.length (st := fun i => ((((), (), (i : Int), ()), (a, a, ())) : D60_4.X)) (y := .inr ((), ())) (fun i hi => by
    simp only [step60_4, ltI_nat, decide_eq_true hi, ix_nat, List.getElem?_eq_getElem hi, Option.bind_some, eqI_self, Bool.and_self, Bool.not_true, addI_one i (by omega)]) (by
    simp only [step60_4, ltI_nat, Nat.lt_irrefl, decide_false])
  show (loopOf step60_4 (((), (), ((0 : Nat) : Int), ()), (a, a, ()))).bind _ = _
  rw [this]; rfl

theorem g27_self (a : Dimage) (h : a.pix.length < 9223372036854775807) : g27 a a = some true := by
  unfold g27
  simp only [eqI_self, Bool.not_true]
  have := calm_loop (step := step27_4) a.pix.length (st := fun i => ((((), (), (i : Int), ()), (a, a, ())) : D27_4.X)) (y := .inr ((), ())) (fun i hi => by
    simp only [step27_4, ltI_nat, decide_eq_true hi, ix_nat, List.getElem?_eq_getElem hi, Option.bind_some, eqI_self, Bool.and_self, Bool.not_true, addI_one i (by omega)]) (by
    simp only [step27_4, ltI_nat, Nat.lt_irrefl, decide_false])
  show (loopOf step27_4 (((), (), ((0 : Nat) : Int), ()), (a, a, ()))).bind _ = _
  rw [this]; rfl

theorem g26_self (a : Dmask) (h : a.v.length < 9223372036854775807) : g26 a a = some true := by
  unfold g26
  simp only [eqI_self, g48_self _ h, Option.bind_some]

theorem g28_self (a : Dbrush) (h : a.dynamics.length < 9223372036854775807) (h2 : ∀ x ∈ a.dynamics, x.curve.length < 9223372036854775807) : g28 a a = some true := by
  unfold g28
  simp only [eqI_self, eqB_self, Bool.not_true, Bool.and_self]
  have := calm_loop (step := step28_4) a.dynamics.length (st := fun i => ((((), (), (i : Int), ()), (a, a, ())) : D28_4.X)) (y := .inr ((), ())) (fun i hi => by
    simp only [step28_4, ltI_nat, decide_eq_true hi, ix_nat, List.getElem?_eq_getElem hi, Option.bind_some, eqI_self, Bool.and_self, Bool.not_true, addI_one i (by omega), g49_self _ (h2 _ (List.getElem_mem hi))]) (by
    simp only [step28_4, ltI_nat, Nat.lt_irrefl, decide_false])
  show (loopOf step28_4 (((), (), ((0 : Nat) : Int), ()), (a, a, ()))).bind _ = _
  rw [this]; rfl

/-- all slices are shorter than the machine can count -/
structure NodeLen (a : Dnode) : Prop where
  mask : a.mask.v.length < 9223372036854775807
  image : a.image.pix.length < 9223372036854775807
  params : a.params.length < 9223372036854775807
  stops : a.stops.length < 9223372036854775807
  segs : a.segs.length < 9223372036854775807
  warp : a.warp.d.length < 9223372036854775807

structure EditLen (a : Dedit) : Prop where
  node : NodeLen a.node
  mask : a.mask.v.length < 9223372036854775807
  image : a.image.pix.length < 9223372036854775807
  samples : a.samples.length < 9223372036854775807
  dynamics : a.brush.dynamics.length < 9223372036854775807
  curves : ∀ x ∈ a.brush.dynamics, x.curve.length < 9223372036854775807

theorem g47_self (a : Dnode) (h : NodeLen a) : g47 a a = some true := by
  unfold g47
  simp only [eqI_self, eqS_self, eqB_self, Bool.and_self, g27_self _ h.image, g48_self _ h.params, g58_self _ h.stops, g59_self _ h.segs, g60_self _ h.warp, Option.bind_some]

theorem g25_self (a : Dnode) (h : NodeLen a) : g25 a a = some true := by
  unfold g25
  simp only [eqI_self, eqS_self, eqB_self, Bool.and_self, g26_self _ h.mask, g47_self _ h, Option.bind_some]

theorem g9_self (a : Dedit) (h : EditLen a) : g9 a a = some true := by
  unfold g9
  simp only [eqI_self, Bool.not_true]
  have := calm_loop (step := step9_4) a.samples.length (st := fun i => ((((), (), (i : Int), ()), (a, a, ())) : D9_4.X)) (y := .inr (((), (), ()), (a, a, ()))) (fun i hi => by
    have := h.samples
    simp only [step9_4, ltI_nat, decide_eq_true hi, ix_nat, List.getElem?_eq_getElem hi, Option.bind_some, eqI_self, Bool.and_self, Bool.not_true, addI_one i (by omega)]) (by
    simp only [step9_4, ltI_nat, Nat.lt_irrefl, decide_false])
  show (loopOf step9_4 (((), (), ((0 : Nat) : Int), ()), (a, a, ()))).bind _ = _
  rw [this]
  simp only [Option.bind_some, eqI_self, eqS_self, eqB_self, Bool.and_self, g25_self _ h.node, g26_self _ h.mask, g27_self _ h.image, g28_self _ h.dynamics h.curves]

theorem g13_self (a : List Daction) (h : a.length < 9223372036854775807) (h2 : ∀ x ∈ a, EditLen x.edit ∧ x.binds.length < 9223372036854775807) : g13 a a = some true := by
  unfold g13
  rw [eqI_self]
  have := calm_loop (step := step13_4) a.length (st := fun i => (((a, a, (i : Int), ()), ()) : D13_4.X)) (y := .inr ((), ())) (fun i hi => by
    obtain ⟨q1, q2⟩ := h2 _ (List.getElem_mem hi)
    have in1 := calm_loop (step := step13_9) a[i].binds.length (st := fun j => (((a, a, (i : Int), (j : Int), ()), ()) : D13_9.X)) (y := .inr ((a, a, (i : Int), ()), ())) (fun j hj => by
      simp only [step13_9, ltI_nat, ix_nat, List.getElem?_eq_getElem hi, List.getElem?_eq_getElem hj, Option.bind_some, decide_eq_true hj, eqS_self, Bool.and_self, Bool.not_true, addI_one j (by omega)]) (by
      simp only [step13_9, ltI_nat, ix_nat, List.getElem?_eq_getElem hi, Option.bind_some, Nat.lt_irrefl, decide_false])
    have in2 : loopOf step13_9 ((a, a, (i : Int), (0 : Int), ()), ()) = some (.inr ((a, a, (i : Int), ()), ())) := in1
    simp only [step13_4, ltI_nat, decide_eq_true hi, ix_nat, List.getElem?_eq_getElem hi, Option.bind_some, g9_self _ q1, Bool.not_true, eqI_self, in2, addI_one i (by omega)]) (by
    simp only [step13_4, ltI_nat, Nat.lt_irrefl, decide_false])
  show (loopOf step13_4 ((a, a, ((0 : Nat) : Int), ()), ())).bind _ = _
  rw [this]; rfl

end Am
