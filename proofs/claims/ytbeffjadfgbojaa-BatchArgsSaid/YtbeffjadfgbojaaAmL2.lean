/- Names, fields, binds: what the leaves of the batch layer and of its reference compute. -/
import Derived.Test.YtbeffjadfgbojaaAmL1
namespace Am
open Go Go.Proofs
set_option maxRecDepth 100000

def badC (c : Int) : Bool := match ltI c 33 with
  | true => true
  | false => ltI 126 c

def isNameB (s : List UInt8) : Bool := match eqS s [] with
  | true => false
  | false => match ltI 32 (s.length : Int) with
    | true => false
    | false => !((s.map fun b => (b.toNat : Int)).any badC)

theorem g55_eq (c : Int) : g55 c = some (badC c) := by
  unfold g55 badC
  cases ltI c 33 <;> rfl

theorem g34_eq (a : List UInt8) : g34 a = some (isNameB a) := by
  unfold g34 isNameB
  cases eqS a [] with
  | true => rfl
  | false =>
    dsimp only
    cases h32 : ltI 32 (a.length : Int) with
    | true => rfl
    | false =>
      dsimp only
      have hl : (a.length : Int) ≤ 32 := by simpa [ltI] using h32
      have hxl : (a.map fun b => (b.toNat : Int)).length ≤ 32 := by simp; omega
      have key : ∀ xs : List Int, xs.length ≤ 32 → (loopOf step72_2 ((((), (), (xs.length : Int), (0 : Int), ()), (xs, ())) : D72_2.X)).bind (fun y => match y with | .inl z => some (!(leI (0 : Int) z.1.1)) | .inr _ => some true) = some (!(xs.any badC)) := by
       intro xs hxl
       have := any_loop (step := step72_2) xs (st := fun i => ((((), (), (xs.length : Int), (i : Int), ()), (xs, ())) : D72_2.X)) (y := .inr ((), ())) (p := badC) (z := fun i => .inl (((i : Int), ()), ())) (fun i c hc => by
          have hi := get_lt hc
          have hin : inB (i : Int) xs.length = true := by simp [inB, hi]
          simp only [step72_2, ltI_nat, decide_eq_true hi, hin, Int.toNat_natCast, hc, Option.bind_some, g55_eq, addI_one i (by omega)]
          show chk true _ = _
          cases badC c <;> rfl) (by
          simp only [step72_2, ltI_nat, Nat.lt_irrefl, decide_false])
       show (loopOf step72_2 (((), (), (xs.length : Int), ((0 : Nat) : Int), ()), (xs, ()))).bind _ = _
       rcases this with ⟨h1, k, h3⟩ | ⟨h1, h2⟩
       · rw [h3, h1]
         show some (!(leI (0 : Int) (k : Int))) = _
         rw [leI_zero]
       · rw [h2, h1]; rfl
      exact key _ hxl

theorem g50_eq (a : List UInt8) (h : a.length < 9223372036854775807) : g50 a = some (isNameB a) := by
  unfold g50 isNameB
  have := any_loop (step := step50_2) a (st := fun i => (((a, (i : Int), ()), ()) : D50_2.X)) (y := .inr ((a, ()), ()))
    (p := fun c => badC (c.toNat : Int)) (z := fun _ => .inl ((false, ()), ())) (fun i c hc => by
      have hi := get_lt hc
      simp only [step50_2, ltI_nat, decide_eq_true hi, ix_nat, hc, Option.bind_some, addI_one i (by omega)]
      unfold badC
      cases ltI (c.toNat : Int) 33 with
      | true => rfl
      | false => cases ltI 126 (c.toNat : Int) <;> rfl) (by
      simp only [step50_2, ltI_nat, Nat.lt_irrefl, decide_false])
  show (loopOf step50_2 ((a, ((0 : Nat) : Int), ()), ())).bind _ = _
  have hany : (a.map fun b => (b.toNat : Int)).any badC = a.any fun b => badC (b.toNat : Int) := by rw [List.any_map]; rfl
  rw [hany]
  rcases this with ⟨h1, k', h3⟩ | ⟨h1, h2⟩
  · rw [h3, h1]
    show some false = _
    cases eqS a [] with
    | true => rfl
    | false => cases ltI 32 (a.length : Int) <;> rfl
  · rw [h2, h1]
    show (match ltI (0 : Int) (a.length : Int) with | true => some (leI (a.length : Int) 32) | false => some false) = _
    cases a with
    | nil => rfl
    | cons c l =>
      have e1 : eqS (c :: l) [] = false := by simp [eqS]
      have e2 : ltI (0 : Int) ((c :: l).length : Int) = true := by unfold ltI; exact decide_eq_true (by simp only [List.length_cons]; omega)
      rw [e1, e2]
      by_cases h32 : (c :: l).length ≤ 32
      · have e3 : leI ((c :: l).length : Int) 32 = true := by unfold leI; exact decide_eq_true (by omega)
        have e4 : ltI 32 ((c :: l).length : Int) = false := by unfold ltI; exact decide_eq_false (by omega)
        rw [e3, e4]; rfl
      · have e3 : leI ((c :: l).length : Int) 32 = false := by unfold leI; exact decide_eq_false (by omega)
        have e4 : ltI 32 ((c :: l).length : Int) = true := by unfold ltI; exact decide_eq_true (by omega)
        rw [e3, e4]

theorem g35_eq (a : List (List UInt8)) (b : List UInt8) (h : a.length < 9223372036854775807) : g35 a b = some (a.any fun x => eqS b x) := by
  unfold g35 g56
  have := any_loop (step := step56_2) a (st := fun i => (((a, b, (a.length : Int), (i : Int), ()), ()) : D56_2.X)) (y := .inr ((), ()))
    (p := fun x => eqS b x) (z := fun i => .inl (((i : Int), ()), ())) (fun i x hx => by
      have hi := get_lt hx
      simp only [step56_2, ltI_nat, decide_eq_true hi, ix_nat, hx, Option.bind_some, addI_one i (by omega)]
      cases eqS b x <;> rfl) (by
      simp only [step56_2, ltI_nat, Nat.lt_irrefl, decide_false])
  show ((loopOf step56_2 ((a, b, (a.length : Int), ((0 : Nat) : Int), ()), ())).bind _).bind _ = _
  rcases this with ⟨h1, k', h3⟩ | ⟨h1, h2⟩
  · rw [h3, h1]
    show some (leI (0 : Int) (k' : Int)) = _
    rw [leI_zero]
  · rw [h2, h1]; rfl

theorem g36_eq (a : List Dbind) (b : Dbind) (h : a.length < 9223372036854775807) : g36 a (b, ()) = some (a.any fun x => eqS x.field b.field) := by
  unfold g36 g57
  have := any_loop (step := step57_2) a (st := fun i => (((a, (b, ()), (a.length : Int), (i : Int), ()), ()) : D57_2.X)) (y := .inr ((), ()))
    (p := fun x => eqS x.field b.field) (z := fun i => .inl (((i : Int), ()), ())) (fun i x hx => by
      have hi := get_lt hx
      simp only [step57_2, ltI_nat, decide_eq_true hi, ix_nat, hx, Option.bind_some, addI_one i (by omega)]
      cases eqS x.field b.field <;> rfl) (by
      simp only [step57_2, ltI_nat, Nat.lt_irrefl, decide_false])
  show ((loopOf step57_2 ((a, (b, ()), (a.length : Int), ((0 : Nat) : Int), ()), ())).bind _).bind _ = _
  rcases this with ⟨h1, k', h3⟩ | ⟨h1, h2⟩
  · rw [h3, h1]
    show some (leI (0 : Int) (k' : Int)) = _
    rw [leI_zero]
  · rw [h2, h1]; rfl

def fieldsL : List (List UInt8) := ([([97] : List UInt8), ([97, 116] : List UInt8), ([98] : List UInt8), ([100, 120] : List UInt8), ([100, 121] : List UInt8), ([103] : List UInt8), ([104] : List UInt8), ([105, 100] : List UInt8), ([111, 112, 97, 99, 105, 116, 121] : List UInt8), ([112, 97, 114, 97, 109, 48] : List UInt8), ([112, 97, 114, 97, 109, 49] : List UInt8), ([112, 97, 114, 97, 109, 50] : List UInt8), ([112, 97, 114, 97, 109, 51] : List UInt8), ([112, 97, 114, 101, 110, 116] : List UInt8), ([114] : List UInt8), ([116, 111] : List UInt8), ([118, 97, 108, 117, 101] : List UInt8), ([119] : List UInt8), ([120] : List UInt8), ([121] : List UInt8)])
theorem g15_eq : g15 = some fieldsL := rfl
theorem g16_eq : g16 = some fieldsL := rfl

theorem g51_eq (a : List UInt8) : g51 a = some (fieldsL.any fun x => eqS a x) := by
  unfold g51
  rw [g16_eq]
  show (loopOf step51_3 ((a, fieldsL, ((0 : Nat) : Int), ()), ())).bind _ = _
  have hlen : fieldsL.length = 20 := rfl
  generalize fieldsL = l at hlen
  have := any_loop (step := step51_3) l (st := fun i => (((a, l, (i : Int), ()), ()) : D51_3.X)) (y := .inr ((), ()))
    (p := fun x => eqS a x) (z := fun i => .inl ((true, ()), ())) (fun i x hx => by
      have hi := get_lt hx
      simp only [step51_3, ltI_nat, decide_eq_true hi, ix_nat, hx, Option.bind_some, addI_one i (by omega)]
      rw [eqS_comm x a]
      cases eqS a x <;> rfl) (by
      simp only [step51_3, ltI_nat, Nat.lt_irrefl, decide_false])
  rcases this with ⟨h1, k', h3⟩ | ⟨h1, h2⟩
  · rw [h3, h1]; rfl
  · rw [h2, h1]; rfl

/-- which parameter a field is; -1 for other fields -/
def indexB (s : List UInt8) : Int := match eqS s ([112, 97, 114, 97, 109, 48] : List UInt8) with
  | true => 0
  | false => match eqS s ([112, 97, 114, 97, 109, 49] : List UInt8) with
    | true => 1
    | false => match eqS s ([112, 97, 114, 97, 109, 50] : List UInt8) with
      | true => 2
      | false => match eqS s ([112, 97, 114, 97, 109, 51] : List UInt8) with
        | true => 3
        | false => -1

def out46 (y : Y46_2) : Option Int := match y with
  | .inl z => some z.1.1
  | .inr _ => some (-1)

theorem g46_eq (a : List UInt8) : g46 a = some (indexB a) := by
  unfold g46 indexB
  have s0 : step46_2 ((a, (0 : Int), ()), ()) = (match eqS a ([112, 97, 114, 97, 109, 48] : List UInt8) with | true => some (.inr (.inl (((0 : Int), ()), ()))) | false => some (.inl ((a, (1 : Int), ()), ()))) := by kernel_rfl
  have s1 : step46_2 ((a, (1 : Int), ()), ()) = (match eqS a ([112, 97, 114, 97, 109, 49] : List UInt8) with | true => some (.inr (.inl (((1 : Int), ()), ()))) | false => some (.inl ((a, (2 : Int), ()), ()))) := by kernel_rfl
  have s2 : step46_2 ((a, (2 : Int), ()), ()) = (match eqS a ([112, 97, 114, 97, 109, 50] : List UInt8) with | true => some (.inr (.inl (((2 : Int), ()), ()))) | false => some (.inl ((a, (3 : Int), ()), ()))) := by kernel_rfl
  have s3 : step46_2 ((a, (3 : Int), ()), ()) = (match eqS a ([112, 97, 114, 97, 109, 51] : List UInt8) with | true => some (.inr (.inl (((3 : Int), ()), ()))) | false => some (.inl ((a, (4 : Int), ()), ()))) := by kernel_rfl
  have s4 : step46_2 ((a, (4 : Int), ()), ()) = some (.inr (.inr ((), ()))) := by kernel_rfl
  have fin : ∀ (y : Y46_2), loopOf step46_2 (((a, (0 : Int), ()), ()) : D46_2.X) = some y → ∀ r : Int, out46 y = some r →
      (loopOf step46_2 (((a, (0 : Int), ()), ()) : D46_2.X)).bind out46 = some r := fun y h r hr => by rw [h]; exact hr
  cases h0 : eqS a ([112, 97, 114, 97, 109, 48] : List UInt8) with
  | true => rw [h0] at s0; exact fin _ (loop_inr s0) _ rfl
  | false =>
    rw [h0] at s0
    cases h1 : eqS a ([112, 97, 114, 97, 109, 49] : List UInt8) with
    | true => rw [h1] at s1; exact fin _ ((loop_inl s0).trans (loop_inr s1)) _ rfl
    | false =>
      rw [h1] at s1
      cases h2 : eqS a ([112, 97, 114, 97, 109, 50] : List UInt8) with
      | true => rw [h2] at s2; exact fin _ ((loop_inl s0).trans ((loop_inl s1).trans (loop_inr s2))) _ rfl
      | false =>
        rw [h2] at s2
        cases h3 : eqS a ([112, 97, 114, 97, 109, 51] : List UInt8) with
        | true => rw [h3] at s3; exact fin _ ((loop_inl s0).trans ((loop_inl s1).trans ((loop_inl s2).trans (loop_inr s3)))) _ rfl
        | false => rw [h3] at s3; exact fin _ ((loop_inl s0).trans ((loop_inl s1).trans ((loop_inl s2).trans ((loop_inl s3).trans (loop_inr s4))))) _ rfl

/-- the error of a bind -/
def bindE (a : Daction) (b : Dbind) (k : Nat) : Int := match isNameB b.param with
  | false => 13
  | true => match fieldsL.any fun x => eqS b.field x with
    | false => 9
    | true => match (a.binds.take k).any fun o => eqS o.field b.field with
      | true => 10
      | false => match leI (a.edit.node.params.length : Int) (indexB b.field) with
        | true => 2
        | false => 0

theorem g30_eq (a : Daction) (k : Nat) (b : Dbind) (hb : a.binds[k]? = some b) (hn : b.param.length < 9223372036854775807) (hl : a.binds.length < 9223372036854775807) : g30 a (k : Int) = some (bindE a b k) := by
  unfold g30 bindE
  rw [ix_nat, hb]
  simp only [Option.bind_some, g50_eq _ hn, g51_eq]
  cases isNameB b.param with
  | false => rfl
  | true =>
    dsimp only [Bool.not_true]
    cases (fieldsL.any fun x => eqS b.field x) with
    | false => rfl
    | true =>
      dsimp only [Bool.not_true]
      have hk := get_lt hb
      have hlen : (a.binds.take k).length = k := by simp; omega
      have := any_loop (step := step30_7) (a.binds.take k) (st := fun i => ((((k : Int), (), (), (i : Int), ()), (a, b, ())) : D30_7.X)) (y := .inr (((), (), ()), (a, b, ())))
        (p := fun x => eqS x.field b.field) (z := fun i => .inl (((10 : Int), ()), ())) (fun i x hx => by
          have hi := get_lt hx
          rw [hlen] at hi
          have hx' : a.binds[i]? = some x := by rw [List.getElem?_take] at hx; simpa [hi] using hx
          simp only [step30_7, ltI_nat, decide_eq_true hi, ix_nat, hx', Option.bind_some, addI_one i (by omega)]
          cases eqS x.field b.field <;> rfl) (by
          simp only [step30_7, hlen, ltI_nat, Nat.lt_irrefl, decide_false])
      show (loopOf step30_7 (((k : Int), (), (), ((0 : Nat) : Int), ()), (a, b, ()))).bind _ = _
      rcases this with ⟨h1, k', h3⟩ | ⟨h1, h2⟩
      · rw [h3, h1]; rfl
      · rw [h2, h1]
        show (g46 b.field).bind _ = _
        rw [g46_eq]
        simp only [Option.bind_some]
        show (match leI (a.edit.node.params.length : Int) (indexB b.field) with | true => some (2 : Int) | false => some 0) = _
        cases leI (a.edit.node.params.length : Int) (indexB b.field) <;> rfl

end Am
