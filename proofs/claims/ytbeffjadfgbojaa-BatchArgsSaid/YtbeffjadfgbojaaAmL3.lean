/- Actions: what single and Check of the batch layer and of its reference compute. -/
import Derived.Test.YtbeffjadfgbojaaAmL2
namespace Am
open Go Go.Proofs
set_option maxRecDepth 100000

theorem field_cases {s : List UInt8} (h : (fieldsL.any fun x => eqS s x) = true) : s = [97] ∨ s = [97, 116] ∨ s = [98] ∨ s = [100, 120] ∨ s = [100, 121] ∨ s = [103] ∨ s = [104] ∨ s = [105, 100] ∨ s = [111, 112, 97, 99, 105, 116, 121] ∨ s = [112, 97, 114, 97, 109, 48] ∨ s = [112, 97, 114, 97, 109, 49] ∨ s = [112, 97, 114, 97, 109, 50] ∨ s = [112, 97, 114, 97, 109, 51] ∨ s = [112, 97, 114, 101, 110, 116] ∨ s = [114] ∨ s = [116, 111] ∨ s = [118, 97, 108, 117, 101] ∨ s = [119] ∨ s = [120] ∨ s = [121] := by
  simp only [fieldsL, List.any_cons, List.any_nil, Bool.or_eq_true, eqS_iff, Bool.false_eq_true, or_false] at h
  exact h

theorem leI_neg (n : Nat) : leI (n : Int) (-1) = false := by unfold leI; exact decide_eq_false (by omega)
theorem leI_not (n k : Nat) : leI (n : Int) (k : Int) = !(ltI (k : Int) (n : Int)) := by
  rw [leI_nat, ltI_nat]
  by_cases h : k < n
  · rw [decide_eq_true h, decide_eq_false (by omega)]; rfl
  · rw [decide_eq_false h, decide_eq_true (by omega)]; rfl

/-- an error ends a loop -/
def errOr {X Y : Type} (e : Int) (z : Int → Y) (n : X) : X ⊕ Y := match eqI e 0 with
  | true => .inl n
  | false => .inr (z e)

theorem step21_eq (a : Daction) (i : Nat) (b : Dbind) (hb : a.binds[i]? = some b) (hl : a.binds.length < 9223372036854775807) :
    step21_4 (((((), a.binds, (a.binds.length : Int), (i : Int), ()), (a, ())) : D21_4.X)) = some (errOr (bindE a b i) (fun e => .inl ((e, ()), ())) (((), a.binds, (a.binds.length : Int), ((i + 1 : Nat) : Int), ()), (a, ()))) := by
  have hi := get_lt hb
  have hup : upTo (i : Int) a.binds.length = true := by simp [upTo]; omega
  have hpl : (a.binds.take i).length < 9223372036854775807 := by simp; omega
  simp only [step21_4, ltI_nat, decide_eq_true hi, ix_nat, hb, Option.bind_some, g34_eq, addI_one i (by omega), g15_eq, g35_eq fieldsL b.field (by decide), hup, Int.toNat_natCast, g36_eq _ b hpl]
  unfold bindE
  cases isNameB b.param with
  | false => rfl
  | true =>
    dsimp only [Bool.not_true]
    cases hf : (fieldsL.any fun x => eqS b.field x) with
    | false => rfl
    | true =>
      dsimp only [Bool.not_true]
      show chk true _ = _
      show (match ((a.binds.take i).any fun x => eqS x.field b.field) with | true => _ | false => _) = _
      cases ((a.binds.take i).any fun x => eqS x.field b.field) with
      | true => rfl
      | false =>
        dsimp only
        obtain ⟨fld, par⟩ := b
        dsimp only at hf ⊢
        generalize a.edit.node.params = ps
        rcases field_cases hf with rfl | rfl | rfl | rfl | rfl | rfl | rfl | rfl | rfl | rfl | rfl | rfl | rfl | rfl | rfl | rfl | rfl | rfl | rfl | rfl
        · show some _ = some (errOr (match leI (ps.length : Int) (-1) with | true => 2 | false => 0) _ _)
          rw [leI_neg]; rfl
        · show some _ = some (errOr (match leI (ps.length : Int) (-1) with | true => 2 | false => 0) _ _)
          rw [leI_neg]; rfl
        · show some _ = some (errOr (match leI (ps.length : Int) (-1) with | true => 2 | false => 0) _ _)
          rw [leI_neg]; rfl
        · show some _ = some (errOr (match leI (ps.length : Int) (-1) with | true => 2 | false => 0) _ _)
          rw [leI_neg]; rfl
        · show some _ = some (errOr (match leI (ps.length : Int) (-1) with | true => 2 | false => 0) _ _)
          rw [leI_neg]; rfl
        · show some _ = some (errOr (match leI (ps.length : Int) (-1) with | true => 2 | false => 0) _ _)
          rw [leI_neg]; rfl
        · show some _ = some (errOr (match leI (ps.length : Int) (-1) with | true => 2 | false => 0) _ _)
          rw [leI_neg]; rfl
        · show some _ = some (errOr (match leI (ps.length : Int) (-1) with | true => 2 | false => 0) _ _)
          rw [leI_neg]; rfl
        · show some _ = some (errOr (match leI (ps.length : Int) (-1) with | true => 2 | false => 0) _ _)
          rw [leI_neg]; rfl
        · show (match ltI (0 : Int) (ps.length : Int) with | true => (ix ps (0 : Int)).bind (fun _ => some _) | false => some _) = some (errOr (match leI (ps.length : Int) (0 : Int) with | true => 2 | false => 0) _ _)
          rw [show leI (ps.length : Int) (0 : Int) = !(ltI (0 : Int) (ps.length : Int)) from leI_not ps.length 0]
          cases h : ltI (0 : Int) (ps.length : Int) with
          | false => rfl
          | true =>
            have hlt : 0 < ps.length := by
              have h := (ltI_nat 0 ps.length).symm.trans h
              exact of_decide_eq_true h
            have hx : ix ps (0 : Int) = some ps[0] := by rw [show ((0 : Int)) = ((0 : Nat) : Int) from rfl, ix_nat]; exact List.getElem?_eq_getElem hlt
            show (ix ps (0 : Int)).bind _ = _
            rw [hx]; rfl
        · show (match ltI (1 : Int) (ps.length : Int) with | true => (ix ps (1 : Int)).bind (fun _ => some _) | false => some _) = some (errOr (match leI (ps.length : Int) (1 : Int) with | true => 2 | false => 0) _ _)
          rw [show leI (ps.length : Int) (1 : Int) = !(ltI (1 : Int) (ps.length : Int)) from leI_not ps.length 1]
          cases h : ltI (1 : Int) (ps.length : Int) with
          | false => rfl
          | true =>
            have hlt : 1 < ps.length := by
              have h := (ltI_nat 1 ps.length).symm.trans h
              exact of_decide_eq_true h
            have hx : ix ps (1 : Int) = some ps[1] := by rw [show ((1 : Int)) = ((1 : Nat) : Int) from rfl, ix_nat]; exact List.getElem?_eq_getElem hlt
            show (ix ps (1 : Int)).bind _ = _
            rw [hx]; rfl
        · show (match ltI (2 : Int) (ps.length : Int) with | true => (ix ps (2 : Int)).bind (fun _ => some _) | false => some _) = some (errOr (match leI (ps.length : Int) (2 : Int) with | true => 2 | false => 0) _ _)
          rw [show leI (ps.length : Int) (2 : Int) = !(ltI (2 : Int) (ps.length : Int)) from leI_not ps.length 2]
          cases h : ltI (2 : Int) (ps.length : Int) with
          | false => rfl
          | true =>
            have hlt : 2 < ps.length := by
              have h := (ltI_nat 2 ps.length).symm.trans h
              exact of_decide_eq_true h
            have hx : ix ps (2 : Int) = some ps[2] := by rw [show ((2 : Int)) = ((2 : Nat) : Int) from rfl, ix_nat]; exact List.getElem?_eq_getElem hlt
            show (ix ps (2 : Int)).bind _ = _
            rw [hx]; rfl
        · show (match ltI (3 : Int) (ps.length : Int) with | true => (ix ps (3 : Int)).bind (fun _ => some _) | false => some _) = some (errOr (match leI (ps.length : Int) (3 : Int) with | true => 2 | false => 0) _ _)
          rw [show leI (ps.length : Int) (3 : Int) = !(ltI (3 : Int) (ps.length : Int)) from leI_not ps.length 3]
          cases h : ltI (3 : Int) (ps.length : Int) with
          | false => rfl
          | true =>
            have hlt : 3 < ps.length := by
              have h := (ltI_nat 3 ps.length).symm.trans h
              exact of_decide_eq_true h
            have hx : ix ps (3 : Int) = some ps[3] := by rw [show ((3 : Int)) = ((3 : Nat) : Int) from rfl, ix_nat]; exact List.getElem?_eq_getElem hlt
            show (ix ps (3 : Int)).bind _ = _
            rw [hx]; rfl
        · show some _ = some (errOr (match leI (ps.length : Int) (-1) with | true => 2 | false => 0) _ _)
          rw [leI_neg]; rfl
        · show some _ = some (errOr (match leI (ps.length : Int) (-1) with | true => 2 | false => 0) _ _)
          rw [leI_neg]; rfl
        · show some _ = some (errOr (match leI (ps.length : Int) (-1) with | true => 2 | false => 0) _ _)
          rw [leI_neg]; rfl
        · show some _ = some (errOr (match leI (ps.length : Int) (-1) with | true => 2 | false => 0) _ _)
          rw [leI_neg]; rfl
        · show some _ = some (errOr (match leI (ps.length : Int) (-1) with | true => 2 | false => 0) _ _)
          rw [leI_neg]; rfl
        · show some _ = some (errOr (match leI (ps.length : Int) (-1) with | true => 2 | false => 0) _ _)
          rw [leI_neg]; rfl
        · show some _ = some (errOr (match leI (ps.length : Int) (-1) with | true => 2 | false => 0) _ _)
          rw [leI_neg]; rfl

/-- the error of an action -/
def singleE (a : Daction) : Int := match ltI 16 (a.binds.length : Int) with
  | true => 3
  | false => foldAt (S := Unit) (fun i b s => errOr (bindE a b i) id s) (fun _ => 0) a.binds 0 ()

def checkE (l : List Daction) : Int := match ltI 256 (l.length : Int) with
  | true => 3
  | false => foldAt (S := Unit) (fun _ a s => errOr (singleE a) id s) (fun _ => 0) l 0 ()

theorem foldAt_err {α Y : Type} (f : Nat → α → Int) (z : Int → Y) (y : Y) (g : Y → Int) (hz : ∀ e, g (z e) = e) (hy : g y = 0) : ∀ (l : List α) (i : Nat),
    g (foldAt (S := Unit) (fun i a s => errOr (f i a) z s) (fun _ => y) l i ()) = foldAt (S := Unit) (fun i a s => errOr (f i a) id s) (fun _ => 0) l i ()
  | [], _ => hy
  | a :: l, i => by
    unfold foldAt errOr
    cases eqI (f i a) 0 with
    | true => exact foldAt_err f z y g hz hy l (i + 1)
    | false => exact hz _

theorem errOr_map {X X' Y : Type} (e : Int) (z : Int → Y) (n : X) (f : X → X') : (match errOr e z n with | .inl s => .inl (f s) | .inr y => .inr y) = errOr e z (f n) := by
  unfold errOr; cases eqI e 0 <;> rfl

/-- a loop that ends at the first error -/
theorem err_loop {α X Y : Type} {step : X → Option (X ⊕ Y)} (xs : List α) {st : Nat → X} {f : Nat → α → Int} {z : Int → Y} {y : Y}
    (h1 : ∀ i a, xs[i]? = some a → step (st i) = some (errOr (f i a) z (st (i + 1)))) (h2 : step (st xs.length) = some (.inr y)) (g : Y → Int) (hz : ∀ e, g (z e) = e) (hy : g y = 0) :
    ∃ r, loopOf step (st 0) = some r ∧ g r = foldAt (S := Unit) (fun i a s => errOr (f i a) id s) (fun _ => 0) xs 0 () := by
  refine ⟨_, fold_loop (st := fun i (_ : Unit) => st i) xs (fun _ _ => True) (F := fun i a s => errOr (f i a) z s) (fin := fun _ => y) trivial (fun i a s ha _ => ?_) (fun _ _ _ _ _ _ _ => trivial) (fun _ _ => h2), foldAt_err f z y g hz hy xs 0⟩
  rw [h1 i a ha]
  unfold errOr
  cases eqI (f i a) 0 <;> rfl

theorem g21_eq (a : Daction) : g21 a = some (singleE a) := by
  unfold g21 singleE
  cases h16 : ltI 16 (a.binds.length : Int) with
  | true => rfl
  | false =>
    dsimp only
    have hl : (a.binds.length : Int) ≤ 16 := by simpa [ltI] using h16
    have hl2 : a.binds.length < 9223372036854775807 := by omega
    obtain ⟨r, h1, h2⟩ := err_loop (step := step21_4) a.binds (st := fun i => ((((), a.binds, (a.binds.length : Int), (i : Int), ()), (a, ())) : D21_4.X)) (f := fun i b => bindE a b i) (z := fun e => .inl ((e, ()), ())) (y := .inr ((), ()))
      (fun i b hb => step21_eq a i b hb hl2) (by simp only [step21_4, ltI_nat, Nat.lt_irrefl, decide_false]) (fun y => match y with | .inl z => z.1.1 | .inr _ => 0) (fun _ => rfl) rfl
    show (loopOf step21_4 (((), a.binds, (a.binds.length : Int), ((0 : Nat) : Int), ()), (a, ()))).bind _ = _
    rw [h1, ← h2]
    rcases r with r | r <;> rfl

theorem g17_eq (l : List Daction) : g17 l = some (checkE l) := by
  unfold g17 checkE
  cases h : ltI 256 (l.length : Int) with
  | true => rfl
  | false =>
    dsimp only
    have hl : (l.length : Int) ≤ 256 := by simpa [ltI] using h
    obtain ⟨r, h1, h2⟩ := err_loop (step := step17_4) l (st := fun i => (((l, (l.length : Int), (i : Int), ()), ()) : D17_4.X)) (f := fun _ a => singleE a) (z := fun e => .inl ((e, ()), ())) (y := .inr ((), ()))
      (fun i a ha => by
        have hi := get_lt ha
        simp only [step17_4, ltI_nat, decide_eq_true hi, ix_nat, ha, Option.bind_some, g21_eq, addI_one i (by omega)]
        unfold errOr
        cases eqI (singleE a) 0 <;> rfl) (by simp only [step17_4, ltI_nat, Nat.lt_irrefl, decide_false]) (fun y => match y with | .inl z => z.1.1 | .inr _ => 0) (fun _ => rfl) rfl
    show (loopOf step17_4 ((l, (l.length : Int), ((0 : Nat) : Int), ()), ())).bind _ = _
    rw [h1, ← h2]
    rcases r with r | r <;> rfl

/-- names that the machine can count -/
def BindsLen (a : Daction) : Prop := ∀ b ∈ a.binds, b.param.length < 9223372036854775807

theorem foldAt_zero {α : Type} (f : Nat → α → Int) : ∀ (l : List α) (i : Nat), foldAt (S := Unit) (fun i a s => errOr (f i a) id s) (fun _ => 0) l i () = 0 ∨ eqI (foldAt (S := Unit) (fun i a s => errOr (f i a) id s) (fun _ => 0) l i ()) 0 = false
  | [], _ => .inl rfl
  | a :: l, i => by
    unfold foldAt errOr
    cases h : eqI (f i a) 0 with
    | true => exact foldAt_zero f l (i + 1)
    | false => exact .inr h

theorem g18_eq (l : List Daction) (hb : ∀ a ∈ l, BindsLen a) : g18 l = some (checkE l) := by
  unfold g18 checkE
  cases h : ltI 256 (l.length : Int) with
  | true => rfl
  | false =>
    dsimp only
    have hl : (l.length : Int) ≤ 256 := by simpa [ltI] using h
    obtain ⟨r, h1, h2⟩ := err_loop (step := step18_4) l (st := fun i => (((l, (i : Int), ()), ()) : D18_4.X)) (f := fun _ a => singleE a) (z := fun e => .inl ((e, ()), ())) (y := .inr ((), ()))
      (fun i a ha => by
        have hi := get_lt ha
        have hba := hb a (List.mem_of_getElem? ha)
        simp only [step18_4, ltI_nat, decide_eq_true hi, ix_nat, ha, Option.bind_some]
        unfold singleE
        cases h16 : ltI 16 (a.binds.length : Int) with
        | true => rfl
        | false =>
          dsimp only
          have hl16 : (a.binds.length : Int) ≤ 16 := by simpa [ltI] using h16
          have in1 := fold_loop (step := step18_9) a.binds (st := fun j (_ : Unit) => (((l, (i : Int), (j : Int), ()), ()) : D18_9.X)) (fun _ _ => True) (F := fun j b s => errOr (bindE a b j) (fun e => .inl ((e, ()), ())) s) (fin := fun _ => .inr ((l, (i : Int), ()), ())) trivial
            (fun j b s hb' _ => by
              have hj := get_lt hb'
              simp only [step18_9, ltI_nat, decide_eq_true hj, ix_nat, ha, Option.bind_some, g30_eq a j b hb' (hba b (List.mem_of_getElem? hb')) (by omega), addI_one j (by omega)]
              unfold errOr
              cases eqI (bindE a b j) 0 <;> rfl) (fun _ _ _ _ _ _ _ => trivial) (fun s _ => by
              simp only [step18_9, ltI_nat, ix_nat, ha, Option.bind_some, Nat.lt_irrefl, decide_false]) (s := ())
          show (loopOf step18_9 ((l, (i : Int), ((0 : Nat) : Int), ()), ())).bind _ = _
          rw [in1]
          have hfe := foldAt_err (fun j b => bindE a b j) (fun e => (.inl ((e, ()), ()) : Y18_9)) (.inr ((l, (i : Int), ()), ())) (fun y => match y with | .inl z => z.1.1 | .inr _ => 0) (fun _ => rfl) rfl a.binds 0
          have hcase : ∀ (m : List Dbind) (k : Nat), (foldAt (S := Unit) (fun j b s => errOr (bindE a b j) (fun e => (.inl ((e, ()), ()) : Y18_9)) s) (fun _ => .inr ((l, (i : Int), ()), ())) m k () = .inr ((l, (i : Int), ()), ()) ∧
              foldAt (S := Unit) (fun i b s => errOr (bindE a b i) id s) (fun _ => 0) m k () = 0) ∨ ∃ e, eqI e 0 = false ∧ foldAt (S := Unit) (fun j b s => errOr (bindE a b j) (fun e => (.inl ((e, ()), ()) : Y18_9)) s) (fun _ => .inr ((l, (i : Int), ()), ())) m k () = .inl ((e, ()), ()) ∧
              foldAt (S := Unit) (fun i b s => errOr (bindE a b i) id s) (fun _ => 0) m k () = e := by
            intro m
            induction m with
            | nil => intro k; exact .inl ⟨rfl, rfl⟩
            | cons b m ih =>
              intro k
              unfold foldAt errOr
              cases hb0 : eqI (bindE a b k) 0 with
              | true => exact ih (k + 1)
              | false => exact .inr ⟨_, hb0, rfl, rfl⟩
          rcases hcase a.binds 0 with ⟨q1, q2⟩ | ⟨e, q0, q1, q2⟩
          · rw [q1, q2]
            show some _ = _
            rw [addI_one i (by omega)]; rfl
          · rw [q1, q2]
            unfold errOr
            rw [q0]; rfl) (by simp only [step18_4, ltI_nat, Nat.lt_irrefl, decide_false]) (fun y => match y with | .inl z => z.1.1 | .inr _ => 0) (fun _ => rfl) rfl
    show (loopOf step18_4 ((l, ((0 : Nat) : Int), ()), ())).bind _ = _
    rw [h1, ← h2]
    rcases r with r | r <;> rfl

end Am
