/- Loops over lists: what they give. -/
import Derived.Test.YtbeffjadfgbojaaAmE2
namespace Am
open Go

theorem ix_nat {α : Type} (xs : List α) (i : Nat) : ix xs (i : Int) = xs[i]? := by simp [ix]
theorem ix_lit {α : Type} (xs : List α) (i : Nat) : ix xs (OfNat.ofNat i : Int) = xs[i]? := ix_nat xs i
theorem ltI_nat (a b : Nat) : ltI (a : Int) (b : Int) = decide (a < b) := by unfold ltI; congr 1; simp
theorem leI_nat (a b : Nat) : leI (a : Int) (b : Int) = decide (a ≤ b) := by unfold leI; congr 1; simp
theorem addI_nat (a b : Nat) (h : a + b < 9223372036854775808) : addI .i64 (a : Int) (b : Int) = ((a + b : Nat) : Int) := by
  unfold addI IntKind.wrap
  simp only [IntKind.bits, IntKind.signed]
  have : ((a : Int) + (b : Int)) = ((a + b : Nat) : Int) := by push_cast; rfl
  rw [this]
  generalize a + b = c at h
  simp
  omega
theorem addI_one (a : Nat) (h : a + 1 < 9223372036854775808) : addI .i64 (a : Int) 1 = ((a + 1 : Nat) : Int) := addI_nat a 1 h

theorem eqI_self (a : Int) : eqI a a = true := by simp [eqI]
theorem eqS_self (a : List UInt8) : eqS a a = true := by simp [eqS]
theorem eqB_self (a : Bool) : eqB a a = true := by simp [eqB]

variable {X Y S α : Type}

/-- from left to right, 'F' until it ends -/
def foldAt (F : Nat → α → S → S ⊕ Y) (fin : S → Y) : List α → Nat → S → Y
  | [], _, s => fin s
  | a :: l, i, s => match F i a s with
    | .inl s' => foldAt F fin l (i + 1) s'
    | .inr y => y

theorem fold_loop_at {step : X → Option (X ⊕ Y)} (xs : List α) {st : Nat → S → X} (I : Nat → S → Prop) {F : Nat → α → S → S ⊕ Y} {fin : S → Y}
    (h1 : ∀ i a s, xs[i]? = some a → I i s → step (st i s) = some (match F i a s with | .inl s' => .inl (st (i + 1) s') | .inr y => .inr y))
    (hI : ∀ i a s s', xs[i]? = some a → I i s → F i a s = .inl s' → I (i + 1) s') (h2 : ∀ s, I xs.length s → step (st xs.length s) = some (.inr (fin s))) :
    ∀ (l : List α) (i : Nat) (s : S), xs.drop i = l → i ≤ xs.length → I i s → loopOf step (st i s) = some (foldAt F fin l i s)
  | [], i, s, hl, hi, hs => by
    have : i = xs.length := by rw [List.drop_eq_nil_iff] at hl; omega
    subst this
    rw [loopOf_step, h2 s hs]; rfl
  | a :: l, i, s, hl, hi, hs => by
    have hlt : i < xs.length := by
      rcases Nat.lt_or_ge i xs.length with h | h
      · exact h
      · rw [List.drop_eq_nil_of_le h] at hl; cases hl
    have ha : xs[i]? = some a := by
      have := List.getElem?_drop (xs := xs) (i := i) (j := 0)
      rw [hl] at this; simpa using this.symm
    have hd : xs.drop (i + 1) = l := by
      rw [← List.tail_drop, hl]; rfl
    rw [loopOf_step, h1 i a s ha hs]
    unfold foldAt
    cases hF : F i a s with
    | inl s' => exact fold_loop_at xs I h1 hI h2 l (i + 1) s' hd hlt (hI i a s s' ha hs hF)
    | inr y => rfl

theorem fold_loop {step : X → Option (X ⊕ Y)} (xs : List α) {st : Nat → S → X} (I : Nat → S → Prop) {F : Nat → α → S → S ⊕ Y} {fin : S → Y} {s : S} (hs : I 0 s)
    (h1 : ∀ i a s, xs[i]? = some a → I i s → step (st i s) = some (match F i a s with | .inl s' => .inl (st (i + 1) s') | .inr y => .inr y))
    (hI : ∀ i a s s', xs[i]? = some a → I i s → F i a s = .inl s' → I (i + 1) s') (h2 : ∀ s, I xs.length s → step (st xs.length s) = some (.inr (fin s))) :
    loopOf step (st 0 s) = some (foldAt F fin xs 0 s) := fold_loop_at xs I h1 hI h2 xs 0 s rfl (Nat.zero_le _) hs

/-- the first element of which 'f' says something -/
def firstAt (f : Nat → α → Option Y) : List α → Nat → Option Y
  | [], _ => none
  | a :: l, i => match f i a with
    | some y => some y
    | none => firstAt f l (i + 1)

theorem foldAt_first {f : Nat → α → Option Y} {y : Y} : ∀ (l : List α) (i : Nat), foldAt (S := Unit) (fun i a s => match f i a with | some y => .inr y | none => .inl s) (fun _ => y) l i () = (firstAt f l i).getD y
  | [], _ => rfl
  | a :: l, i => by
    unfold foldAt firstAt
    cases f i a with
    | some y => rfl
    | none => exact foldAt_first l (i + 1)

/-- a loop that looks for the first element of which 'f' says something -/
theorem first_loop {step : X → Option (X ⊕ Y)} (xs : List α) {st : Nat → X} {f : Nat → α → Option Y} {y : Y}
    (h1 : ∀ i a, xs[i]? = some a → step (st i) = some (match f i a with | some y => .inr y | none => .inl (st (i + 1)))) (h2 : step (st xs.length) = some (.inr y)) :
    loopOf step (st 0) = some ((firstAt f xs 0).getD y) := by
  rw [← foldAt_first]
  refine fold_loop (st := fun i (_ : Unit) => st i) xs (fun _ _ => True) trivial (fun i a s ha _ => ?_) (fun _ _ _ _ _ _ _ => trivial) (fun _ _ => h2)
  rw [h1 i a ha]
  cases f i a <;> rfl

theorem firstAt_none {f : Nat → α → Option Y} : ∀ {l : List α} {i : Nat}, (∀ j a, l[j]? = some a → f (i + j) a = none) → firstAt f l i = none
  | [], _, _ => rfl
  | a :: l, i, h => by
    unfold firstAt
    have h0 := h 0 a rfl
    rw [Nat.add_zero] at h0
    rw [h0]
    exact firstAt_none fun j b hb => by
      have := h (j + 1) b (by simpa using hb)
      rw [show i + (j + 1) = i + 1 + j by omega] at this
      exact this

/-- a loop that finds nothing -/
theorem calm_loop {step : X → Option (X ⊕ Y)} (n : Nat) {st : Nat → X} {y : Y} (h1 : ∀ i, i < n → step (st i) = some (.inl (st (i + 1)))) (h2 : step (st n) = some (.inr y)) : loopOf step (st 0) = some y := by
  have : ∀ (k i : Nat), i + k = n → loopOf step (st i) = some y := by
    intro k
    induction k with
    | zero => intro i hi; have : i = n := by omega
              subst this; rw [loopOf_step, h2]
    | succ k ih => intro i hi; rw [loopOf_step, h1 i (by omega)]; exact ih (i + 1) (by omega)
  exact this n 0 (by omega)

theorem firstAt_any {f : α → Bool} {z : Nat → α → Y} : ∀ (l : List α) (i : Nat), (firstAt (fun i a => match f a with | true => some (z i a) | false => none) l i).isSome = l.any f
  | [], _ => rfl
  | a :: l, i => by
    unfold firstAt
    simp only [List.any_cons]
    cases f a with
    | true => rfl
    | false => exact firstAt_any l (i + 1)

theorem get_lt {xs : List α} {i : Nat} {a : α} (h : xs[i]? = some a) : i < xs.length := (List.getElem?_eq_some_iff.1 h).1

theorem firstAt_cases {f : α → Bool} {z : Nat → α → Y} : ∀ (l : List α) (i : Nat), (l.any f = true ∧ ∃ k a, i ≤ k ∧ firstAt (fun i a => match f a with | true => some (z i a) | false => none) l i = some (z k a)) ∨
    (l.any f = false ∧ firstAt (fun i a => match f a with | true => some (z i a) | false => none) l i = none)
  | [], _ => .inr ⟨rfl, rfl⟩
  | a :: l, i => by
    unfold firstAt
    simp only [List.any_cons]
    cases hf : f a with
    | true => exact .inl ⟨rfl, i, a, Nat.le_refl _, rfl⟩
    | false =>
      rcases firstAt_cases (f := f) (z := z) l (i + 1) with ⟨h1, k, b, h2, h3⟩ | ⟨h1, h2⟩
      · exact .inl ⟨by simpa using h1, k, b, by omega, h3⟩
      · exact .inr ⟨by simpa using h1, h2⟩

theorem firstAt_map {Z : Type} {f : Nat → α → Option Y} {g : Y → Z} : ∀ (l : List α) (i : Nat), firstAt (fun i a => (f i a).map g) l i = (firstAt f l i).map g
  | [], _ => rfl
  | a :: l, i => by
    unfold firstAt
    cases f i a with
    | some y => rfl
    | none => exact firstAt_map l (i + 1)

theorem eqS_comm (a b : List UInt8) : eqS a b = eqS b a := by
  unfold eqS
  by_cases h : a = b
  · subst h; rfl
  · rw [beq_eq_false_iff_ne.2 h, beq_eq_false_iff_ne.2 (fun e => h e.symm)]

theorem eqS_iff {a b : List UInt8} : eqS a b = true ↔ a = b := by simp [eqS]
theorem leI_zero (k : Nat) : leI (0 : Int) (k : Int) = true := by simp [leI]

/-- a loop that looks for an element -/
theorem any_loop {step : X → Option (X ⊕ Y)} (xs : List α) {st : Nat → X} {p : α → Bool} {z : Nat → Y} {y : Y}
    (h1 : ∀ i a, xs[i]? = some a → step (st i) = some (match p a with | true => .inr (z i) | false => .inl (st (i + 1)))) (h2 : step (st xs.length) = some (.inr y)) :
    (xs.any p = true ∧ ∃ k : Nat, loopOf step (st 0) = some (z k)) ∨ (xs.any p = false ∧ loopOf step (st 0) = some y) := by
  have := first_loop (step := step) xs (st := st) (f := fun i a => match p a with | true => some (z i) | false => none) (y := y) (fun i a ha => by
    rw [h1 i a ha]
    cases p a <;> rfl) h2
  rw [this]
  rcases firstAt_cases (f := p) (z := fun i _ => z i) xs 0 with ⟨g1, k, a, _, g3⟩ | ⟨g1, g2⟩
  · exact .inl ⟨g1, k, by rw [g3]; rfl⟩
  · exact .inr ⟨g1, by rw [g2]; rfl⟩

theorem loop_inl {step : X → Option (X ⊕ Y)} {x x' : X} (h : step x = some (.inl x')) : loopOf step x = loopOf step x' := by rw [loopOf_step, h]
theorem loop_inr {step : X → Option (X ⊕ Y)} {x : X} {y : Y} (h : step x = some (.inr y)) : loopOf step x = some y := by rw [loopOf_step, h]

end Am
