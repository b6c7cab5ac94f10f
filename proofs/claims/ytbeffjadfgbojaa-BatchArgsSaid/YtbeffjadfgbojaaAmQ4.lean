/- Regions whose order is drawn: the law. -/
import Derived.Test.YtbeffjadfgbojaaAmQ3
namespace Am
open Go
variable {U : TyU} {R : Type} {P : Program} {G : Env U}

section
variable {ops : Array Oper}

def undone (n : Nat) (listed : Array Bool) : List Nat := (List.range n).filter fun j => !listed.getD j false

theorem filter_less {α : Type} {p q : α → Bool} (hpq : ∀ x, q x = true → p x = true) {e : α} (hp : p e = true) (hq : q e = false) : ∀ (l : List α), e ∈ l → (l.filter q).length < (l.filter p).length
  | [], h => by simp at h
  | x :: l, h => by
    have hle : ∀ l : List α, (l.filter q).length ≤ (l.filter p).length := by
      intro l
      induction l with
      | nil => simp
      | cons y l ih =>
        simp only [List.filter_cons]
        cases hy : q y with
        | true => rw [hpq y hy]; simpa using ih
        | false => cases p y <;> simp <;> omega
    rcases List.mem_cons.1 h with h | h
    · subst h
      simp only [List.filter_cons, hp, hq]
      have := hle l
      simp; omega
    · have := filter_less hpq hp hq l h
      simp only [List.filter_cons]
      cases hx : q x with
      | true => rw [hpq x hx]; simp; exact this
      | false => cases p x <;> simp <;> omega

theorem ready_mem {listed : Array Bool} {i : Nat} (hl : listed.size = ops.size) : i ∈ Region.ready .any ops listed ↔ i < ops.size ∧ listed.getD i false = false ∧ ∃ o, ops[i]? = some o ∧ ∀ x ∈ o.after, Region.binds .any x = true → listed.getD x.on false = true := by
  simp only [Region.ready, List.mem_filter, List.mem_range, Bool.and_eq_true]
  constructor
  · rintro ⟨h1, h2, h3⟩
    have ho : ops[i]? = some ops[i] := Array.getElem?_eq_getElem h1
    refine ⟨h1, ?_, ops[i], ho, fun x hx hb => ?_⟩
    · have hi : i < listed.size := by omega
      simp only [Array.getD_eq_getD_getElem?, Array.getElem?_eq_getElem hi, Option.getD_some] at h2 ⊢
      simpa using h2
    · rw [ho] at h3
      simp only [Option.map_some, Option.getD_some, Array.all_eq_true_iff_forall_mem] at h3
      have := h3 x hx
      rw [hb] at this
      simpa using this
  · rintro ⟨h1, h2, o, ho, h3⟩
    refine ⟨h1, ?_, ?_⟩
    · have hi : i < listed.size := by omega
      simp only [Array.getD_eq_getD_getElem?, Array.getElem?_eq_getElem hi, Option.getD_some] at h2 ⊢
      simpa using h2
    · rw [ho]
      simp only [Option.map_some, Option.getD_some, Array.all_eq_true_iff_forall_mem]
      intro x hx
      cases hb : Region.binds .any x with
      | false => rfl
      | true => simpa using h3 x hx hb

theorem order_any {es : List (Eff U)} {n0 : Nat} {f0 : Fr U} {h0 : Hp U} (hp : Plan P ops es n0 f0 h0) (hn : ∀ (i : Nat) (E : Eff U), es[i]? = some E → n0 ≤ E.lo) {Q : Exit → Act → World → Prop} :
    ∀ (fuel : Nat) (listed : Array Bool) (e : En) (a : Act), listed.size = ops.size → (undone ops.size listed).length ≤ fuel →
      (∀ (i : Nat) (E : Eff U) (j : Nat), listed.getD i false = true → es[i]? = some E → E.pre.testBit j = true → listed.getD j false = true) →
      Inv es n0 f0 h0 (fun j => listed.getD j false = true) e a →
      (∀ (e' : En) (a' : Act), Inv es n0 f0 h0 (fun _ => True) e' a' → Evo allD e e' → Q .normal a' e'.w) → wpAny P .any ops Q fuel listed a e.w := by
  -- all are done
  have done : ∀ (listed : Array Bool) (e : En) (a : Act), undone ops.size listed = [] → Inv es n0 f0 h0 (fun j => listed.getD j false = true) e a → Inv es n0 f0 h0 (fun _ => True) e a := by
    intro listed e a hu hI
    have hall : ∀ j, j < ops.size → listed.getD j false = true := by
      intro j hj
      cases hl : listed.getD j false with
      | true => rfl
      | false =>
        have : j ∈ undone ops.size listed := List.mem_filter.2 ⟨List.mem_range.2 hj, by rw [hl]; rfl⟩
        rw [hu] at this; cases this
    have hlt : ∀ (j : Nat) (E : Eff U), es[j]? = some E → j < ops.size := fun j E hj => by rw [← hp.len]; exact (List.getElem?_eq_some_iff.1 hj).1
    refine ⟨hI.wf, fun d => ?_, fun k b hb => ?_, fun k hk hm => ?_, hI.defers⟩
    · rw [← frA_congr (fun j => listed.getD j false = true) (fun _ => True) d es 0 f0 f0 rfl (fun j E hj => .inl ⟨fun _ => trivial, fun _ => by rw [Nat.zero_add]; exact hall j (hlt j E hj)⟩)]
      exact hI.fr d
    · rw [← hpA_congr (fun j => listed.getD j false = true) (fun _ => True) k es 0 h0 h0 rfl (fun j E hj => .inl ⟨fun _ => trivial, fun _ => by rw [Nat.zero_add]; exact hall j (hlt j E hj)⟩)] at hb
      exact hI.hp k b hb
    · obtain ⟨i, E, _, hE, g⟩ := hI.new k hk hm
      exact ⟨i, E, trivial, hE, g⟩
  have none : ∀ (listed : Array Bool), listed.size = ops.size → Region.ready .any ops listed = [] → undone ops.size listed = [] := by
    intro listed hl hr
    have key : ∀ n i, i ≤ n → i < ops.size → listed.getD i false = true := by
      intro n
      induction n with
      | zero =>
        intro i hi hi2
        have : i = 0 := by omega
        subst this
        cases hg : listed.getD 0 false with
        | true => rfl
        | false =>
          have : 0 ∈ Region.ready .any ops listed := (ready_mem hl).2 ⟨hi2, hg, ops[0], Array.getElem?_eq_getElem hi2, fun x hx hb => by have := hp.after 0 ops[0] (Array.getElem?_eq_getElem hi2) x hx hb; omega⟩
          rw [hr] at this; cases this
      | succ n ih =>
        intro i hi hi2
        cases hg : listed.getD i false with
        | true => rfl
        | false =>
          have : i ∈ Region.ready .any ops listed := (ready_mem hl).2 ⟨hi2, hg, ops[i], Array.getElem?_eq_getElem hi2, fun x hx hb => by
            have := hp.after i ops[i] (Array.getElem?_eq_getElem hi2) x hx hb
            exact ih x.on (by omega) (by omega)⟩
          rw [hr] at this; cases this
    unfold undone
    rw [List.filter_eq_nil_iff]
    intro j hj
    rw [List.mem_range] at hj
    simp only [key j j (Nat.le_refl _) hj, Bool.not_true, Bool.false_eq_true, not_false_eq_true]
  intro fuel
  induction fuel with
  | zero =>
    intro listed e a hl hu hS hI hQ
    have hu : undone ops.size listed = [] := List.length_eq_zero_iff.1 (by omega)
    refine ⟨?_, hQ e a (done listed e a hu hI) (.refl _ _)⟩
    rw [List.eq_nil_iff_forall_not_mem]
    intro i hi
    obtain ⟨h1, h2, _⟩ := (ready_mem hl).1 hi
    have : i ∈ undone ops.size listed := List.mem_filter.2 ⟨List.mem_range.2 h1, by rw [h2]; rfl⟩
    rw [hu] at this; cases this
  | succ fuel ih =>
    intro listed e a hl hu hS hI hQ
    refine ⟨fun hr => hQ e a (done listed e a (none listed hl hr) hI) (.refl _ _), fun i hi => ?_⟩
    obtain ⟨h1, h2, o, ho, h3⟩ := (ready_mem hl).1 hi
    have hiE : i < es.length := by rw [hp.len]; exact h1
    have hE : es[i]? = some es[i] := List.getElem?_eq_getElem hiE
    have hpre : ∀ j, es[i].pre.testBit j = true → listed.getD j false = true := by
      intro j hj
      obtain ⟨x, hx, hb, _, hor⟩ := hp.pre i es[i] o j hE ho hj
      have hx' := h3 x hx hb
      rcases hor with rfl | ⟨E', hE', hj'⟩
      · exact hx'
      · exact hS x.on E' j hx' hE' hj'
    have hset : ∀ j, (listed.setIfInBounds i true).getD j false = true ↔ (listed.getD j false = true ∨ j = i) := by
      intro j
      simp only [Array.getD_eq_getD_getElem?, Array.getElem?_setIfInBounds]
      by_cases hji : i = j
      · subst hji
        have : i < listed.size := by omega
        simp [this]
      · have : ¬ j = i := fun h => hji h.symm
        simp [hji, this]
    refine step_order hp hn hS hE (by rw [h2]; simp) hpre hI (fun e' a' hI' hEv => ?_)
    refine ih _ e' a' (by simpa using hl) ?_ ?_ ?_ (fun e2 a2 hI2 hE2 => hQ e2 a2 hI2 (hEv.trans hE2))
    · have : (undone ops.size (listed.setIfInBounds i true)).length < (undone ops.size listed).length := by
        refine filter_less (e := i) (fun x hx => ?_) (by rw [h2]; rfl) ?_ _ (List.mem_range.2 h1)
        · cases hl' : listed.getD x false with
          | false => rfl
          | true => have := (hset x).2 (.inl hl'); rw [this] at hx; cases hx
        · have := (hset i).2 (.inr rfl); rw [this]; rfl
      omega
    · intro q E j hq hE' hj
      rcases (hset q).1 hq with h | h
      · exact (hset j).2 (.inl (hS q E j h hE' hj))
      · subst h
        rw [hE] at hE'; cases hE'
        exact (hset j).2 (.inl (hpre j hj))
    · refine ⟨hI'.wf, fun d => ?_, fun k b hb => ?_, fun k hk hm => ?_, hI'.defers⟩
      · rw [frA_congr (fun j => (listed.setIfInBounds i true).getD j false = true) (fun j => listed.getD j false = true ∨ j = i) d es 0 f0 f0 rfl (fun j E hj => .inl (hset _))]
        exact hI'.fr d
      · rw [hpA_congr (fun j => (listed.setIfInBounds i true).getD j false = true) (fun j => listed.getD j false = true ∨ j = i) k es 0 h0 h0 rfl (fun j E hj => .inl (hset _))] at hb
        exact hI'.hp k b hb
      · obtain ⟨q, E, hq, hE', g⟩ := hI'.new k hk hm
        exact ⟨q, E, (hset q).2 hq, hE', g⟩
end

/-! ## Out of the evaluator -/
theorem testBit_or_pow {a b j : Nat} (h : (a ||| 2 ^ b).testBit j = true) : a.testBit j = true ∨ j = b := by
  rw [Nat.testBit_or, Bool.or_eq_true] at h
  refine h.imp id (fun h => ?_)
  rw [Nat.testBit_two_pow] at h
  simpa [eq_comm] using h

theorem preBits_spec {acc : List (Oper × Rec)} : ∀ (l : List Edge) (j : Nat), (preBits acc l).testBit j = true → ∃ x ∈ l, Region.binds .any x = true ∧ (j = x.on ∨ ∃ y, acc[x.on]? = some y ∧ y.2.pre.testBit j = true)
  | [], j, h => by simp [preBits] at h
  | e :: l, j, h => by
    unfold preBits at h
    have rest : ∀ {j}, (preBits acc l).testBit j = true → ∃ x ∈ e :: l, Region.binds .any x = true ∧ (j = x.on ∨ ∃ y, acc[x.on]? = some y ∧ y.2.pre.testBit j = true) := fun h => by
      obtain ⟨x, hx, g⟩ := preBits_spec l _ h
      exact ⟨x, List.mem_cons_of_mem _ hx, g⟩
    split at h
    · rename_i hb
      rw [Nat.testBit_or, Bool.or_eq_true] at h
      rcases h with h | h
      · rcases testBit_or_pow h with h | h
        · exact rest h
        · exact ⟨e, List.mem_cons_self .., hb, .inl h⟩
      · cases ha : acc[e.on]? with
        | none => rw [ha] at h; simp at h
        | some y => rw [ha] at h; exact ⟨e, List.mem_cons_self .., hb, .inr ⟨y, ha, h⟩⟩
    · exact rest h

theorem preOk_spec {i : Nat} : ∀ (l : List Edge), preOk i l = true → ∀ x ∈ l, Region.binds .any x = true → x.on < i
  | [], _, x, hx, _ => by cases hx
  | e :: l, h, x, hx, hb => by
    unfold preOk at h
    split at h
    · split at h
      · rename_i hlt
        rcases List.mem_cons.1 hx with rfl | hx
        · simpa [Nat.blt_eq] using hlt
        · exact preOk_spec l h x hx hb
      · cases h
    · rename_i hb'
      rcases List.mem_cons.1 hx with rfl | hx
      · rw [hb] at hb'; cases hb'
      · exact preOk_spec l h x hx hb

theorem apartFrom_spec {ops : List Oper} {o : Oper} {r : Rec} : ∀ (l : List (Oper × Rec)) (i : Nat), apartFrom ops o r l i = true → ∀ (j : Nat) (x : Oper × Rec), l[j]? = some x → r.pre.testBit (i + j) = true ∨ apartOps ops x.1 x.2 o r = true
  | [], _, _, j, x, hx => by simp at hx
  | (o', r') :: l, i, h, j, x, hx => by
    unfold apartFrom at h
    split at h
    · rename_i hh
      rw [Bool.or_eq_true] at hh
      cases j with
      | zero => simp at hx; subst hx; exact hh
      | succ j =>
        have := apartFrom_spec l (i + 1) h j x (by simpa using hx)
        rw [show i + (j + 1) = i + 1 + j by omega]
        exact this
    · cases h

theorem meet_spec {l m : List Nat} (h : meet l m = false) : ∀ k, mem k l = true → mem k m ≠ true := by
  induction l with
  | nil => intro k hk; simp [mem] at hk
  | cons a l ih =>
    unfold meet at h
    split at h
    · cases h
    · rename_i hm
      intro k hk
      unfold mem at hk
      split at hk
      · rename_i hb
        have := Nat.eq_of_beq_eq_true hb
        subst this
        rw [hm]; simp
      · exact ih h k hk

theorem noneIn_spec {lo hi : Nat} {l : List Nat} (h : noneIn lo hi l = true) : ∀ k, mem k l = true → ¬ (lo ≤ k ∧ k < hi) := by
  induction l with
  | nil => intro k hk; simp [mem] at hk
  | cons a l ih =>
    unfold noneIn at h
    split at h
    · cases h
    · rename_i hm
      intro k hk
      unfold mem at hk
      split at hk
      · rename_i hb
        have := Nat.eq_of_beq_eq_true hb
        subst this
        rintro ⟨h1, h2⟩
        rw [Bool.and_eq_false_iff] at hm
        rcases hm with hm | hm
        · rw [Nat.ble_eq_true_of_le h1] at hm; cases hm
        · have : Nat.blt a hi = true := by simpa [Nat.blt_eq] using h2
          rw [this] at hm; cases hm
      · exact ih h k hk

def effOf (ops : List Oper) (x : Oper × Rec) (v : AV U) (blk : Nat → Option (Blk U)) : Eff U :=
  { dst := x.1.dst, v := v, looks := looks ops x.1, foot := x.2.foot, writes := x.2.writes, blk := blk, lo := x.2.lo, hi := x.2.hi, pre := x.2.pre }

theorem apart_of {ops : List Oper} {x y : Oper × Rec} (h : apartOps ops x.1 x.2 y.1 y.2 = true) (v v' : AV U) (b b' : Nat → Option (Blk U)) : Apart (effOf ops x v b) (effOf ops y v' b') := by
  unfold apartOps at h
  simp only [Bool.and_eq_true, Bool.not_eq_true', Bool.or_eq_false_iff, Bool.and_eq_false_iff] at h
  obtain ⟨⟨⟨⟨⟨h1, h2⟩, h3⟩, h4⟩, h5⟩, h6⟩ := h
  refine ⟨fun d hd => ?_, fun d hd => ?_, fun d hd hd' => ?_, fun hw k hk => ?_, noneIn_spec h5, noneIn_spec h6⟩
  · have hd : x.1.dst = some d := hd
    rw [hd] at h1
    show mem d (looks ops y.1) ≠ true
    simp only [inDst] at h1
    rw [h1]; simp
  · have hd : y.1.dst = some d := hd
    rw [hd] at h2
    show mem d (looks ops x.1) ≠ true
    simp only [inDst] at h2
    rw [h2]; simp
  · have hd : x.1.dst = some d := hd
    have hd' : y.1.dst = some d := hd'
    rw [hd, hd'] at h3
    simp [sameDst] at h3
  · rcases h4 with h4 | h4
    · exfalso
      rcases hw with hw | hw
      · have hw : x.2.writes = true := hw
        rw [hw] at h4; cases h4.1
      · have hw : y.2.writes = true := hw
        rw [hw] at h4; cases h4.2
    · exact meet_spec h4 k hk

end Am
