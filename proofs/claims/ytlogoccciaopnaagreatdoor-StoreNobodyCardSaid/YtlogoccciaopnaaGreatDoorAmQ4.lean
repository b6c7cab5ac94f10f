/- Regions whose order is drawn: the combinatorial half. Regions whose order is drawn: the law. -/
import Derived.Test.YtlogoccciaopnaaGreatDoorAmQ2
import Derived.Orders
namespace Am
open Go
variable {U : TyU} {R : Type} {P : Program} {G : Env U}

/-- what an operation does to the abstract state -/
structure Eff (U : TyU) where
  dst : Option Nat
  v : AV U
  looks : List Nat
  foot : List Nat
  writes : Bool
  blk : Nat → Option (Blk U)
  lo : Nat
  hi : Nat
  pre : Nat

def Eff.W (E : Eff U) (k : Nat) : Prop := (E.writes = true ∧ mem k E.foot = true) ∨ (E.lo ≤ k ∧ k < E.hi)

abbrev Fr (U : TyU) := Nat → Option (AV U)
abbrev Hp (U : TyU) := Nat → Option (Blk U)

def updF (f : Fr U) (d : Option Nat) (v : AV U) : Fr U := fun x => if d = some x then (f x).map (fun _ => v) else f x

open Classical in
noncomputable def updH (h : Hp U) (E : Eff U) : Hp U := fun k => if E.W k then E.blk k else h k

open Classical in
noncomputable def frA (S : Nat → Prop) : List (Eff U) → Nat → Fr U → Fr U
  | [], _, f => f
  | E :: es, i, f => frA S es (i + 1) (if S i then updF f E.dst E.v else f)

open Classical in
noncomputable def hpA (S : Nat → Prop) : List (Eff U) → Nat → Hp U → Hp U
  | [], _, h => h
  | E :: es, i, h => hpA S es (i + 1) (if S i then updH h E else h)

def SlotRel (e : En) : Option (AV U) → Option Value → Prop
  | some x, some c => Rel e x c
  | none, none => True
  | _, _ => False

structure Apart (E E' : Eff U) : Prop where
  d1 : ∀ d, E.dst = some d → mem d E'.looks ≠ true
  d2 : ∀ d, E'.dst = some d → mem d E.looks ≠ true
  dd : ∀ d, E.dst = some d → E'.dst ≠ some d
  foot : (E.writes = true ∨ E'.writes = true) → ∀ k, mem k E.foot = true → mem k E'.foot ≠ true
  n1 : ∀ k, mem k E'.foot = true → ¬ (E.lo ≤ k ∧ k < E.hi)
  n2 : ∀ k, mem k E.foot = true → ¬ (E'.lo ≤ k ∧ k < E'.hi)

theorem Apart.symm {E E' : Eff U} (h : Apart E E') : Apart E' E :=
  ⟨h.d2, h.d1, fun d h1 h2 => h.dd d h2 h1, fun hw k h1 h2 => h.foot hw.symm k h2 h1, h.n2, h.n1⟩

/-- what an operation must do, said of the model -/
def Sp (P : Program) (ops : Array Oper) (i : Nat) (E : Eff U) (f : Fr U) (h : Hp U) : Prop :=
  ∀ (e : En) (a : Act) (K : Act → World → Prop) (Q : Exit → Act → World → Prop), WF e → (∀ d, mem d E.looks = true → SlotRel e (f d) a.tmps[d]?) → (∀ k b, mem k E.foot = true → h k = some b → BlkOK e k b) →
    (∀ k, E.lo ≤ k → k < E.hi → e.m k = none) →
    (∀ (c : Value) (e' : En), WF e' → Evo (fun k => mem k E.foot = true) e e' → Rel e' E.v c →
      (∀ k b, (mem k E.foot = true ∨ (E.lo ≤ k ∧ k < E.hi)) → updH h E k = some b → BlkOK e' k b) → (∀ k, e.m k = none → e'.m k ≠ none → E.lo ≤ k ∧ k < E.hi) → K (a.put E.dst c) e'.w) →
    wpOp P ops Q i K a e.w

/-- the text's order -/
def Chain (P : Program) (ops : Array Oper) : List (Eff U) → Nat → Nat → Fr U → Hp U → Prop
  | [], _, _, _, _ => True
  | E :: es, i, n, f, h => E.lo = n ∧ n ≤ E.hi ∧ Sp P ops i E f h ∧ Chain P ops es (i + 1) E.hi (updF f E.dst E.v) (updH h E)

section
variable {ops : Array Oper}

theorem Chain.get {P : Program} : ∀ {es : List (Eff U)} {i n : Nat} {f : Fr U} {h : Hp U}, Chain P ops es i n f h → ∀ (j : Nat) (E : Eff U), es[j]? = some E →
    n ≤ E.lo ∧ E.lo ≤ E.hi ∧ Sp P ops (i + j) E (frA (fun _ => True) (es.take j) i f) (hpA (fun _ => True) (es.take j) i h)
  | [], _, _, _, _, _, j, E, hj => by simp at hj
  | E0 :: es, i, n, f, h, hc, 0, E, hj => by
    simp at hj; subst hj
    exact ⟨by have := hc.1; omega, by have := hc.1; have := hc.2.1; omega, by simpa [frA, hpA] using hc.2.2.1⟩
  | E0 :: es, i, n, f, h, hc, j + 1, E, hj => by
    obtain ⟨h1, h2, h3⟩ := Chain.get hc.2.2.2 j E (by simpa using hj)
    refine ⟨by have := hc.2.1; omega, h2, ?_⟩
    simp only [List.take_succ_cons, frA, hpA, if_true]
    rw [show i + (j + 1) = i + 1 + j by omega]
    exact h3

theorem Chain.mono {P : Program} : ∀ {es : List (Eff U)} {i n : Nat} {f : Fr U} {h : Hp U}, Chain P ops es i n f h → ∀ (j k : Nat) (E E' : Eff U), j < k → es[j]? = some E → es[k]? = some E' → E.hi ≤ E'.lo
  | [], _, _, _, _, _, j, k, E, E', _, hj, _ => by simp at hj
  | E0 :: es, i, n, f, h, hc, 0, k + 1, E, E', _, hj, hk => by
    simp at hj; subst hj
    exact (Chain.get hc.2.2.2 k E' (by simpa using hk)).1
  | E0 :: es, i, n, f, h, hc, j + 1, k + 1, E, E', hlt, hj, hk => Chain.mono hc.2.2.2 j k E E' (by omega) (by simpa using hj) (by simpa using hk)
  | E0 :: es, i, n, f, h, hc, j, 0, E, E', hlt, hj, hk => by omega

/-- a slot that no operation of the set writes -/
theorem frA_same (S : Nat → Prop) (d : Nat) : ∀ (es : List (Eff U)) (i : Nat) (f : Fr U), (∀ (j : Nat) (E : Eff U), es[j]? = some E → S (i + j) → E.dst ≠ some d) → frA S es i f d = f d
  | [], _, _, _ => rfl
  | E :: es, i, f, h => by
    simp only [frA]
    rw [frA_same S d es (i + 1) _ (fun j E' hj hS => h (j + 1) E' (by simpa using hj) (by rw [show i + (j + 1) = i + 1 + j by omega]; exact hS))]
    split
    · rename_i hS
      have := h 0 E rfl hS
      simp only [updF]
      rw [if_neg this]
    · rfl

theorem hpA_same (S : Nat → Prop) (k : Nat) : ∀ (es : List (Eff U)) (i : Nat) (h : Hp U), (∀ (j : Nat) (E : Eff U), es[j]? = some E → S (i + j) → ¬ E.W k) → hpA S es i h k = h k
  | [], _, _, _ => rfl
  | E :: es, i, h, hh => by
    simp only [hpA]
    rw [hpA_same S k es (i + 1) _ (fun j E' hj hS => hh (j + 1) E' (by simpa using hj) (by rw [show i + (j + 1) = i + 1 + j by omega]; exact hS))]
    split
    · rename_i hS
      have := hh 0 E rfl hS
      simp only [updH]
      rw [if_neg this]
    · rfl

/-- two sets that differ only in what does not write the slot -/
theorem frA_congr (S T : Nat → Prop) (d : Nat) : ∀ (es : List (Eff U)) (i : Nat) (f g : Fr U), f d = g d → (∀ (j : Nat) (E : Eff U), es[j]? = some E → (S (i + j) ↔ T (i + j)) ∨ E.dst ≠ some d) → frA S es i f d = frA T es i g d
  | [], _, _, _, hfg, _ => hfg
  | E :: es, i, f, g, hfg, h => by
    simp only [frA]
    refine frA_congr S T d es (i + 1) _ _ ?_ (fun j E' hj => by have := h (j + 1) E' (by simpa using hj); rw [show i + (j + 1) = i + 1 + j by omega] at this; exact this)
    rcases h 0 E rfl with h0 | h0
    · rw [Nat.add_zero] at h0
      by_cases hS : S i
      · rw [if_pos hS, if_pos (h0.1 hS)]; simp only [updF, hfg]
      · rw [if_neg hS, if_neg (fun ht => hS (h0.2 ht))]; exact hfg
    · have e1 : (updF f E.dst E.v) d = f d := by simp only [updF]; rw [if_neg h0]
      have e2 : (updF g E.dst E.v) d = g d := by simp only [updF]; rw [if_neg h0]
      split <;> split <;> simp only [e1, e2, hfg]

theorem hpA_congr (S T : Nat → Prop) (k : Nat) : ∀ (es : List (Eff U)) (i : Nat) (f g : Hp U), f k = g k → (∀ (j : Nat) (E : Eff U), es[j]? = some E → (S (i + j) ↔ T (i + j)) ∨ ¬ E.W k) → hpA S es i f k = hpA T es i g k
  | [], _, _, _, hfg, _ => hfg
  | E :: es, i, f, g, hfg, h => by
    simp only [hpA]
    refine hpA_congr S T k es (i + 1) _ _ ?_ (fun j E' hj => by have := h (j + 1) E' (by simpa using hj); rw [show i + (j + 1) = i + 1 + j by omega] at this; exact this)
    rcases h 0 E rfl with h0 | h0
    · rw [Nat.add_zero] at h0
      by_cases hS : S i
      · rw [if_pos hS, if_pos (h0.1 hS)]; simp only [updH, hfg]
      · rw [if_neg hS, if_neg (fun ht => hS (h0.2 ht))]; exact hfg
    · have e1 : (updH f E) k = f k := by simp only [updH]; rw [if_neg h0]
      have e2 : (updH g E) k = g k := by simp only [updH]; rw [if_neg h0]
      split <;> split <;> simp only [e1, e2, hfg]

theorem frA_append (S : Nat → Prop) : ∀ (xs ys : List (Eff U)) (i : Nat) (f : Fr U), frA S (xs ++ ys) i f = frA S ys (i + xs.length) (frA S xs i f)
  | [], ys, i, f => rfl
  | E :: xs, ys, i, f => by
    simp only [List.cons_append, frA, List.length_cons]
    rw [frA_append S xs ys, show i + 1 + xs.length = i + (xs.length + 1) by omega]

theorem hpA_append (S : Nat → Prop) : ∀ (xs ys : List (Eff U)) (i : Nat) (f : Hp U), hpA S (xs ++ ys) i f = hpA S ys (i + xs.length) (hpA S xs i f)
  | [], ys, i, f => rfl
  | E :: xs, ys, i, f => by
    simp only [List.cons_append, hpA, List.length_cons]
    rw [hpA_append S xs ys, show i + 1 + xs.length = i + (xs.length + 1) by omega]

theorem split_at {α : Type} {es : List α} {i : Nat} {E : α} (h : es[i]? = some E) : es = es.take i ++ E :: es.drop (i + 1) ∧ (es.take i).length = i := by
  have hl : i < es.length := (List.getElem?_eq_some_iff.1 h).1
  have he : es[i] = E := (List.getElem?_eq_some_iff.1 h).2
  refine ⟨?_, by simp; omega⟩
  rw [← he, ← List.drop_eq_getElem_cons hl, List.take_append_drop]

/-- what an operation looks at is as it was in the text's order -/
theorem frA_look {S : Nat → Prop} {es : List (Eff U)} {f : Fr U} {i d : Nat} {E : Eff U} (hE : es[i]? = some E)
    (h1 : ∀ (j : Nat) (E' : Eff U), j < i → es[j]? = some E' → ¬ S j → E'.dst ≠ some d) (h2 : ∀ (j : Nat) (E' : Eff U), i ≤ j → es[j]? = some E' → S j → E'.dst ≠ some d) :
    frA S es 0 f d = frA (fun _ => True) (es.take i) 0 f d := by
  obtain ⟨hs, hl⟩ := split_at hE
  have hlt : i < es.length := (List.getElem?_eq_some_iff.1 hE).1
  have e1 : frA S es 0 f d = frA S (es.take i) 0 f d := by
    conv => lhs; rw [← List.take_append_drop i es]
    rw [frA_append]
    refine frA_same S d _ _ _ (fun j E' hj hS => ?_)
    rw [List.getElem?_drop] at hj
    rw [hl] at hS
    exact h2 (i + j) E' (by omega) hj (by simpa using hS)
  rw [e1]
  refine frA_congr S (fun _ => True) d _ 0 _ _ rfl (fun j E' hj => ?_)
  have hji : j < i := by have := (List.getElem?_eq_some_iff.1 hj).1; omega
  have hj' : es[j]? = some E' := by rw [List.getElem?_take, if_pos hji] at hj; exact hj
  by_cases hS : S j
  · left; simp [hS]
  · right; exact h1 j E' hji hj' hS

theorem hpA_look {S : Nat → Prop} {es : List (Eff U)} {f : Hp U} {i d : Nat} {E : Eff U} (hE : es[i]? = some E)
    (h1 : ∀ (j : Nat) (E' : Eff U), j < i → es[j]? = some E' → ¬ S j → ¬ E'.W d) (h2 : ∀ (j : Nat) (E' : Eff U), i ≤ j → es[j]? = some E' → S j → ¬ E'.W d) :
    hpA S es 0 f d = hpA (fun _ => True) (es.take i) 0 f d := by
  obtain ⟨hs, hl⟩ := split_at hE
  have hlt : i < es.length := (List.getElem?_eq_some_iff.1 hE).1
  have e1 : hpA S es 0 f d = hpA S (es.take i) 0 f d := by
    conv => lhs; rw [← List.take_append_drop i es]
    rw [hpA_append]
    refine hpA_same S d _ _ _ (fun j E' hj hS => ?_)
    rw [List.getElem?_drop] at hj
    rw [hl] at hS
    exact h2 (i + j) E' (by omega) hj (by simpa using hS)
  rw [e1]
  refine hpA_congr S (fun _ => True) d _ 0 _ _ rfl (fun j E' hj => ?_)
  have hji : j < i := by have := (List.getElem?_eq_some_iff.1 hj).1; omega
  have hj' : es[j]? = some E' := by rw [List.getElem?_take, if_pos hji] at hj; exact hj
  by_cases hS : S j
  · left; simp [hS]
  · right; exact h1 j E' hji hj' hS

theorem updF_some (f : Fr U) (d : Option Nat) (v : AV U) (x : Nat) : (updF f d v x).isSome = (f x).isSome := by
  simp only [updF]
  split
  · cases f x <;> rfl
  · rfl

theorem frA_some (S : Nat → Prop) (d : Nat) : ∀ (es : List (Eff U)) (i : Nat) (f : Fr U), (frA S es i f d).isSome = (f d).isSome
  | [], _, _ => rfl
  | E :: es, i, f => by
    simp only [frA]
    rw [frA_some S d es]
    split
    · exact updF_some ..
    · rfl

theorem map_const {α β : Type} {x y : Option α} (v : β) (h : x.isSome = y.isSome) : x.map (fun _ => v) = y.map (fun _ => v) := by
  cases x <;> cases y <;> first | rfl | (simp at h)

/-- one more operation done -/
theorem frA_add {S : Nat → Prop} {es : List (Eff U)} {f : Fr U} {i : Nat} {E : Eff U} (hE : es[i]? = some E) (hi : ¬ S i)
    (h2 : ∀ (j : Nat) (E' : Eff U), i < j → es[j]? = some E' → S j → ∀ d, E.dst = some d → E'.dst ≠ some d) (d : Nat) :
    frA (fun j => S j ∨ j = i) es 0 f d = updF (frA S es 0 f) E.dst E.v d := by
  obtain ⟨hs, hl⟩ := split_at hE
  have e0 : frA (fun j => S j ∨ j = i) (es.take i) 0 f = frA S (es.take i) 0 f := by
    funext x
    refine frA_congr _ _ x _ 0 _ _ rfl (fun j E' hj => .inl ?_)
    have hji : j < i := by have := (List.getElem?_eq_some_iff.1 hj).1; omega
    rw [Nat.zero_add]
    constructor
    · rintro (h | h)
      · exact h
      · omega
    · exact .inl
  have split : ∀ (T : Nat → Prop), frA T es 0 f = frA T (E :: es.drop (i + 1)) i (frA T (es.take i) 0 f) := by
    intro T
    conv => lhs; rw [hs]
    rw [frA_append, hl, Nat.zero_add]
  rw [split, e0]
  simp only [frA]
  rw [if_pos (Or.inr rfl)]
  by_cases hd : E.dst = some d
  · rw [frA_same _ d _ _ _ (fun j E' hj hS => ?_)]
    · simp only [updF, if_pos hd]
      exact map_const _ (by rw [frA_some, frA_some])
    · rw [List.getElem?_drop] at hj
      rcases hS with hS | hS
      · exact h2 (i + 1 + j) E' (by omega) hj hS d hd
      · omega
  · have e1 : frA (fun j => S j ∨ j = i) (es.drop (i + 1)) (i + 1) (updF (frA S (es.take i) 0 f) E.dst E.v) d = frA S (es.drop (i + 1)) (i + 1) (frA S (es.take i) 0 f) d := by
      refine frA_congr _ _ d _ _ _ _ ?_ (fun j E' hj => .inl ?_)
      · simp only [updF]; rw [if_neg hd]
      · constructor
        · rintro (h | h)
          · exact h
          · omega
        · exact .inl
    rw [e1]
    simp only [updF]
    rw [if_neg hd, split S]
    simp only [frA]
    rw [if_neg hi]

theorem hpA_add {S : Nat → Prop} {es : List (Eff U)} {f : Hp U} {i : Nat} {E : Eff U} (hE : es[i]? = some E) (hi : ¬ S i)
    (h2 : ∀ (j : Nat) (E' : Eff U), i < j → es[j]? = some E' → S j → ∀ k, E.W k → ¬ E'.W k) (k : Nat) :
    hpA (fun j => S j ∨ j = i) es 0 f k = updH (hpA S es 0 f) E k := by
  obtain ⟨hs, hl⟩ := split_at hE
  have e0 : hpA (fun j => S j ∨ j = i) (es.take i) 0 f = hpA S (es.take i) 0 f := by
    funext x
    refine hpA_congr _ _ x _ 0 _ _ rfl (fun j E' hj => .inl ?_)
    have hji : j < i := by have := (List.getElem?_eq_some_iff.1 hj).1; omega
    rw [Nat.zero_add]
    constructor
    · rintro (h | h)
      · exact h
      · omega
    · exact .inl
  have split : ∀ (T : Nat → Prop), hpA T es 0 f = hpA T (E :: es.drop (i + 1)) i (hpA T (es.take i) 0 f) := by
    intro T
    conv => lhs; rw [hs]
    rw [hpA_append, hl, Nat.zero_add]
  rw [split, e0]
  simp only [hpA]
  rw [if_pos (Or.inr rfl)]
  by_cases hd : E.W k
  · rw [hpA_same _ k _ _ _ (fun j E' hj hS => ?_)]
    · simp only [updH, if_pos hd]
    · rw [List.getElem?_drop] at hj
      rcases hS with hS | hS
      · exact h2 (i + 1 + j) E' (by omega) hj hS k hd
      · omega
  · have e1 : hpA (fun j => S j ∨ j = i) (es.drop (i + 1)) (i + 1) (updH (hpA S (es.take i) 0 f) E) k = hpA S (es.drop (i + 1)) (i + 1) (hpA S (es.take i) 0 f) k := by
      refine hpA_congr _ _ k _ _ _ _ ?_ (fun j E' hj => .inl ?_)
      · simp only [updH]; rw [if_neg hd]
      · constructor
        · rintro (h | h)
          · exact h
          · omega
        · exact .inl
    rw [e1]
    simp only [updH]
    rw [if_neg hd, split S]
    simp only [hpA]
    rw [if_neg hi]

/-- the text is well ordered -/
structure Plan (P : Program) (ops : Array Oper) (es : List (Eff U)) (n0 : Nat) (f0 : Fr U) (h0 : Hp U) : Prop where
  chain : Chain P ops es 0 n0 f0 h0
  len : es.length = ops.size
  dst : ∀ (i : Nat) (E : Eff U) (o : Oper), es[i]? = some E → ops[i]? = some o → o.dst = E.dst
  apart : ∀ (i j : Nat) (E E' : Eff U), j < i → es[i]? = some E → es[j]? = some E' → E.pre.testBit j = true ∨ Apart E' E
  pre : ∀ (i : Nat) (E : Eff U) (o : Oper) (j : Nat), es[i]? = some E → ops[i]? = some o → E.pre.testBit j = true → ∃ x ∈ o.after, Region.binds .any x = true ∧ x.on < i ∧ (j = x.on ∨ ∃ E' : Eff U, es[x.on]? = some E' ∧ E'.pre.testBit j = true)
  after : ∀ (i : Nat) (o : Oper), ops[i]? = some o → ∀ x ∈ o.after, Region.binds .any x = true → x.on < i

structure Inv (es : List (Eff U)) (n0 : Nat) (f0 : Fr U) (h0 : Hp U) (S : Nat → Prop) (e : En) (a : Act) : Prop where
  wf : WF e
  fr : ∀ d : Nat, SlotRel e (frA S es 0 f0 d) a.tmps[d]?
  hp : ∀ (k : Nat) (b : Blk U), hpA S es 0 h0 k = some b → BlkOK e k b
  new : ∀ k : Nat, n0 ≤ k → e.m k ≠ none → ∃ (i : Nat) (E : Eff U), S i ∧ es[i]? = some E ∧ E.lo ≤ k ∧ k < E.hi
  defers : a.defers = []

theorem SlotRel.mono {D : Nat → Prop} {e e' : En} (h : Evo D e e') (hw : WF e) {x : Option (AV U)} {c : Option Value} (hr : SlotRel e x c) : SlotRel e' x c := by
  cases x <;> cases c <;> first | exact hr | exact Rel.mono h hw hr

theorem put_slot {e : En} {a : Act} {f : Fr U} {v : AV U} {c : Value} (hv : Rel e v c) {dst : Option Nat} (h : ∀ d, SlotRel e (f d) a.tmps[d]?) (d : Nat) : SlotRel e (updF f dst v d) (a.put dst c).tmps[d]? := by
  cases dst with
  | none => simpa [updF, Act.put] using h d
  | some t =>
    have hd := h d
    simp only [updF, Act.put]
    by_cases ht : t = d
    · subst ht
      rw [if_pos rfl]
      rw [Array.getElem?_setIfInBounds, if_pos rfl]
      cases hf : f t with
      | none =>
        rw [hf] at hd
        cases hx : a.tmps[t]? with
        | none =>
          have : ¬ t < a.tmps.size := fun hl => by rw [Array.getElem?_eq_getElem hl] at hx; cases hx
          rw [if_neg this]; trivial
        | some y => rw [hx] at hd; exact absurd hd id
      | some x =>
        rw [hf] at hd
        cases hx : a.tmps[t]? with
        | none => rw [hx] at hd; exact absurd hd id
        | some y =>
          have : t < a.tmps.size := (Array.getElem?_eq_some_iff.1 hx).1
          rw [if_pos this]; exact hv
    · rw [if_neg (fun hh => ht (by cases hh; rfl)), Array.getElem?_setIfInBounds_ne ht]
      exact hd

/-- one operation, whichever are done -/
theorem step_order {es : List (Eff U)} {n0 : Nat} {f0 : Fr U} {h0 : Hp U} (hp : Plan P ops es n0 f0 h0) (hn : ∀ (i : Nat) (E : Eff U), es[i]? = some E → n0 ≤ E.lo) {S : Nat → Prop}
    (hS : ∀ (i : Nat) (E : Eff U) (j : Nat), S i → es[i]? = some E → E.pre.testBit j = true → S j) {i : Nat} {E : Eff U} (hE : es[i]? = some E) (hi : ¬ S i) (hr : ∀ j, E.pre.testBit j = true → S j)
    {e : En} {a : Act} (hI : Inv es n0 f0 h0 S e a) {K : Act → World → Prop} {Q : Exit → Act → World → Prop}
    (hK : ∀ (e' : En) (a' : Act), Inv es n0 f0 h0 (fun j => S j ∨ j = i) e' a' → Evo allD e e' → K a' e'.w) : wpOp P ops Q i K a e.w := by
  obtain ⟨c1, c2, c3⟩ := hp.chain.get i E hE
  rw [Nat.zero_add] at c3
  -- earlier ones that are not done, and later ones that are, are apart
  have ap1 : ∀ (j : Nat) (E' : Eff U), j < i → es[j]? = some E' → ¬ S j → Apart E' E := fun j E' hj hE' hS' => (hp.apart i j E E' hj hE hE').resolve_left (fun hb => hS' (hr j hb))
  have ap2 : ∀ (j : Nat) (E' : Eff U), i ≤ j → es[j]? = some E' → S j → Apart E E' := fun j E' hj hE' hS' => by
    have hij : i < j := by
      rcases Nat.lt_or_eq_of_le hj with h | h
      · exact h
      · subst h; exact absurd hS' hi
    exact (hp.apart j i E' E hij hE' hE).resolve_left (fun hb => hi (hS j E' i hS' hE' hb))
  have look : ∀ d, mem d E.looks = true → frA S es 0 f0 d = frA (fun _ => True) (es.take i) 0 f0 d := fun d hd =>
    frA_look hE (fun j E' hj hE' hS' hdd => (ap1 j E' hj hE' hS').d1 d hdd hd) (fun j E' hj hE' hS' hdd => (ap2 j E' hj hE' hS').d2 d hdd hd)
  -- blocks
  have blocks : ∀ k, mem k E.foot = true → (∀ (j : Nat) (E' : Eff U), (j < i ∧ ¬ S j ∨ i ≤ j ∧ S j) → es[j]? = some E' → E'.writes = true → mem k E'.foot = true → E.writes = true → False) := by
    intro k hk j E' hj hE' hw hf hw2
    rcases hj with ⟨h1, h2⟩ | ⟨h1, h2⟩
    · exact (ap1 j E' h1 hE' h2).foot (.inl hw) k hf hk
    · exact (ap2 j E' h1 hE' h2).foot (.inr hw) k hk hf
  have hlook : ∀ k, mem k E.foot = true → hpA S es 0 h0 k = hpA (fun _ => True) (es.take i) 0 h0 k := fun k hk =>
    hpA_look hE (fun j E' hj hE' hS' hW => by
        rcases hW with ⟨h1, h2⟩ | h2
        · exact (ap1 j E' hj hE' hS').foot (.inl h1) k h2 hk
        · exact (ap1 j E' hj hE' hS').n1 k hk h2)
      (fun j E' hj hE' hS' hW => by
        rcases hW with ⟨h1, h2⟩ | h2
        · exact (ap2 j E' hj hE' hS').foot (.inr h1) k hk h2
        · exact (ap2 j E' hj hE' hS').n2 k hk h2)
  refine c3 e a K Q hI.wf (fun d hd => by rw [← look d hd]; exact hI.fr d) (fun k b hk hb => hI.hp k b (by rw [hlook k hk]; exact hb)) (fun k h1 h2 => ?_) (fun c e' hw' hEv hv hblk hnew => ?_)
  · cases hm : e.m k with
    | none => rfl
    | some l =>
      obtain ⟨j, E', hSj, hE', g1, g2⟩ := hI.new k (by omega) (by rw [hm]; simp)
      rcases Nat.lt_trichotomy i j with h | h | h
      · have := hp.chain.mono i j E E' h hE hE'; omega
      · subst h; exact absurd hSj hi
      · have := hp.chain.mono j i E' E h hE' hE; omega
  · refine hK e' _ ⟨hw', fun d => ?_, fun k b hb => ?_, fun k hk hm => ?_, by rw [Am.put_defers]; exact hI.defers⟩ hEv.all
    · rw [frA_add hE hi (fun j E' hj hE' hS' d hd => (ap2 j E' (by omega) hE' hS').dd d hd)]
      exact put_slot hv (fun d => (hI.fr d).mono hEv hI.wf) d
    · rw [hpA_add hE hi (fun j E' hj hE' hS' k hW hW' => ?_)] at hb
      · by_cases hk : mem k E.foot = true ∨ (E.lo ≤ k ∧ k < E.hi)
        · refine hblk k b hk ?_
          by_cases hW : E.W k
          · simp only [updH, if_pos hW] at hb ⊢; exact hb
          · simp only [updH, if_neg hW] at hb ⊢
            rcases hk with hk | hk
            · rw [← hlook k hk]; exact hb
            · exact absurd (Or.inr hk) hW
        · have hW : ¬ E.W k := fun hW => hk (hW.imp (fun h => h.2) id)
          simp only [updH, if_neg hW] at hb
          exact (hI.hp k b hb).mono hEv hI.wf (fun hh => hk (.inl hh))
      · have hA := ap2 j E' (by omega) hE' hS'
        rcases hW with ⟨w1, w2⟩ | w2
        · rcases hW' with ⟨w3, w4⟩ | w4
          · exact hA.foot (.inl w1) k w2 w4
          · exact hA.n2 k w2 w4
        · rcases hW' with ⟨w3, w4⟩ | w4
          · exact hA.n1 k w4 w2
          · have := hp.chain.mono i j E E' hj hE hE'; omega
    · by_cases hm0 : e.m k = none
      · have := hnew k hm0 hm
        exact ⟨i, E, .inr rfl, hE, this⟩
      · obtain ⟨j, E', hSj, hE', g⟩ := hI.new k hk hm0
        exact ⟨j, E', .inl hSj, hE', g⟩
end

end Am

namespace Am
open Go
variable {U : TyU} {R : Type} {P : Program} {G : Env U}

section
variable {ops : Array Oper}

def undone (n : Nat) (listed : Array Bool) : List Nat := (List.range n).filter fun j => !listed.getD j false

theorem filter_less {α : Type} {p q : α → Bool} (hpq : ∀ x, q x = true → p x = true) {e : α} (hp : p e = true) (hq : q e = false) : ∀ (l : List α), e ∈ l → (l.filter q).length < (l.filter p).length
  | [], h => by simp at h
  | x :: l, h => by
    have hle : ∀ l : List α, (l.filter q).length ≤ (l.filter p).length := by
      intro l
      induction l with
      | nil => simp
      | cons y l ih =>
        simp only [List.filter_cons]
        cases hy : q y with
        | true => rw [hpq y hy]; simpa using ih
        | false => cases p y <;> simp <;> omega
    rcases List.mem_cons.1 h with h | h
    · subst h
      simp only [List.filter_cons, hp, hq]
      have := hle l
      simp; omega
    · have := filter_less hpq hp hq l h
      simp only [List.filter_cons]
      cases hx : q x with
      | true => rw [hpq x hx]; simp; exact this
      | false => cases p x <;> simp <;> omega

theorem ready_mem {listed : Array Bool} {i : Nat} (hl : listed.size = ops.size) : i ∈ Region.ready .any ops listed ↔ i < ops.size ∧ listed.getD i false = false ∧ ∃ o, ops[i]? = some o ∧ ∀ x ∈ o.after, Region.binds .any x = true → listed.getD x.on false = true := by
  simp only [Region.ready, List.mem_filter, List.mem_range, Bool.and_eq_true]
  constructor
  · rintro ⟨h1, h2, h3⟩
    have ho : ops[i]? = some ops[i] := Array.getElem?_eq_getElem h1
    refine ⟨h1, ?_, ops[i], ho, fun x hx hb => ?_⟩
    · have hi : i < listed.size := by omega
      simp only [Array.getD_eq_getD_getElem?, Array.getElem?_eq_getElem hi, Option.getD_some] at h2 ⊢
      simpa using h2
    · rw [ho] at h3
      simp only [Option.map_some, Option.getD_some, Array.all_eq_true_iff_forall_mem] at h3
      have := h3 x hx
      rw [hb] at this
      simpa using this
  · rintro ⟨h1, h2, o, ho, h3⟩
    refine ⟨h1, ?_, ?_⟩
    · have hi : i < listed.size := by omega
      simp only [Array.getD_eq_getD_getElem?, Array.getElem?_eq_getElem hi, Option.getD_some] at h2 ⊢
      simpa using h2
    · rw [ho]
      simp only [Option.map_some, Option.getD_some, Array.all_eq_true_iff_forall_mem]
      intro x hx
      cases hb : Region.binds .any x with
      | false => rfl
      | true => simpa using h3 x hx hb

theorem order_any {es : List (Eff U)} {n0 : Nat} {f0 : Fr U} {h0 : Hp U} (hp : Plan P ops es n0 f0 h0) (hn : ∀ (i : Nat) (E : Eff U), es[i]? = some E → n0 ≤ E.lo) {Q : Exit → Act → World → Prop} :
    ∀ (fuel : Nat) (listed : Array Bool) (e : En) (a : Act), listed.size = ops.size → (undone ops.size listed).length ≤ fuel →
      (∀ (i : Nat) (E : Eff U) (j : Nat), listed.getD i false = true → es[i]? = some E → E.pre.testBit j = true → listed.getD j false = true) →
      Inv es n0 f0 h0 (fun j => listed.getD j false = true) e a →
      (∀ (e' : En) (a' : Act), Inv es n0 f0 h0 (fun _ => True) e' a' → Evo allD e e' → Q .normal a' e'.w) → wpAny P .any ops Q fuel listed a e.w := by
  -- all are done
  have done : ∀ (listed : Array Bool) (e : En) (a : Act), undone ops.size listed = [] → Inv es n0 f0 h0 (fun j => listed.getD j false = true) e a → Inv es n0 f0 h0 (fun _ => True) e a := by
    intro listed e a hu hI
    have hall : ∀ j, j < ops.size → listed.getD j false = true := by
      intro j hj
      cases hl : listed.getD j false with
      | true => rfl
      | false =>
        have : j ∈ undone ops.size listed := List.mem_filter.2 ⟨List.mem_range.2 hj, by rw [hl]; rfl⟩
        rw [hu] at this; cases this
    have hlt : ∀ (j : Nat) (E : Eff U), es[j]? = some E → j < ops.size := fun j E hj => by rw [← hp.len]; exact (List.getElem?_eq_some_iff.1 hj).1
    refine ⟨hI.wf, fun d => ?_, fun k b hb => ?_, fun k hk hm => ?_, hI.defers⟩
    · rw [← frA_congr (fun j => listed.getD j false = true) (fun _ => True) d es 0 f0 f0 rfl (fun j E hj => .inl ⟨fun _ => trivial, fun _ => by rw [Nat.zero_add]; exact hall j (hlt j E hj)⟩)]
      exact hI.fr d
    · rw [← hpA_congr (fun j => listed.getD j false = true) (fun _ => True) k es 0 h0 h0 rfl (fun j E hj => .inl ⟨fun _ => trivial, fun _ => by rw [Nat.zero_add]; exact hall j (hlt j E hj)⟩)] at hb
      exact hI.hp k b hb
    · obtain ⟨i, E, _, hE, g⟩ := hI.new k hk hm
      exact ⟨i, E, trivial, hE, g⟩
  have none : ∀ (listed : Array Bool), listed.size = ops.size → Region.ready .any ops listed = [] → undone ops.size listed = [] := by
    intro listed hl hr
    have key : ∀ n i, i ≤ n → i < ops.size → listed.getD i false = true := by
      intro n
      induction n with
      | zero =>
        intro i hi hi2
        have : i = 0 := by omega
        subst this
        cases hg : listed.getD 0 false with
        | true => rfl
        | false =>
          have : 0 ∈ Region.ready .any ops listed := (ready_mem hl).2 ⟨hi2, hg, ops[0], Array.getElem?_eq_getElem hi2, fun x hx hb => by have := hp.after 0 ops[0] (Array.getElem?_eq_getElem hi2) x hx hb; omega⟩
          rw [hr] at this; cases this
      | succ n ih =>
        intro i hi hi2
        cases hg : listed.getD i false with
        | true => rfl
        | false =>
          have : i ∈ Region.ready .any ops listed := (ready_mem hl).2 ⟨hi2, hg, ops[i], Array.getElem?_eq_getElem hi2, fun x hx hb => by
            have := hp.after i ops[i] (Array.getElem?_eq_getElem hi2) x hx hb
            exact ih x.on (by omega) (by omega)⟩
          rw [hr] at this; cases this
    unfold undone
    rw [List.filter_eq_nil_iff]
    intro j hj
    rw [List.mem_range] at hj
    simp only [key j j (Nat.le_refl _) hj, Bool.not_true, Bool.false_eq_true, not_false_eq_true]
  intro fuel
  induction fuel with
  | zero =>
    intro listed e a hl hu hS hI hQ
    have hu : undone ops.size listed = [] := List.length_eq_zero_iff.1 (by omega)
    refine ⟨?_, hQ e a (done listed e a hu hI) (.refl _ _)⟩
    rw [List.eq_nil_iff_forall_not_mem]
    intro i hi
    obtain ⟨h1, h2, _⟩ := (ready_mem hl).1 hi
    have : i ∈ undone ops.size listed := List.mem_filter.2 ⟨List.mem_range.2 h1, by rw [h2]; rfl⟩
    rw [hu] at this; cases this
  | succ fuel ih =>
    intro listed e a hl hu hS hI hQ
    refine ⟨fun hr => hQ e a (done listed e a (none listed hl hr) hI) (.refl _ _), fun i hi => ?_⟩
    obtain ⟨h1, h2, o, ho, h3⟩ := (ready_mem hl).1 hi
    have hiE : i < es.length := by rw [hp.len]; exact h1
    have hE : es[i]? = some es[i] := List.getElem?_eq_getElem hiE
    have hpre : ∀ j, es[i].pre.testBit j = true → listed.getD j false = true := by
      intro j hj
      obtain ⟨x, hx, hb, _, hor⟩ := hp.pre i es[i] o j hE ho hj
      have hx' := h3 x hx hb
      rcases hor with rfl | ⟨E', hE', hj'⟩
      · exact hx'
      · exact hS x.on E' j hx' hE' hj'
    have hset : ∀ j, (listed.setIfInBounds i true).getD j false = true ↔ (listed.getD j false = true ∨ j = i) := by
      intro j
      simp only [Array.getD_eq_getD_getElem?, Array.getElem?_setIfInBounds]
      by_cases hji : i = j
      · subst hji
        have : i < listed.size := by omega
        simp [this]
      · have : ¬ j = i := fun h => hji h.symm
        simp [hji, this]
    refine step_order hp hn hS hE (by rw [h2]; simp) hpre hI (fun e' a' hI' hEv => ?_)
    refine ih _ e' a' (by simpa using hl) ?_ ?_ ?_ (fun e2 a2 hI2 hE2 => hQ e2 a2 hI2 (hEv.trans hE2))
    · have : (undone ops.size (listed.setIfInBounds i true)).length < (undone ops.size listed).length := by
        refine filter_less (e := i) (fun x hx => ?_) (by rw [h2]; rfl) ?_ _ (List.mem_range.2 h1)
        · cases hl' : listed.getD x false with
          | false => rfl
          | true => have := (hset x).2 (.inl hl'); rw [this] at hx; cases hx
        · have := (hset i).2 (.inr rfl); rw [this]; rfl
      omega
    · intro q E j hq hE' hj
      rcases (hset q).1 hq with h | h
      · exact (hset j).2 (.inl (hS q E j h hE' hj))
      · subst h
        rw [hE] at hE'; cases hE'
        exact (hset j).2 (.inl (hpre j hj))
    · refine ⟨hI'.wf, fun d => ?_, fun k b hb => ?_, fun k hk hm => ?_, hI'.defers⟩
      · rw [frA_congr (fun j => (listed.setIfInBounds i true).getD j false = true) (fun j => listed.getD j false = true ∨ j = i) d es 0 f0 f0 rfl (fun j E hj => .inl (hset _))]
        exact hI'.fr d
      · rw [hpA_congr (fun j => (listed.setIfInBounds i true).getD j false = true) (fun j => listed.getD j false = true ∨ j = i) k es 0 h0 h0 rfl (fun j E hj => .inl (hset _))] at hb
        exact hI'.hp k b hb
      · obtain ⟨q, E, hq, hE', g⟩ := hI'.new k hk hm
        exact ⟨q, E, (hset q).2 hq, hE', g⟩
end

/-! ## Out of the evaluator -/
theorem testBit_or_pow {a b j : Nat} (h : (a ||| 2 ^ b).testBit j = true) : a.testBit j = true ∨ j = b := by
  rw [Nat.testBit_or, Bool.or_eq_true] at h
  refine h.imp id (fun h => ?_)
  rw [Nat.testBit_two_pow] at h
  simpa [eq_comm] using h

theorem preBits_spec {acc : List (Oper × Rec)} : ∀ (l : List Edge) (j : Nat), (preBits acc l).testBit j = true → ∃ x ∈ l, Region.binds .any x = true ∧ (j = x.on ∨ ∃ y, acc[x.on]? = some y ∧ y.2.pre.testBit j = true)
  | [], j, h => by simp [preBits] at h
  | e :: l, j, h => by
    unfold preBits at h
    have rest : ∀ {j}, (preBits acc l).testBit j = true → ∃ x ∈ e :: l, Region.binds .any x = true ∧ (j = x.on ∨ ∃ y, acc[x.on]? = some y ∧ y.2.pre.testBit j = true) := fun h => by
      obtain ⟨x, hx, g⟩ := preBits_spec l _ h
      exact ⟨x, List.mem_cons_of_mem _ hx, g⟩
    split at h
    · rename_i hb
      rw [Nat.testBit_or, Bool.or_eq_true] at h
      rcases h with h | h
      · rcases testBit_or_pow h with h | h
        · exact rest h
        · exact ⟨e, List.mem_cons_self .., hb, .inl h⟩
      · cases ha : acc[e.on]? with
        | none => rw [ha] at h; simp at h
        | some y => rw [ha] at h; exact ⟨e, List.mem_cons_self .., hb, .inr ⟨y, ha, h⟩⟩
    · exact rest h

theorem preOk_spec {i : Nat} : ∀ (l : List Edge), preOk i l = true → ∀ x ∈ l, Region.binds .any x = true → x.on < i
  | [], _, x, hx, _ => by cases hx
  | e :: l, h, x, hx, hb => by
    unfold preOk at h
    split at h
    · split at h
      · rename_i hlt
        rcases List.mem_cons.1 hx with rfl | hx
        · simpa [Nat.blt_eq] using hlt
        · exact preOk_spec l h x hx hb
      · cases h
    · rename_i hb'
      rcases List.mem_cons.1 hx with rfl | hx
      · rw [hb] at hb'; cases hb'
      · exact preOk_spec l h x hx hb

theorem apartFrom_spec {ops : List Oper} {o : Oper} {r : Rec} : ∀ (l : List (Oper × Rec)) (i : Nat), apartFrom ops o r l i = true → ∀ (j : Nat) (x : Oper × Rec), l[j]? = some x → r.pre.testBit (i + j) = true ∨ apartOps ops x.1 x.2 o r = true
  | [], _, _, j, x, hx => by simp at hx
  | (o', r') :: l, i, h, j, x, hx => by
    unfold apartFrom at h
    split at h
    · rename_i hh
      rw [Bool.or_eq_true] at hh
      cases j with
      | zero => simp at hx; subst hx; exact hh
      | succ j =>
        have := apartFrom_spec l (i + 1) h j x (by simpa using hx)
        rw [show i + (j + 1) = i + 1 + j by omega]
        exact this
    · cases h

theorem meet_spec {l m : List Nat} (h : meet l m = false) : ∀ k, mem k l = true → mem k m ≠ true := by
  induction l with
  | nil => intro k hk; simp [mem] at hk
  | cons a l ih =>
    unfold meet at h
    split at h
    · cases h
    · rename_i hm
      intro k hk
      unfold mem at hk
      split at hk
      · rename_i hb
        have := Nat.eq_of_beq_eq_true hb
        subst this
        rw [hm]; simp
      · exact ih h k hk

theorem noneIn_spec {lo hi : Nat} {l : List Nat} (h : noneIn lo hi l = true) : ∀ k, mem k l = true → ¬ (lo ≤ k ∧ k < hi) := by
  induction l with
  | nil => intro k hk; simp [mem] at hk
  | cons a l ih =>
    unfold noneIn at h
    split at h
    · cases h
    · rename_i hm
      intro k hk
      unfold mem at hk
      split at hk
      · rename_i hb
        have := Nat.eq_of_beq_eq_true hb
        subst this
        rintro ⟨h1, h2⟩
        rw [Bool.and_eq_false_iff] at hm
        rcases hm with hm | hm
        · rw [Nat.ble_eq_true_of_le h1] at hm; cases hm
        · have : Nat.blt a hi = true := by simpa [Nat.blt_eq] using h2
          rw [this] at hm; cases hm
      · exact ih h k hk

def effOf (ops : List Oper) (x : Oper × Rec) (v : AV U) (blk : Nat → Option (Blk U)) : Eff U :=
  { dst := x.1.dst, v := v, looks := looks ops x.1, foot := x.2.foot, writes := x.2.writes, blk := blk, lo := x.2.lo, hi := x.2.hi, pre := x.2.pre }

theorem apart_of {ops : List Oper} {x y : Oper × Rec} (h : apartOps ops x.1 x.2 y.1 y.2 = true) (v v' : AV U) (b b' : Nat → Option (Blk U)) : Apart (effOf ops x v b) (effOf ops y v' b') := by
  unfold apartOps at h
  simp only [Bool.and_eq_true, Bool.not_eq_true', Bool.or_eq_false_iff, Bool.and_eq_false_iff] at h
  obtain ⟨⟨⟨⟨⟨h1, h2⟩, h3⟩, h4⟩, h5⟩, h6⟩ := h
  refine ⟨fun d hd => ?_, fun d hd => ?_, fun d hd hd' => ?_, fun hw k hk => ?_, noneIn_spec h5, noneIn_spec h6⟩
  · have hd : x.1.dst = some d := hd
    rw [hd] at h1
    show mem d (looks ops y.1) ≠ true
    simp only [inDst] at h1
    rw [h1]; simp
  · have hd : y.1.dst = some d := hd
    rw [hd] at h2
    show mem d (looks ops x.1) ≠ true
    simp only [inDst] at h2
    rw [h2]; simp
  · have hd : x.1.dst = some d := hd
    have hd' : y.1.dst = some d := hd'
    rw [hd, hd'] at h3
    simp [sameDst] at h3
  · rcases h4 with h4 | h4
    · exfalso
      rcases hw with hw | hw
      · have hw : x.2.writes = true := hw
        rw [hw] at h4; cases h4.1
      · have hw : y.2.writes = true := hw
        rw [hw] at h4; cases h4.2
    · exact meet_spec h4 k hk

end Am
