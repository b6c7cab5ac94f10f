/- Ascending lists of names: sorted and made compact, or put in one by one. -/
import Derived.Test.YtbeffjadfgbojaaAmC6
namespace Am
open Go Go.Proofs
set_option maxRecDepth 100000

abbrev Str := List UInt8
def Asc (l : List Str) : Prop := l.Pairwise (· < ·)

theorem ltS_eq (a b : Str) : ltS a b = decide (a < b) := bytesLess_eq a b
theorem str_tri (a b : Str) : a < b ∨ a = b ∨ b < a := by
  by_cases h : a < b
  · exact .inl h
  · by_cases h2 : b < a
    · exact .inr (.inr h2)
    · exact .inr (.inl (List.le_antisymm h2 h))

/-- two ascending lists of the same elements are one -/
theorem asc_unique : ∀ {l r : List Str}, Asc l → Asc r → (∀ x, x ∈ l ↔ x ∈ r) → l = r
  | [], [], _, _, _ => rfl
  | [], b :: r, _, _, h => by have := (h b).2 (List.mem_cons_self ..); cases this
  | a :: l, [], _, _, h => by have := (h a).1 (List.mem_cons_self ..); cases this
  | a :: l, b :: r, hl, hr, h => by
    unfold Asc at hl hr
    rw [List.pairwise_cons] at hl hr
    have hab : a = b := by
      rcases List.mem_cons.1 ((h a).1 (List.mem_cons_self ..)) with h1 | h1
      · exact h1
      · rcases List.mem_cons.1 ((h b).2 (List.mem_cons_self ..)) with h2 | h2
        · exact h2.symm
        · exact absurd (hl.1 b h2) (List.lt_asymm (hr.1 a h1))
    subst hab
    congr 1
    refine asc_unique hl.2 hr.2 fun x => ⟨fun hx => ?_, fun hx => ?_⟩
    · rcases List.mem_cons.1 ((h x).1 (List.mem_cons_of_mem _ hx)) with h1 | h1
      · subst h1; exact absurd (hl.1 x hx) (List.lt_irrefl x)
      · exact h1
    · rcases List.mem_cons.1 ((h x).2 (List.mem_cons_of_mem _ hx)) with h1 | h1
      · subst h1; exact absurd (hr.1 x hx) (List.lt_irrefl x)
      · exact h1

/-! ## Sorted and made compact -/
theorem sortS_sorted (xs : List Str) : (sortS xs).Pairwise (fun a b => a ≤ b) := by
  have := List.pairwise_mergeSort (le := fun (x y : Str) => decide (x ≤ y)) (fun a b c h1 h2 => decide_eq_true (List.le_trans (of_decide_eq_true h1) (of_decide_eq_true h2)))
    (fun a b => by
      rcases List.le_total a b with h | h
      · simp [h]
      · simp [h]) xs
  unfold sortS
  exact this.imp fun h => of_decide_eq_true h

theorem compactUpTo_facts {d : Array Str} (hs : ∀ i j, i < j → j < d.size → d[i]! ≤ d[j]!) : ∀ m, m ≤ d.size → Asc (Lib.compactUpTo d m) ∧ ∀ x, x ∈ Lib.compactUpTo d m ↔ ∃ j, j < m ∧ x = d[j]!
  | 0, _ => by
    have : Lib.compactUpTo d 0 = [] := rfl
    rw [this]
    refine ⟨List.Pairwise.nil, fun x => ⟨fun h => (by cases h), fun hj => ?_⟩⟩
    obtain ⟨j, h, _⟩ := hj
    omega
  | m + 1, hm => by
    obtain ⟨h1, h2⟩ := compactUpTo_facts hs m (by omega)
    rw [Lib.compactUpTo_succ]
    cases hk : Lib.keeps d m with
    | true =>
      rw [if_pos rfl]
      constructor
      · unfold Asc
        rw [List.pairwise_append]
        refine ⟨h1, List.pairwise_singleton _ _, fun a ha b hb => ?_⟩
        rw [List.mem_singleton] at hb
        subst hb
        obtain ⟨j, hj, rfl⟩ := (h2 a).1 ha
        have hm0 : m ≠ 0 := by omega
        have hne : d[m]! ≠ d[m - 1]! := by
          unfold Lib.keeps at hk
          rcases of_decide_eq_true hk with h | h
          · exact absurd h hm0
          · exact h
        have hlast : d[m - 1]! < d[m]! := by
          rcases str_tri d[m - 1]! d[m]! with h | h | h
          · exact h
          · exact absurd h.symm hne
          · exact absurd h (List.not_lt.2 (hs (m - 1) m (by omega) (by omega)))
        by_cases hjm : j = m - 1
        · rw [hjm]; exact hlast
        · exact List.lt_of_le_of_lt (hs j (m - 1) (by omega) (by omega)) hlast
      · intro x
        rw [List.mem_append, h2, List.mem_singleton]
        constructor
        · rintro (⟨j, hj, rfl⟩ | rfl)
          · exact ⟨j, by omega, rfl⟩
          · exact ⟨m, by omega, rfl⟩
        · rintro ⟨j, hj, rfl⟩
          by_cases hjm : j = m
          · exact .inr (by rw [hjm])
          · exact .inl ⟨j, by omega, rfl⟩
    | false =>
      rw [if_neg (by simp), List.append_nil]
      refine ⟨h1, fun x => ?_⟩
      rw [h2]
      constructor
      · rintro ⟨j, hj, rfl⟩; exact ⟨j, by omega, rfl⟩
      · rintro ⟨j, hj, rfl⟩
        by_cases hjm : j = m
        · have hk' : ¬ (m = 0 ∨ d[m]! ≠ d[m - 1]!) := of_decide_eq_false hk
          have hm0 : m ≠ 0 := fun h => hk' (.inl h)
          have heq : d[m]! = d[m - 1]! := Classical.byContradiction fun h => hk' (.inr h)
          exact ⟨m - 1, by omega, by rw [hjm, heq]⟩
        · exact ⟨j, by omega, rfl⟩

theorem compact_facts (xs : List Str) : Asc (Lib.compact (sortS xs)) ∧ ∀ x, x ∈ Lib.compact (sortS xs) ↔ x ∈ xs := by
  have hs := sortS_sorted xs
  have hget : ∀ i, i < (sortS xs).length → (sortS xs).toArray[i]! = (sortS xs)[i]! := fun i hi => by simp [hi]
  have hs2 : ∀ i j, i < j → j < (sortS xs).toArray.size → (sortS xs).toArray[i]! ≤ (sortS xs).toArray[j]! := by
    intro i j hij hj
    have hj : j < (sortS xs).length := by simpa using hj
    have hi : i < (sortS xs).length := by omega
    rw [getElem!_pos _ i (by simpa using hi), getElem!_pos _ j (by simpa using hj)]
    exact List.pairwise_iff_getElem.1 hs i j hi hj hij
  obtain ⟨h1, h2⟩ := compactUpTo_facts hs2 (sortS xs).length (by simp)
  refine ⟨h1, fun x => ?_⟩
  show x ∈ Lib.compactUpTo (sortS xs).toArray (sortS xs).length ↔ _
  rw [h2]
  have hmem : x ∈ sortS xs ↔ x ∈ xs := List.mem_mergeSort
  rw [← hmem, List.mem_iff_getElem]
  constructor
  · rintro ⟨j, hj, rfl⟩
    exact ⟨j, hj, by rw [getElem!_pos _ j (by simpa using hj)]; simp⟩
  · rintro ⟨j, hj, rfl⟩
    exact ⟨j, hj, by rw [getElem!_pos _ j (by simpa using hj)]; simp⟩

/-! ## Put in one by one -/
def insStep (s : Str) (p : List Str × Bool) (x : Str) : List Str × Bool := match p.2 with
  | true => (p.1 ++ [x], true)
  | false => match (!(ltS x s || eqS x s)) with
    | true => (p.1 ++ [s] ++ [x], true)
    | false => (p.1 ++ [x], false)

def insEnd (s : Str) (p : List Str × Bool) : List Str := match p.2 with
  | true => p.1
  | false => p.1 ++ [s]

def insF (s : Str) (l : List Str) : List Str := match l.any fun x => eqS x s with
  | true => l
  | false => insEnd s (l.foldl (insStep s) ([], false))

theorem insStep_inv (s : Str) : ∀ (r p : List Str), Asc (p ++ r) → (∀ x ∈ p ++ r, x ≠ s) → ∀ (q : List Str × Bool), ((q = (p, false) ∧ ∀ x ∈ p, x < s) ∨ ∃ p1 p2, p = p1 ++ p2 ∧ q = (p1 ++ s :: p2, true) ∧ (∀ x ∈ p1, x < s) ∧ (∀ x ∈ p2, s < x) ∧ p2 ≠ []) →
    ∃ p1 p2, p ++ r = p1 ++ p2 ∧ insEnd s (r.foldl (insStep s) q) = p1 ++ s :: p2 ∧ (∀ x ∈ p1, x < s) ∧ (∀ x ∈ p2, s < x)
  | [], p, _, _, q, h => by
    rcases h with ⟨rfl, h1⟩ | ⟨p1, p2, rfl, rfl, h1, h2, _⟩
    · exact ⟨p, [], by simp, rfl, h1, by simp⟩
    · exact ⟨p1, p2, by simp, rfl, h1, h2⟩
  | x :: r, p, ha, hne, q, h => by
    have e : p ++ x :: r = (p ++ [x]) ++ r := by simp
    rw [e] at ha hne ⊢
    refine insStep_inv s r (p ++ [x]) ha hne _ ?_
    have hx : x ≠ s := hne x (by simp)
    rcases h with ⟨rfl, h1⟩ | ⟨p1, p2, rfl, rfl, h1, h2, h3⟩
    · have hes : eqS x s = false := by
        cases hh : eqS x s with
        | true => exact absurd (eqS_iff.1 hh) hx
        | false => rfl
      rcases str_tri x s with hlt | heq | hgt
      · left
        have : insStep s (p, false) x = (p ++ [x], false) := by
          unfold insStep
          rw [ltS_eq, decide_eq_true hlt]; rfl
        rw [this]
        refine ⟨rfl, fun y hy => ?_⟩
        rcases List.mem_append.1 hy with h | h
        · exact h1 y h
        · rw [List.mem_singleton] at h; subst h; exact hlt
      · exact absurd heq hx
      · right
        have : insStep s (p, false) x = (p ++ [s] ++ [x], true) := by
          unfold insStep
          rw [ltS_eq, decide_eq_false (List.lt_asymm hgt), hes]; rfl
        rw [this]
        exact ⟨p, [x], rfl, by simp, h1, by simp [hgt], by simp⟩
    · right
      refine ⟨p1, p2 ++ [x], by simp, by simp [insStep], h1, fun y hy => ?_, by simp⟩
      rcases List.mem_append.1 hy with h | h
      · exact h2 y h
      · rw [List.mem_singleton] at h
        subst h
        obtain ⟨z, zs, hz⟩ : ∃ z zs, p2 = z :: zs := by cases p2 with | nil => exact absurd rfl h3 | cons z zs => exact ⟨z, zs, rfl⟩
        have hzy : z < y := by
          unfold Asc at ha
          rw [List.append_assoc, List.pairwise_append] at ha
          exact ha.2.2 z (by simp [hz]) y (by simp)
        exact List.lt_trans (h2 z (by simp [hz])) hzy

theorem insF_facts (s : Str) {l : List Str} (h : Asc l) : Asc (insF s l) ∧ (∀ x, x ∈ insF s l ↔ x = s ∨ x ∈ l) ∧ (insF s l).length ≤ l.length + 1 := by
  unfold insF
  cases ha : (l.any fun x => eqS x s) with
  | true =>
    dsimp only
    rw [List.any_eq_true] at ha
    obtain ⟨y, hy, hys⟩ := ha
    have := eqS_iff.1 hys
    subst this
    exact ⟨h, fun x => ⟨fun hx => .inr hx, fun hx => hx.elim (fun e => by rw [e]; exact hy) id⟩, by omega⟩
  | false =>
    dsimp only
    have hne : ∀ x ∈ [] ++ l, x ≠ s := by
      intro x hx e
      rw [List.any_eq_false] at ha
      exact ha x (by simpa using hx) (eqS_iff.2 e)
    obtain ⟨p1, p2, h1, h2, h3, h4⟩ := insStep_inv s l [] (by simpa using h) hne ([], false) (.inl ⟨rfl, by simp⟩)
    rw [h2]
    have h1 : l = p1 ++ p2 := by simpa using h1
    subst h1
    refine ⟨?_, fun x => by simp [or_left_comm], by simp; omega⟩
    unfold Asc at h ⊢
    rw [List.pairwise_append] at h ⊢
    refine ⟨h.1, List.pairwise_cons.2 ⟨h4, h.2.1⟩, fun a ha' b hb => ?_⟩
    rcases List.mem_cons.1 hb with rfl | hb
    · exact h3 a ha'
    · exact h.2.2 a ha' b hb

theorem insFold_facts : ∀ (ns l : List Str), Asc l → Asc (ns.foldl (fun l s => insF s l) l) ∧ (∀ x, x ∈ ns.foldl (fun l s => insF s l) l ↔ x ∈ ns ∨ x ∈ l) ∧ (ns.foldl (fun l s => insF s l) l).length ≤ l.length + ns.length
  | [], l, h => ⟨h, by simp, by simp⟩
  | s :: ns, l, h => by
    obtain ⟨h1, h2, h3⟩ := insF_facts s h
    obtain ⟨g1, g2, g3⟩ := insFold_facts ns (insF s l) h1
    refine ⟨g1, fun x => ?_, by simp only [List.foldl_cons, List.length_cons]; omega⟩
    rw [List.foldl_cons, g2, h2]
    simp [or_assoc, or_left_comm]

theorem two_ways (ns : List Str) : Lib.compact (sortS ns) = ns.foldl (fun l s => insF s l) [] := by
  obtain ⟨h1, h2⟩ := compact_facts ns
  obtain ⟨g1, g2, _⟩ := insFold_facts ns [] List.Pairwise.nil
  exact asc_unique h1 g1 fun x => by rw [h2, g2]; simp

end Am
