/- Params of the batch layer and of its reference: the same names. -/
import Derived.Test.YtbeffjadfgbojaaAmL8
namespace Am
open Go Go.Proofs
set_option maxRecDepth 100000

/-- the parameters of binds, of actions -/
def namesB (l : List Dbind) : List Str := l.map (·.param)
def namesA (l : List Daction) : List Str := l.flatMap fun a => namesB a.binds

theorem namesB_snoc {l : List Dbind} {i : Nat} {x : Dbind} (h : l[i]? = some x) : namesB (l.take (i + 1)) = namesB (l.take i) ++ [x.param] := by rw [take_snoc h]; simp [namesB]
theorem namesA_snoc {l : List Daction} {i : Nat} {x : Daction} (h : l[i]? = some x) : namesA (l.take (i + 1)) = namesA (l.take i) ++ namesB x.binds := by rw [take_snoc h]; simp [namesA]

/-- not more than the machine can hold -/
structure ActsSm (l : List Daction) : Prop where
  len : l.length ≤ 2097152
  binds : ∀ a ∈ l, a.binds.length ≤ 2097152
  names : ∀ a ∈ l, BindsLen a

theorem namesA_len : ∀ {l : List Daction}, (∀ a ∈ l, a.binds.length ≤ 2097152) → (namesA l).length ≤ l.length * 2097152
  | [], _ => by simp [namesA]
  | a :: l, h => by
    have h1 := namesA_len (l := l) fun a ha => h a (List.mem_cons_of_mem _ ha)
    have h2 := h a (List.mem_cons_self ..)
    have h3 : (namesA (a :: l)).length = a.binds.length + (namesA l).length := by simp [namesA, namesB]
    rw [h3, List.length_cons, Nat.succ_mul]; omega

theorem ActsSm.all {l : List Daction} (h : ActsSm l) (i : Nat) : (namesA (l.take i)).length ≤ 4398046511104 := by
  have h1 := namesA_len (l := l.take i) fun a ha => h.binds a (List.mem_of_mem_take ha)
  have h2 := h.len
  have h3 : (l.take i).length ≤ l.length := by rw [List.length_take]; omega
  have h4 : (l.take i).length * 2097152 ≤ 2097152 * 2097152 := Nat.mul_le_mul_right _ (by omega)
  omega

/-! ## Params of the batch layer -/
theorem L19b (l : List Daction) (i : Int) (binds : List Dbind) (out : List Str) (hb : binds.length ≤ 2097152) (ho : out.length ≤ 4398046511104) :
    loopOf step19_6 ((((), l, (l.length : Int), i, binds, (binds.length : Int), (0 : Int), ()), (out, ())) : D19_6.X) = some (((), l, (l.length : Int), i, ()), (out ++ namesB binds, ())) := by
  have := calm_loop (step := step19_6) binds.length (st := fun j => ((((), l, (l.length : Int), i, binds, (binds.length : Int), (j : Int), ()), (out ++ namesB (binds.take j), ())) : D19_6.X)) (y := (((), l, (l.length : Int), i, ()), (out ++ namesB binds, ()))) (fun j hj => by
    have hx := List.getElem?_eq_getElem hj
    have hlen : (out ++ namesB (binds.take j)).length ≤ 4398048608256 := by
      simp only [List.length_append, namesB, List.length_map, List.length_take]; omega
    have key : ∀ o o' : List Str, o.length ≤ 4398048608256 → o' = o ++ [binds[j].param] → step19_6 ((((), l, (l.length : Int), i, binds, (binds.length : Int), (j : Int), ()), (o, ())) : D19_6.X) = some (.inl ((((), l, (l.length : Int), i, binds, (binds.length : Int), ((j + 1 : Nat) : Int), ()), (o', ())) : D19_6.X)) := by
      intro o o' ho ho'
      subst ho'
      rw [← addI_one j (by omega)]
      show (match ltI (j : Int) (binds.length : Int) with | true => _ | false => _) = _
      rw [ltI_nat, decide_eq_true hj]
      show (ix binds (j : Int)).bind _ = _
      rw [ix_nat, hx]
      show chk (roomy (o.length + 1) 16) _ = _
      rw [chk_roomy (by omega)]
    exact key _ _ hlen (by rw [namesB_snoc hx, List.append_assoc])) (by
    show (match ltI (binds.length : Int) (binds.length : Int) with | true => _ | false => _) = _
    rw [ltI_nat, decide_eq_false (Nat.lt_irrefl _), List.take_length])
  have h0 : out ++ namesB (binds.take 0) = out := by simp [namesB]
  exact (congrArg (fun o : List Str => loopOf step19_6 ((((), l, (l.length : Int), i, binds, (binds.length : Int), ((0 : Nat) : Int), ()), (o, ())) : D19_6.X)) h0.symm).trans this

theorem L19a (l : List Daction) (h : ActsSm l) : loopOf step19_3 ((((), l, (l.length : Int), (0 : Int), ()), (([] : List Str), ())) : D19_3.X) = some (((), ()), (namesA l, ())) := by
  have hl := h.len
  have := calm_loop (step := step19_3) l.length (st := fun i => ((((), l, (l.length : Int), (i : Int), ()), (namesA (l.take i), ())) : D19_3.X)) (y := (((), ()), (namesA l, ()))) (fun i hi => by
    have hx := List.getElem?_eq_getElem hi
    have hall := h.all i
    have key : ∀ o o' : List Str, o.length ≤ 4398046511104 → o' = o ++ namesB l[i].binds → step19_3 ((((), l, (l.length : Int), (i : Int), ()), (o, ())) : D19_3.X) = some (.inl ((((), l, (l.length : Int), ((i + 1 : Nat) : Int), ()), (o', ())) : D19_3.X)) := by
      intro o o' ho ho'
      subst ho'
      rw [← addI_one i (by omega)]
      show (match ltI (i : Int) (l.length : Int) with | true => _ | false => _) = _
      rw [ltI_nat, decide_eq_true hi]
      show (ix l (i : Int)).bind _ = _
      rw [ix_nat, hx]
      exact (congrArg (fun o : Option Y19_6 => Option.bind o _) (L19b l (i : Int) l[i].binds o (h.binds _ (List.getElem_mem hi)) ho)).trans rfl
    exact key _ _ hall (namesA_snoc hx)) (by
    show (match ltI (l.length : Int) (l.length : Int) with | true => _ | false => _) = _
    rw [ltI_nat, decide_eq_false (Nat.lt_irrefl _), List.take_length])
  exact this

theorem g19_eq (l : List Daction) (h : ActsSm l) : g19 l = some (Lib.compact (sortS (namesA l))) := by
  unfold g19
  refine (congrArg (fun o : Option Y19_3 => Option.bind o _) (L19a l h)).trans ?_
  have hn := h.all l.length
  rw [List.take_length] at hn
  have h1 : sortP (namesA l) = some (sortS (namesA l)) := by
    unfold sortP
    rw [decide_eq_true (by omega)]; rfl
  have h2 : compactP (sortS (namesA l)) = some (Lib.compact (sortS (namesA l))) := by
    unfold compactP
    rw [decide_eq_true (by rw [sortS_length]; omega)]; rfl
  show (sortP (namesA l)).bind _ = _
  rw [h1]
  show (compactP (sortS (namesA l))).bind _ = _
  rw [h2]; rfl

/-! ## insert -/
theorem any_false_eq {s : Str} : ∀ {l : List Str} {i : Nat} {x : Str}, (l.any fun x => eqS x s) = false → l[i]? = some x → eqS x s = false := by
  intro l i x h hx
  rw [List.any_eq_false] at h
  have := h x (List.mem_of_getElem? hx)
  simpa using this

theorem insStep_len (s : Str) : ∀ (l : List Str) (p : List Str × Bool), (l.foldl (insStep s) p).1.length ≤ p.1.length + 2 * l.length
  | [], p => by simp
  | x :: l, p => by
    have := insStep_len s l (insStep s p x)
    have h2 : (insStep s p x).1.length ≤ p.1.length + 2 := by
      unfold insStep
      cases p.2 with
      | true => simp
      | false => cases (!(ltS x s || eqS x s)) <;> simp
    simp only [List.foldl_cons, List.length_cons]; omega

/-- one round of insert -/
theorem step33_eq (l : List Str) (s : Str) (i : Nat) (p : List Str × Bool) (hl : l.length ≤ 4398046511104) (hp : p.1.length ≤ 8796093022208 - 2) (hi : i < l.length) :
    step33_4 (((l, s, (), p.2, (i : Int), ()), (p.1, ())) : D33_4.X) = some (match eqS l[i] s with | true => .inr (.inl ((l, ()), ())) | false => .inl (((l, s, (), (insStep s p l[i]).2, ((i + 1 : Nat) : Int), ()), ((insStep s p l[i]).1, ())) : D33_4.X)) := by
  have hx := List.getElem?_eq_getElem hi
  obtain ⟨out, done⟩ := p
  dsimp only at hp ⊢
  rw [← addI_one i (by omega)]
  have r1 : ∀ (o : List Str), o.length ≤ 8796093022208 - 1 → ∀ (x : Str) {R : Type} (y : Option R), chk (roomy (o.length + [x].length) 16) y = y := fun o ho x {R} y => chk_roomy (by show (o.length + 1) * 16 ≤ _; omega) y
  show (match ltI (i : Int) (l.length : Int) with | true => _ | false => _) = _
  rw [ltI_nat, decide_eq_true hi]
  show (ix l (i : Int)).bind _ = _
  rw [ix_nat, hx]
  show (match eqS l[i] s with | true => _ | false => _) = _
  cases he : eqS l[i] s with
  | true => rfl
  | false =>
    dsimp only
    cases done with
    | true =>
      show chk (roomy (out.length + [l[i]].length) 16) _ = _
      rw [r1 _ (by omega)]
      rfl
    | false =>
      unfold insStep
      show (match (!(ltS l[i] s || eqS l[i] s)) with | true => _ | false => _) = _
      cases hc : (!(ltS l[i] s || eqS l[i] s)) with
      | true =>
        show chk (roomy (out.length + [s].length) 16) (chk (roomy ((out ++ [s]).length + [l[i]].length) 16) _) = _
        rw [r1 _ (by omega), r1 _ (by simp; omega)]
      | false =>
        show chk (roomy (out.length + [l[i]].length) 16) _ = _
        rw [r1 _ (by omega)]

theorem g33_eq (l : List Str) (s : Str) (h : l.length ≤ 4398046511103) : g33 l s = some (insF s l) := by
  unfold g33 insF
  have hlen : ∀ i, ((l.take i).foldl (insStep s) ([], false)).1.length ≤ 8796093022208 - 2 := by
    intro i
    have h1 := insStep_len s (l.take i) ([], false)
    have h2 : (l.take i).length ≤ l.length := by rw [List.length_take]; omega
    simp only [List.length_nil] at h1
    omega
  cases ha : (l.any fun x => eqS x s) with
  | false =>
    have := calm_loop (step := step33_4) l.length (st := fun i => (((l, s, (), ((l.take i).foldl (insStep s) ([], false)).2, (i : Int), ()), (((l.take i).foldl (insStep s) ([], false)).1, ())) : D33_4.X))
      (y := .inr ((s, (), (l.foldl (insStep s) ([], false)).2, ()), ((l.foldl (insStep s) ([], false)).1, ()))) (fun i hi => by
        have hx := List.getElem?_eq_getElem hi
        rw [step33_eq l s i _ (by omega) (hlen i) hi, any_false_eq ha hx]
        have : (l.take (i + 1)).foldl (insStep s) ([], false) = insStep s ((l.take i).foldl (insStep s) ([], false)) l[i] := by rw [take_snoc hx, List.foldl_append]; rfl
        rw [this]) (by
        show (match ltI (l.length : Int) (l.length : Int) with | true => _ | false => _) = _
        rw [ltI_nat, decide_eq_false (Nat.lt_irrefl _), List.take_length])
    refine (congrArg (fun o : Option Y33_4 => Option.bind o _) this).trans ?_
    unfold insEnd
    have hl := hlen l.length
    rw [List.take_length] at hl
    generalize l.foldl (insStep s) ([], false) = p at hl
    obtain ⟨out, done⟩ := p
    cases done with
    | true => rfl
    | false =>
      show chk (roomy (out.length + 1) 16) _ = _
      rw [chk_roomy (by dsimp only at hl; omega)]
  | true =>
    dsimp only
    have go : ∀ (k i : Nat) (p : List Str × Bool), i + k = l.length → p.1.length ≤ 2 * i → ((l.drop i).any fun x => eqS x s) = true → loopOf step33_4 (((l, s, (), p.2, (i : Int), ()), (p.1, ())) : D33_4.X) = some (.inl ((l, ()), ())) := by
      intro k
      induction k with
      | zero =>
        intro i p hk _ hd
        rw [List.drop_of_length_le (by omega)] at hd
        cases hd
      | succ k ih =>
        intro i p hk hp hd
        have hi : i < l.length := by omega
        have hdr : l.drop i = l[i] :: l.drop (i + 1) := List.drop_eq_getElem_cons hi
        have hst := step33_eq l s i p (by omega) (by omega) hi
        rw [hdr, List.any_cons] at hd
        cases he : eqS l[i] s with
        | true =>
          rw [he] at hst
          exact loop_inr hst
        | false =>
          rw [he] at hst hd
          refine (loop_inl hst).trans (ih (i + 1) (insStep s p l[i]) (by omega) ?_ (by simpa using hd))
          have := insStep_len s [l[i]] p
          simp only [List.foldl_cons, List.foldl_nil, List.length_cons, List.length_nil] at this
          omega
    refine (congrArg (fun o : Option Y33_4 => Option.bind o _) (go l.length 0 ([], false) (by omega) (by simp) (by simpa using ha))).trans rfl

/-! ## Params of the reference -/
def insAll (ns : List Str) (l : List Str) : List Str := ns.foldl (fun l s => insF s l) l

theorem insAll_asc {ns l : List Str} (h : Asc l) : Asc (insAll ns l) ∧ (insAll ns l).length ≤ l.length + ns.length := ⟨(insFold_facts ns l h).1, (insFold_facts ns l h).2.2⟩

theorem L20b (l : List Daction) (i : Nat) (a : Daction) (out : List Str) (hx : l[i]? = some a) (hasc : Asc out) (hb : a.binds.length ≤ 2097152) (ho : out.length ≤ 4398044413952) :
    loopOf step20_6 (((l, out, (i : Int), (0 : Int), ()), ()) : D20_6.X) = some ((l, insAll (namesB a.binds) out, (i : Int), ()), ()) := by
  have := calm_loop (step := step20_6) a.binds.length (st := fun j => (((l, insAll (namesB (a.binds.take j)) out, (i : Int), (j : Int), ()), ()) : D20_6.X)) (y := ((l, insAll (namesB a.binds) out, (i : Int), ()), ())) (fun j hj => by
    have hb' := List.getElem?_eq_getElem hj
    have hlen : (insAll (namesB (a.binds.take j)) out).length ≤ 4398046511103 := by
      have h1 := (insAll_asc (ns := namesB (a.binds.take j)) hasc).2
      have h2 : (namesB (a.binds.take j)).length ≤ j := by simp [namesB]; omega
      omega
    have hsn : insAll (namesB (a.binds.take (j + 1))) out = insF a.binds[j].param (insAll (namesB (a.binds.take j)) out) := by rw [namesB_snoc hb']; unfold insAll; rw [List.foldl_append]; rfl
    rw [hsn]
    generalize insAll (namesB (a.binds.take j)) out = o at hlen
    rw [← addI_one j (by omega)]
    show (ix l (i : Int)).bind _ = _
    rw [ix_nat, hx]
    show (match ltI (j : Int) (a.binds.length : Int) with | true => _ | false => _) = _
    rw [ltI_nat, decide_eq_true hj]
    show (ix a.binds (j : Int)).bind _ = _
    rw [ix_nat, hb']
    show (g33 o a.binds[j].param).bind _ = _
    rw [g33_eq _ _ hlen]
    rfl) (by
    show (ix l (i : Int)).bind _ = _
    rw [ix_nat, hx]
    show (match ltI (a.binds.length : Int) (a.binds.length : Int) with | true => _ | false => _) = _
    rw [ltI_nat, decide_eq_false (Nat.lt_irrefl _), List.take_length])
  exact this

theorem L20a (l : List Daction) (h : ActsSm l) : loopOf step20_3 (((l, ([] : List Str), (0 : Int), ()), ()) : D20_3.X) = some ((insAll (namesA l) [], ()), ()) := by
  have hl := h.len
  have := calm_loop (step := step20_3) l.length (st := fun i => (((l, insAll (namesA (l.take i)) [], (i : Int), ()), ()) : D20_3.X)) (y := ((insAll (namesA l) [], ()), ())) (fun i hi => by
    have hx := List.getElem?_eq_getElem hi
    obtain ⟨h1, h2⟩ := insAll_asc (ns := namesA (l.take i)) (l := []) List.Pairwise.nil
    have hbb := h.binds _ (List.getElem_mem hi)
    have h3 : (insAll (namesA (l.take i)) []).length ≤ 4398044413952 := by
      have h4 := namesA_len (l := l.take i) fun a ha => h.binds a (List.mem_of_mem_take ha)
      have h5 : (l.take i).length = i := by simp; omega
      rw [h5] at h4
      have h6 : i * 2097152 ≤ 2097151 * 2097152 := Nat.mul_le_mul_right _ (by omega)
      simp only [List.length_nil] at h2
      omega
    have hsn : insAll (namesA (l.take (i + 1))) [] = insAll (namesB l[i].binds) (insAll (namesA (l.take i)) []) := by rw [namesA_snoc hx]; unfold insAll; rw [List.foldl_append]
    rw [hsn]
    generalize insAll (namesA (l.take i)) [] = o at h1 h3
    rw [← addI_one i (by omega)]
    show (match ltI (i : Int) (l.length : Int) with | true => _ | false => _) = _
    rw [ltI_nat, decide_eq_true hi]
    exact (congrArg (fun o : Option Y20_6 => Option.bind o _) (L20b l i l[i] o hx h1 hbb h3)).trans rfl) (by
    show (match ltI (l.length : Int) (l.length : Int) with | true => _ | false => _) = _
    rw [ltI_nat, decide_eq_false (Nat.lt_irrefl _), List.take_length])
  exact this

theorem g20_eq (l : List Daction) (h : ActsSm l) : g20 l = some (Lib.compact (sortS (namesA l))) := by
  unfold g20
  refine (congrArg (fun o : Option Y20_3 => Option.bind o _) (L20a l h)).trans ?_
  rw [two_ways]; rfl

theorem g5_eq (l : List Daction) (h : ActsSm l) : g5 l = some true := by
  unfold g5
  rw [g15_eq, g16_eq]
  have h14 := g14_self fieldsL (by decide)
  have hn := h.all l.length
  rw [List.take_length] at hn
  have hc := compact_le (sortS (namesA l))
  rw [sortS_length] at hc
  have h15 := g14_self (Lib.compact (sortS (namesA l))) (by omega)
  simp only [Option.bind_some, h14, g17_eq, g18_eq l h.names, eqI_self, g19_eq l h, g20_eq l h, h15]
  rfl

end Am
