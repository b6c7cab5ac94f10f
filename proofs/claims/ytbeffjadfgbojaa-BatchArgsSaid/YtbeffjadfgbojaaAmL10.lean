/- The order of the arguments, and others, have no influence. -/
import Derived.Test.YtbeffjadfgbojaaAmC8
import Derived.Test.YtbeffjadfgbojaaAmL9
namespace Am
open Go Go.Proofs
set_option maxRecDepth 100000

/-! ## Arguments whose names are apart -/
def ArgsApart (l : List Darg) : Prop := l.Pairwise fun x y => x.name ≠ y.name

theorem apart_get {l : List Darg} (h : ArgsApart l) {i j : Nat} {x y : Darg} (hi : l[i]? = some x) (hj : l[j]? = some y) (hij : i < j) : x.name ≠ y.name := by
  obtain ⟨h1, rfl⟩ := List.getElem?_eq_some_iff.1 hi
  obtain ⟨h2, rfl⟩ := List.getElem?_eq_some_iff.1 hj
  exact List.pairwise_iff_getElem.1 h i j h1 h2 hij

theorem apart_eq {l : List Darg} (h : ArgsApart l) {x y : Darg} (hx : x ∈ l) (hy : y ∈ l) (he : x.name = y.name) : x = y := by
  obtain ⟨i, hi⟩ := List.mem_iff_getElem?.1 hx
  obtain ⟨j, hj⟩ := List.mem_iff_getElem?.1 hy
  rcases Nat.lt_trichotomy i j with h1 | h1 | h1
  · exact absurd he (apart_get h hi hj h1)
  · subst h1; rw [hi] at hj; cases hj; rfl
  · exact absurd he.symm (apart_get h hj hi h1)

theorem dup_at (l : List Darg) : ∀ (r : List Darg) (i : Nat), foldAt (S := Unit) (fun i x s => match againA l i x with | true => .inr true | false => .inl s) (fun _ => false) r i () = true ↔ ∃ j x, r[j]? = some x ∧ againA l (i + j) x = true
  | [], i => by simp [foldAt]
  | a :: r, i => by
    unfold foldAt
    cases h : againA l i a with
    | true => exact ⟨fun _ => ⟨0, a, rfl, h⟩, fun _ => rfl⟩
    | false =>
      refine (dup_at l r (i + 1)).trans ⟨fun ⟨j, x, h1, h2⟩ => ⟨j + 1, x, h1, by rw [show i + (j + 1) = i + 1 + j by omega]; exact h2⟩, fun ⟨j, x, h1, h2⟩ => ?_⟩
      cases j with
      | zero =>
        have : a = x := Option.some.inj h1
        subst this
        rw [Nat.add_zero, h] at h2; cases h2
      | succ j => exact ⟨j, x, h1, by rw [show i + 1 + j = i + (j + 1) by omega]; exact h2⟩

theorem dup_iff (l : List Darg) : dupA l = false ↔ ArgsApart l := by
  have hd := dup_at l l 0
  constructor
  · intro h
    refine List.pairwise_iff_getElem.2 fun i j hi hj hij he => ?_
    have : dupA l = true := hd.2 ⟨j, l[j], List.getElem?_eq_getElem hj, by
      rw [Nat.zero_add]
      refine List.any_eq_true.2 ⟨l[i], List.mem_iff_getElem?.2 ⟨i, ?_⟩, eqS_iff.2 he.symm⟩
      rw [List.getElem?_take, if_pos hij]; exact List.getElem?_eq_getElem hi⟩
    rw [this] at h; cases h
  · intro h
    cases hb : dupA l with
    | false => rfl
    | true =>
      obtain ⟨j, x, h1, h2⟩ := hd.1 hb
      rw [Nat.zero_add] at h2
      obtain ⟨y, hy, h3⟩ := List.any_eq_true.1 h2
      obtain ⟨i, hi⟩ := List.mem_iff_getElem?.1 hy
      rw [List.getElem?_take] at hi
      split at hi
      · rename_i hij
        exact absurd (eqS_iff.1 h3).symm (apart_get h hi h1 hij)
      · cases hi

theorem lookA_some {l : List Darg} {n : List UInt8} {v : Int} : ∀ k, k ≤ l.length → lookA (l.take k) n = some v → ∃ x ∈ l, x.name = n ∧ x.value = v
  | 0, _, h => by cases h
  | k + 1, hk, h => by
    have hx := List.getElem?_eq_getElem (show k < l.length by omega)
    rw [take_snoc hx, lookA_snoc] at h
    cases he : eqS n l[k].name with
    | true =>
      rw [he] at h
      exact ⟨l[k], List.getElem_mem _, (eqS_iff.1 he).symm, Option.some.inj h⟩
    | false =>
      rw [he] at h
      exact lookA_some k (by omega) h

theorem lookA_mem {l : List Darg} {n : List UInt8} {v : Int} (h : lookA l n = some v) : ∃ x ∈ l, x.name = n ∧ x.value = v :=
  lookA_some l.length (Nat.le_refl _) (by rw [List.take_length]; exact h)

theorem lookA_of {l : List Darg} {n : List UInt8} (h : ∃ x ∈ l, x.name = n) : lookA l n ≠ none := by
  obtain ⟨x, h1, h2⟩ := h
  have := lookA_any l n
  rw [List.any_eq_true.2 ⟨x, h1, eqS_iff.2 h2.symm⟩] at this
  intro hn
  rw [hn] at this; cases this

theorem lookA_same {l l' : List Darg} (h : ArgsApart l) (hm : ∀ x, x ∈ l ↔ x ∈ l') (n : List UInt8) : lookA l n = lookA l' n := by
  cases h1 : lookA l n with
  | none =>
    cases h2 : lookA l' n with
    | none => rfl
    | some w =>
      obtain ⟨y, hy, hn, _⟩ := lookA_mem h2
      exact absurd h1 (lookA_of ⟨y, (hm y).2 hy, hn⟩)
  | some v =>
    obtain ⟨x, hx, hn, hv⟩ := lookA_mem h1
    cases h2 : lookA l' n with
    | none => exact absurd h2 (lookA_of ⟨x, (hm x).1 hx, hn⟩)
    | some w =>
      obtain ⟨y, hy, hn', hw⟩ := lookA_mem h2
      have := apart_eq h hx ((hm y).2 hy) (hn.trans hn'.symm)
      subst this
      rw [← hv, ← hw]

theorem foldAt_congr {α S Y : Type} {F F' : Nat → α → S → S ⊕ Y} {fin : S → Y} : ∀ (l : List α) (i : Nat) (s : S), (∀ x ∈ l, ∀ i s, F i x s = F' i x s) → foldAt F fin l i s = foldAt F' fin l i s
  | [], _, _, _ => rfl
  | a :: l, i, s, h => by
    unfold foldAt
    rw [h a (List.mem_cons_self ..)]
    cases F' i a s with
    | inl s' => exact foldAt_congr l (i + 1) s' fun x hx => h x (List.mem_cons_of_mem _ hx)
    | inr y => rfl

theorem fillB_ext {args args' : List Darg} {binds : List Dbind} (e : Dedit) (h : ∀ b ∈ binds, lookA args b.param = lookA args' b.param) : fillB args binds e = fillB args' binds e := by
  unfold fillB
  exact foldAt_congr binds 0 e fun b hb i s => by rw [h b hb]

theorem bool_of {a b : Bool} (h : a = false ↔ b = false) : a = b := by
  cases a with
  | false => exact (h.1 rfl).symm
  | true =>
    cases b with
    | true => rfl
    | false => exact absurd (h.2 rfl) (by simp)

theorem fillR_ext (a : Daction) {args args' : List Darg} (hd : ArgsApart args ↔ ArgsApart args') (hl : ArgsApart args → ∀ b ∈ a.binds, lookA args b.param = lookA args' b.param) : fillR a args = fillR a args' := by
  unfold fillR
  have h : dupA args = dupA args' := bool_of ((dup_iff _).trans (hd.trans (dup_iff _).symm))
  rw [← h]
  cases hs : eqI (singleE a) 0 with
  | false => rfl
  | true =>
    cases hb : dupA args with
    | true => rfl
    | false => exact fillB_ext a.edit (hl ((dup_iff _).1 hb))

theorem apart_rev (l : List Darg) : ArgsApart l.reverse ↔ ArgsApart l := by
  unfold ArgsApart
  rw [List.pairwise_reverse]
  exact ⟨fun h => h.imp fun hh => hh.symm, fun h => h.imp fun hh => hh.symm⟩

theorem fillR_rev (a : Daction) (args : List Darg) : fillR a args.reverse = fillR a args :=
  fillR_ext a (apart_rev args) fun h _ _ => lookA_same h (fun _ => List.mem_reverse) _

theorem fillR_more (a : Daction) (args : List Darg) (o : Darg) (ho : ∀ x ∈ args, x.name ≠ o.name) (hp : ∀ b ∈ a.binds, b.param ≠ o.name) : fillR a (args ++ [o]) = fillR a args := by
  refine fillR_ext a ⟨fun h => (List.pairwise_append.1 h).1, fun h => List.pairwise_append.2 ⟨h, List.pairwise_singleton _ _, fun x hx y hy => ?_⟩⟩ fun _ b hb => ?_
  · rw [List.mem_singleton] at hy; subst hy; exact ho x hx
  · rw [lookA_snoc]
    cases he : eqS b.param o.name with
    | true => exact absurd (eqS_iff.1 he) (hp b hb)
    | false => rfl

theorem fillR_none (a : Daction) (args : List Darg) : ltI (0 : Int) (a.binds.length : Int) = true ∨ eqI (fillR a args).2.1 0 = false ∨ (fillR a args).1 = a.edit := by
  cases hb : a.binds with
  | cons x l =>
    left
    rw [show (0 : Int) = ((0 : Nat) : Int) from rfl, ltI_nat]
    simp
  | nil =>
    right
    unfold fillR
    cases hs : eqI (singleE a) 0 with
    | false => exact .inl hs
    | true =>
      cases dupA args with
      | true => exact .inl rfl
      | false => right; rw [hb]; rfl

/-! ## The loops of the law -/
theorem subI_one (a : Int) (h : 0 ≤ a) (h2 : a < 9223372036854775808) : subI .i64 a 1 = a - 1 := by
  unfold subI IntKind.wrap
  simp only [IntKind.bits, IntKind.signed]
  generalize hc : a - 1 = c
  simp
  omega

theorem L6a (a : Daction) (args : List Darg) (o : Darg) (x : Dedit) (e : Int) (h : args.length * 24 ≤ 140737488351232) :
    loopOf step6_4 (((args, (), (), (), e, (), (subI .i64 (args.length : Int) (1 : Int)), ()), (a, o, x, ([] : List Darg), ())) : D6_4.X) = some (((args, (), (), (), e, (), ()), (a, o, x, args.reverse, ())) : Y6_4) := by
  have := calm_loop (step := step6_4) args.length (st := fun k => (((args, (), (), (), e, (), (args.length : Int) - 1 - (k : Int), ()), (a, o, x, (args.drop (args.length - k)).reverse, ())) : D6_4.X)) (y := (((args, (), (), (), e, (), ()), (a, o, x, args.reverse, ())) : Y6_4)) (fun k hk => by
    obtain ⟨j, hj⟩ : ∃ j : Nat, args.length = j + 1 + k := ⟨args.length - 1 - k, by omega⟩
    have hjl : j < args.length := by omega
    have hx := List.getElem?_eq_getElem hjl
    have key : ∀ (r r' : List Darg) (s s' : Int), s = (j : Int) → s' = s - 1 → r.length * 24 ≤ 140737488351232 → r' = r ++ [args[j]] →
        step6_4 (((args, (), (), (), e, (), s, ()), (a, o, x, r, ())) : D6_4.X) = some (.inl (((args, (), (), (), e, (), s', ()), (a, o, x, r', ())) : D6_4.X)) := by
      intro r r' s s' hs hs' hr hr'
      subst hs'; subst hr'; subst hs
      rw [← subI_one (j : Int) (by omega) (by omega)]
      show (ix args (j : Int)).bind _ = _
      rw [ix_nat, hx]
      show chk (roomy (r.length + 1) 24) _ = _
      rw [chk_roomy (by omega)]
    refine key _ _ _ _ (by rw [hj]; push_cast; omega) (by push_cast; omega) (by rw [List.length_reverse, List.length_drop]; omega) ?_
    rw [show args.length - (k + 1) = j by omega, show args.length - k = j + 1 by omega, List.drop_eq_getElem_cons hjl, List.reverse_cons]) (by
    have key : ∀ (r : List Darg) (s : Int), s = -1 → r = args.reverse → step6_4 (((args, (), (), (), e, (), s, ()), (a, o, x, r, ())) : D6_4.X) = some (.inr (((args, (), (), (), e, (), ()), (a, o, x, args.reverse, ())) : Y6_4)) := by
      intro r s hs hr
      subst hs; subst hr
      rfl
    exact key _ _ (by omega) (by rw [Nat.sub_self, List.drop_zero]))
  have h0 : ∀ (r : List Darg) (s : Int), s = subI .i64 (args.length : Int) 1 → r = [] → loopOf step6_4 (((args, (), (), (), e, (), s, ()), (a, o, x, r, ())) : D6_4.X) = some (((args, (), (), (), e, (), ()), (a, o, x, args.reverse, ())) : Y6_4) →
      loopOf step6_4 (((args, (), (), (), e, (), (subI .i64 (args.length : Int) (1 : Int)), ()), (a, o, x, ([] : List Darg), ())) : D6_4.X) = some (((args, (), (), (), e, (), ()), (a, o, x, args.reverse, ())) : Y6_4) := by
    intro r s hs hr hh
    subst hs; subst hr; exact hh
  refine h0 _ _ ?_ ?_ this
  · unfold subI IntKind.wrap
    simp only [IntKind.bits, IntKind.signed]
    generalize hc : (args.length : Int) - 1 = c
    simp
    omega
  · rw [Nat.sub_zero, List.drop_length]; rfl

theorem L6b (a : Daction) (args : List Darg) (o : Darg) (x : Dedit) (e : Int) (back : List Darg) (h : args.length ≤ 4611686018427387904) :
    ((args.any fun y => eqS y.name o.name) = true ∧ ∃ _ : Nat, loopOf step6_11 (((args, (), (), (), e, (), (0 : Int), ()), (a, o, x, back, ())) : D6_11.X) = some (.inl ((true, ()), ()))) ∨
    ((args.any fun y => eqS y.name o.name) = false ∧ loopOf step6_11 (((args, (), (), (), e, (), (0 : Int), ()), (a, o, x, back, ())) : D6_11.X) = some (.inr (((), (), (), e, (), ()), (a, o, x, back, ())))) :=
  any_loop (step := step6_11) args (st := fun k => (((args, (), (), (), e, (), (k : Int), ()), (a, o, x, back, ())) : D6_11.X)) (p := fun y => eqS y.name o.name) (z := fun _ => .inl ((true, ()), ())) (y := .inr (((), (), (), e, (), ()), (a, o, x, back, ()))) (fun i y hy => by
    have hi := get_lt hy
    rw [← addI_one i (by omega)]
    show (match ltI (i : Int) (args.length : Int) with | true => _ | false => _) = _
    rw [ltI_nat, decide_eq_true hi]
    show (ix args (i : Int)).bind _ = _
    rw [ix_nat, hy]
    show (match eqS y.name o.name with | true => _ | false => _) = _
    cases eqS y.name o.name <;> rfl) (by
    show (match ltI (args.length : Int) (args.length : Int) with | true => _ | false => _) = _
    rw [ltI_nat, decide_eq_false (Nat.lt_irrefl _)])

theorem L6c (a : Daction) (l : List Str) (o : Darg) (x : Dedit) (e : Int) (back : List Darg) (h : l.length ≤ 4611686018427387904) :
    ((l.any fun y => eqS y o.name) = true ∧ ∃ _ : Nat, loopOf step6_17 ((((), (), (), e, (), l, (0 : Int), ()), (a, o, x, back, ())) : D6_17.X) = some (.inl ((true, ()), ()))) ∨
    ((l.any fun y => eqS y o.name) = false ∧ loopOf step6_17 ((((), (), (), e, (), l, (0 : Int), ()), (a, o, x, back, ())) : D6_17.X) = some (.inr (((), (), (), e, (), ()), (a, o, x, back, ())))) :=
  any_loop (step := step6_17) l (st := fun k => ((((), (), (), e, (), l, (k : Int), ()), (a, o, x, back, ())) : D6_17.X)) (p := fun y => eqS y o.name) (z := fun _ => .inl ((true, ()), ())) (y := .inr (((), (), (), e, (), ()), (a, o, x, back, ()))) (fun i y hy => by
    have hi := get_lt hy
    rw [← addI_one i (by omega)]
    show (match ltI (i : Int) (l.length : Int) with | true => _ | false => _) = _
    rw [ltI_nat, decide_eq_true hi]
    show (ix l (i : Int)).bind _ = _
    rw [ix_nat, hy]
    show (match eqS y o.name with | true => _ | false => _) = _
    cases eqS y o.name <;> rfl) (by
    show (match ltI (l.length : Int) (l.length : Int) with | true => _ | false => _) = _
    rw [ltI_nat, decide_eq_false (Nat.lt_irrefl _)])

/-! ## Params of one action -/
theorem L19c (l : List Daction) (i : Int) (binds : List Dbind) (hb : binds.length ≤ 4398046511104) :
    loopOf step19_6 ((((), l, (l.length : Int), i, binds, (binds.length : Int), (0 : Int), ()), (([] : List Str), ())) : D19_6.X) = some (((), l, (l.length : Int), i, ()), (namesB binds, ())) :=
  calm_loop (step := step19_6) binds.length (st := fun j => ((((), l, (l.length : Int), i, binds, (binds.length : Int), (j : Int), ()), (namesB (binds.take j), ())) : D19_6.X)) (y := (((), l, (l.length : Int), i, ()), (namesB binds, ()))) (fun j hj => by
    have hx := List.getElem?_eq_getElem hj
    have hlen : (namesB (binds.take j)).length ≤ 4398046511104 := by
      simp only [namesB, List.length_map, List.length_take]; omega
    have key : ∀ o o' : List Str, o.length ≤ 4398046511104 → o' = o ++ [binds[j].param] → step19_6 ((((), l, (l.length : Int), i, binds, (binds.length : Int), (j : Int), ()), (o, ())) : D19_6.X) = some (.inl ((((), l, (l.length : Int), i, binds, (binds.length : Int), ((j + 1 : Nat) : Int), ()), (o', ())) : D19_6.X)) := by
      intro o o' ho ho'
      subst ho'
      rw [← addI_one j (by omega)]
      show (match ltI (j : Int) (binds.length : Int) with | true => _ | false => _) = _
      rw [ltI_nat, decide_eq_true hj]
      show (ix binds (j : Int)).bind _ = _
      rw [ix_nat, hx]
      show chk (roomy (o.length + 1) 16) _ = _
      rw [chk_roomy (by omega)]
    exact key _ _ hlen (namesB_snoc hx)) (by
    show (match ltI (binds.length : Int) (binds.length : Int) with | true => _ | false => _) = _
    rw [ltI_nat, decide_eq_false (Nat.lt_irrefl _), List.take_length])

theorem g19_one (a : Daction) (h : a.binds.length ≤ 4398046511104) : g19 [a] = some (Lib.compact (sortS (namesB a.binds))) := by
  unfold g19
  have hl : loopOf step19_3 ((((), [a], (([a].length : Nat) : Int), (0 : Int), ()), (([] : List Str), ())) : D19_3.X) = some (((), ()), (namesB a.binds, ())) := by
    have h1 : step19_3 ((((), [a], (([a].length : Nat) : Int), (0 : Int), ()), (([] : List Str), ())) : D19_3.X) = some (.inl ((((), [a], (([a].length : Nat) : Int), (1 : Int), ()), (namesB a.binds, ())) : D19_3.X)) :=
      (congrArg (fun o : Option Y19_6 => Option.bind o _) (L19c [a] (0 : Int) a.binds h)).trans rfl
    exact (loop_inl h1).trans (loop_inr rfl)
  refine (congrArg (fun o : Option Y19_3 => Option.bind o _) hl).trans ?_
  have hn : (namesB a.binds).length ≤ 4398046511104 := by simp only [namesB, List.length_map]; exact h
  have h1 : sortP (namesB a.binds) = some (sortS (namesB a.binds)) := by
    unfold sortP
    rw [decide_eq_true (by omega)]; rfl
  have h2 : compactP (sortS (namesB a.binds)) = some (Lib.compact (sortS (namesB a.binds))) := by
    unfold compactP
    rw [decide_eq_true (by rw [sortS_length]; omega)]; rfl
  show (sortP (namesB a.binds)).bind _ = _
  rw [h1]
  show (compactP (sortS (namesB a.binds))).bind _ = _
  rw [h2]; rfl

theorem compact_len (xs : List Str) (h : (sortS xs).length < 4611686018427387904) : (Lib.compact (sortS xs)).length ≤ 4611686018427387904 := by
  rcases compact_facts xs with ⟨h1, h2⟩
  rw [two_ways]
  have := (insFold_facts xs [] List.Pairwise.nil).2.2
  rw [sortS_length] at h
  simp only [List.length_nil] at this
  omega

/-! ## The law -/
theorem g6_eq (a : Daction) (args : List Darg) (o : Darg) (h : FillSm a args) (hn : args.length * 24 ≤ 140737488351232) (hb : a.binds.length ≤ 4398046511104) : g6 a args o = some true := by
  have sm : ∀ l : List Darg, l.length ≤ 4611686018427387904 → FillSm a l := fun l hl => ⟨h.edit, hl, h.names⟩
  have hR := g7_eq a args h
  have hR2 : g7 a args.reverse = some (fillR a args) := (g7_eq a args.reverse (sm _ (by rw [List.length_reverse]; exact h.args))).trans (congrArg some (fillR_rev a args))
  have h9 := g9_self _ (fillR_sm a args h).len
  have hR3 : (args.any fun y => eqS y.name o.name) = false → (∀ b ∈ a.binds, b.param ≠ o.name) → g7 a (args.reverse ++ [o]) = some (fillR a args) := fun h1 h2 => by
    refine (g7_eq a _ (sm _ (by rw [List.length_append, List.length_reverse]; simp only [List.length_singleton]; omega))).trans (congrArg some ?_)
    refine (fillR_more a args.reverse o (fun x hx he => ?_) h2).trans (fillR_rev a args)
    rw [List.any_eq_false] at h1
    exact h1 x (List.mem_reverse.1 hx) (eqS_iff.2 he)
  have hfin := fillR_none a args
  generalize fillR a args = R at *
  obtain ⟨x, e, _⟩ := R
  unfold g6
  rw [hR]
  refine (congrArg (fun o : Option Y6_4 => Option.bind o _) (L6a a args o x e hn)).trans ?_
  show (g7 a args.reverse).bind _ = _
  rw [hR2]
  show (match !(eqI e e) with | true => _ | false => _) = _
  rw [eqI_self]
  show (g9 x x).bind _ = _
  rw [h9]
  rcases L6b a args o x e args.reverse h.args with ⟨_, _, h3⟩ | ⟨h2, h3⟩
  · exact (congrArg (fun o : Option Y6_11 => Option.bind o _) h3).trans rfl
  · refine (congrArg (fun o : Option Y6_11 => Option.bind o _) h3).trans ?_
    show (g19 [a]).bind _ = _
    rw [g19_one a hb]
    rcases L6c a (Lib.compact (sortS (namesB a.binds))) o x e args.reverse (compact_len _ (by rw [sortS_length]; simp only [namesB, List.length_map]; omega)) with ⟨_, _, h5⟩ | ⟨h4, h5⟩
    · exact (congrArg (fun o : Option Y6_17 => Option.bind o _) h5).trans rfl
    · refine (congrArg (fun o : Option Y6_17 => Option.bind o _) h5).trans ?_
      have hp : ∀ b ∈ a.binds, b.param ≠ o.name := fun b hb' he => by
        rw [List.any_eq_false] at h4
        exact h4 b.param (((compact_facts (namesB a.binds)).2 b.param).2 (List.mem_map.2 ⟨b, hb', rfl⟩)) (eqS_iff.2 he)
      show chk (roomy (args.reverse.length + 1) 24) ((g7 a (args.reverse ++ [o])).bind _) = _
      rw [chk_roomy (by rw [List.length_reverse]; omega), hR3 h2 hp]
      show (match !(eqI e e) with | true => _ | false => _) = _
      rw [eqI_self]
      show (g9 x x).bind _ = _
      rw [h9]
      show (match ltI (0 : Int) (a.binds.length : Int) with | true => _ | false => (match !(eqI e (0 : Int)) with | true => _ | false => (g9 x a.edit).bind _)) = _
      cases hl : ltI (0 : Int) (a.binds.length : Int) with
      | true => rfl
      | false =>
        cases he : eqI e 0 with
        | false => rfl
        | true =>
          have hx : x = a.edit := by
            rcases hfin with h6 | h6 | h6
            · rw [hl] at h6; cases h6
            · have h6 : eqI e 0 = false := h6
              rw [he] at h6; cases h6
            · exact h6
          show (g9 x a.edit).bind _ = _
          rw [← hx, h9]; rfl

end Am
