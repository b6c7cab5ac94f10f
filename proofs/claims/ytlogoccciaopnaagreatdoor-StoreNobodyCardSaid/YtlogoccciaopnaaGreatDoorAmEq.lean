/- '==' on structs and arrays of integers, bools and strings. -/
import Derived.Test.YtlogoccciaopnaaGreatDoorAmO3
import Derived.ChangeKeysEq
namespace Am
open Go
variable {U : TyU} {P : Program}

def isAggD : TypeDesc → Bool
  | .struct _ | .array _ _ => true
  | _ => false

def flatFs (P : Program) (ks : TypeId → Option (List FK)) : Nat → List Field → Option (List FK)
  | _, [] => some []
  | o, f :: r => if f.name = "_" ∨ f.offset ≠ o then none else match ks f.type with
    | some l => if P.cellsOf f.type = l.length then (flatFs P ks (o + l.length) r).map (l ++ ·) else none
    | none => none

def flatKs (P : Program) : Nat → TypeId → Option (List FK)
  | 0, _ => none
  | n + 1, t => match P.underlying t with
    | some (.int _) => some [.i]
    | some .bool => some [.b]
    | some .string => some [.s]
    | some (.array m e) => match flatKs P n e with
      | some l => if P.cellsOf e = l.length then some (List.replicate m l).flatten else none
      | none => none
    | some (.struct fs) => if P.stoodInHeld t then none else flatFs P (flatKs P n) 0 fs.toList
    | _ => none

/-- these cells, as one value of the type -/
def IsVal (P : Program) (t : TypeId) (xs : List Value) (v : Value) : Prop := ∃ d, P.underlying t = some d ∧ ((isAggD d = true ∧ v = .agg xs.toArray) ∨ (isAggD d = false ∧ xs = [v]))

theorem eqCells_nil {as bs : List (AV U)} {r : Bool} (h : eqCells [] as bs = some r) : as = [] ∧ bs = [] ∧ r = true := by
  cases as <;> cases bs <;> simp [eqCells] at h
  exact ⟨rfl, rfl, h⟩

theorem eqCells_split : ∀ (l1 l2 : List FK) (as bs : List (AV U)) (r : Bool), eqCells (l1 ++ l2) as bs = some r →
    ∃ r1 r2, eqCells l1 (as.take l1.length) (bs.take l1.length) = some r1 ∧ eqCells l2 (as.drop l1.length) (bs.drop l1.length) = some r2 ∧ r = (r1 && r2) := by
  intro l1
  induction l1 with
  | nil => intro l2 as bs r h; exact ⟨true, r, by simp [eqCells], by simpa using h, by simp⟩
  | cons f l1 ih =>
    intro l2 as bs r h
    cases as with
    | nil => cases f <;> simp [eqCells] at h
    | cons a as =>
      cases bs with
      | nil => cases f <;> cases a <;> simp [eqCells] at h
      | cons b bs =>
        simp only [List.length_cons, List.take_succ_cons, List.drop_succ_cons]
        have step : ∀ (q' : Bool), (match eqCells (l1 ++ l2) as bs with | some r => some (q' && r) | none => none) = some r →
            ∃ r1 r2, (match eqCells l1 (as.take l1.length) (bs.take l1.length) with | some r => some (q' && r) | none => none) = some r1 ∧ eqCells l2 (as.drop l1.length) (bs.drop l1.length) = some r2 ∧ r = (r1 && r2) := by
          intro q' h
          cases hq : eqCells (l1 ++ l2) as bs with
          | none => rw [hq] at h; cases h
          | some q =>
            rw [hq] at h
            obtain ⟨r1, r2, h1, h2, h3⟩ := ih l2 as bs q hq
            have h : (q' && q) = r := by simpa using h
            exact ⟨q' && r1, r2, by rw [h1], h2, by rw [← h, h3, Bool.and_assoc]⟩
        cases f <;> cases a <;> cases b <;> simp only [List.cons_append, eqCells] at h ⊢ <;> try cases h
        · rename_i k n k' n'
          cases hk : IntKind.same k k' with
          | false => rw [hk] at h; cases h
          | true => rw [hk] at h; simp only; exact step _ h
        · exact step _ h
        · exact step _ h

theorem cellsOf_run {t : TypeId} {s : Nat} (h : P.cellsOf t = s) (hs : P.info? t ≠ none) (w : World) : (Go.sizeOf t).run P w = .ok s w := by
  unfold Program.cellsOf at h
  cases hi : P.info? t with
  | none => exact absurd hi hs
  | some i => rw [hi] at h; simp at h; simp [Go.sizeOf, typeInfo, hi, h]

theorem underlying_info {t : TypeId} {d : TypeDesc} (h : P.underlying t = some d) : P.info? t ≠ none := by
  intro hh; unfold Program.underlying at h; rw [hh] at h; cases h

theorem run_part {t : TypeId} {s o : Nat} {d : TypeDesc} (hd : P.underlying t = some d) (hs : P.cellsOf t = s) (h1 : isAggD d = false → s = 1) (xs : List Value) (hl : o + s ≤ xs.length) (w : World) :
    ∃ v, (part t xs.toArray o).run P w = .ok v w ∧ IsVal P t ((xs.drop o).take s) v := by
  have ha : ∀ w, (isAgg t).run P w = .ok (isAggD d) w := by
    intro w; cases d <;> simp [isAgg, run_underlying hd, isAggD]
  unfold part
  simp only [Sem.run_bind, ha, Result.andThen_ok]
  cases hg : isAggD d with
  | true =>
    refine ⟨.agg (xs.toArray.extract o (o + s)), by simp [cellsOf_run hs (underlying_info hd)], d, hd, .inl ⟨hg, ?_⟩⟩
    simp [List.extract_eq_take_drop]
  | false =>
    have h1 := h1 hg
    have hlt : o < xs.length := by omega
    refine ⟨xs[o], by simp [hlt], d, hd, .inr ⟨hg, ?_⟩⟩
    rw [h1, List.drop_eq_getElem_cons hlt, List.take_succ_cons, List.take_zero]

theorem flatKs_desc {n : Nat} {t : TypeId} {l : List FK} (h : flatKs P n t = some l) : ∃ d, P.underlying t = some d ∧ (isAggD d = false → l.length = 1) := by
  cases n with
  | zero => cases h
  | succ n =>
    unfold flatKs at h
    split at h
    · rename_i hu; exact ⟨_, hu, fun _ => by cases h; rfl⟩
    · rename_i hu; exact ⟨_, hu, fun _ => by cases h; rfl⟩
    · rename_i hu; exact ⟨_, hu, fun _ => by cases h; rfl⟩
    · rename_i hu; exact ⟨_, hu, fun hh => by cases hh⟩
    · rename_i hu; exact ⟨_, hu, fun hh => by cases hh⟩
    · cases h

theorem IsVal.one {t : TypeId} {d : TypeDesc} (hd : P.underlying t = some d) (hs : isAggD d = false) {xs : List Value} {v : Value} (h : IsVal P t xs v) : xs = [v] := by
  obtain ⟨d', h1, h2⟩ := h
  rw [hd] at h1; cases h1
  rw [hs] at h2
  simpa using h2

theorem IsVal.agg {t : TypeId} {d : TypeDesc} (hd : P.underlying t = some d) (hs : isAggD d = true) {xs : List Value} {v : Value} (h : IsVal P t xs v) : v = .agg xs.toArray := by
  obtain ⟨d', h1, h2⟩ := h
  rw [hd] at h1; cases h1
  rw [hs] at h2
  simpa using h2

theorem RelL.one {e : En} {as : List (AV U)} {v : Value} (h : RelL e as [v]) : ∃ a, as = [a] ∧ Rel e a v := by
  match as, h.1 with
  | [a], _ => exact ⟨a, rfl, h.head⟩

theorem eqCells_len : ∀ (l : List FK) (as bs : List (AV U)) (r : Bool), eqCells l as bs = some r → as.length = l.length ∧ bs.length = l.length := by
  intro l
  induction l with
  | nil => intro as bs r h; obtain ⟨rfl, rfl, _⟩ := eqCells_nil h; exact ⟨rfl, rfl⟩
  | cons f l ih =>
    intro as bs r h
    cases as with
    | nil => cases f <;> simp [eqCells] at h
    | cons a as =>
      cases bs with
      | nil => cases f <;> cases a <;> simp [eqCells] at h
      | cons b bs =>
        have step : ∀ (q' : Bool), (match eqCells l as bs with | some r => some (q' && r) | none => none) = some r → (a :: as).length = (f :: l).length ∧ (b :: bs).length = (f :: l).length := by
          intro q' h
          cases hq : eqCells l as bs with
          | none => rw [hq] at h; cases h
          | some q => obtain ⟨h1, h2⟩ := ih as bs q hq; simp [h1, h2]
        cases f <;> cases a <;> cases b <;> simp only [eqCells] at h <;> try cases h
        · rename_i k n k' n'
          cases hk : IntKind.same k k' with
          | false => rw [hk] at h; cases h
          | true => rw [hk] at h; exact step _ h
        · exact step _ h
        · exact step _ h

/-- the cells of one part of two values -/
theorem eq_part {e : En} {n : Nat} {t : TypeId} {l : List FK} (hf : flatKs P n t = some l) (hc : P.cellsOf t = l.length) (k : Nat)
    (ih : ∀ (as bs : List (AV U)) (xs ys : List Value) (r : Bool) (va vb : Value) (w : World), RelL e as xs → RelL e bs ys → eqCells l as bs = some r → IsVal P t xs va → IsVal P t ys vb → (Op.equalIn (n + k) t va vb).run P w = .ok r w)
    {as bs : List (AV U)} {xs ys : List Value} (ha : RelL e as xs) (hb : RelL e bs ys) {o : Nat} {r : Bool} (hr : eqCells l ((as.drop o).take l.length) ((bs.drop o).take l.length) = some r) (w : World) :
    ∃ va vb, (part t xs.toArray o).run P w = .ok va w ∧ (part t ys.toArray o).run P w = .ok vb w ∧ (Op.equalIn (n + k) t va vb).run P w = .ok r w := by
  obtain ⟨d, hd, h1⟩ := flatKs_desc hf
  obtain ⟨hla, hlb⟩ := eqCells_len _ _ _ _ hr
  simp at hla hlb
  have hxl := ha.1
  have hyl := hb.1
  by_cases h0 : l.length = 0
  · -- no cells at all
    have hbad : isAggD d = true := by
      cases hg : isAggD d with
      | true => rfl
      | false => have := h1 hg; omega
    have hp : ∀ zs : List Value, (part t zs.toArray o).run P w = .ok (.agg (zs.toArray.extract o (o + 0))) w := by
      intro zs
      have ha' : (isAgg t).run P w = .ok true w := by
        rw [← hbad]; cases d <;> simp [isAgg, run_underlying hd, isAggD]
      simp [part, ha', cellsOf_run hc (underlying_info hd), h0]
    refine ⟨_, _, hp xs, hp ys, ?_⟩
    refine ih [] [] [] [] r _ _ w .nil .nil ?_ ⟨d, hd, .inl ⟨hbad, by simp⟩⟩ ⟨d, hd, .inl ⟨hbad, by simp⟩⟩
    simpa [h0] using hr
  · obtain ⟨va, p1, v1⟩ := run_part hd hc h1 xs (o := o) (by omega) w
    obtain ⟨vb, p2, v2⟩ := run_part hd hc h1 ys (o := o) (by omega) w
    exact ⟨va, vb, p1, p2, ih _ _ _ _ r va vb w ((ha.drop o).take _) ((hb.drop o).take _) hr v1 v2⟩

theorem eq_fields {e : En} {n k : Nat} (ih : ∀ (t : TypeId) (l : List FK), flatKs P n t = some l → ∀ (as bs : List (AV U)) (xs ys : List Value) (r : Bool) (va vb : Value) (w : World), RelL e as xs → RelL e bs ys → eqCells l as bs = some r → IsVal P t xs va → IsVal P t ys vb → (Op.equalIn (n + k) t va vb).run P w = .ok r w)
    {as bs : List (AV U)} {xs ys : List Value} (ha : RelL e as xs) (hb : RelL e bs ys) (w : World) : ∀ (fs : List Field) (o : Nat) (l : List FK) (r : Bool), flatFs P (flatKs P n) o fs = some l → eqCells l (as.drop o) (bs.drop o) = some r →
      (Op.eqFields (n + k) xs.toArray ys.toArray fs).run P w = .ok r w := by
  intro fs
  induction fs with
  | nil =>
    intro o l r hl hr
    cases hl
    obtain ⟨_, _, rfl⟩ := eqCells_nil hr
    simp [Op.eqFields]
  | cons f fs ihf =>
    intro o l r hl hr
    unfold flatFs at hl
    split at hl
    · cases hl
    rename_i hcond
    have hname : f.name ≠ "_" := fun h => hcond (.inl h)
    have hoff : f.offset = o := by
      rcases Decidable.em (f.offset = o) with h | h
      · exact h
      · exact absurd (.inr h) hcond
    split at hl
    · rename_i lf hlf
      split at hl
      · rename_i hcells
        cases hrest : flatFs P (flatKs P n) (o + lf.length) fs with
        | none => rw [hrest] at hl; cases hl
        | some l' =>
          rw [hrest] at hl
          cases hl
          obtain ⟨r1, r2, h1, h2, h3⟩ := eqCells_split lf l' _ _ r hr
          obtain ⟨va, vb, p1, p2, p3⟩ := eq_part hlf hcells k (ih f.type lf hlf) ha hb h1 w
          rw [List.drop_drop] at h2
          rw [List.drop_drop] at h2
          have h4 := ihf (o + lf.length) l' r2 hrest h2
          simp only [Op.eqFields, Sem.run_ite, if_pos hname, Sem.run_bind, hoff, p1, p2, p3, Result.andThen_ok]
          cases r1
          · simp [h3]
          · simp [h3, h4]
      · cases hl
    · cases hl

theorem eq_items {e : En} {n k : Nat} {t : TypeId} {l : List FK} (hf : flatKs P n t = some l) (hc : P.cellsOf t = l.length)
    (ih : ∀ (as bs : List (AV U)) (xs ys : List Value) (r : Bool) (va vb : Value) (w : World), RelL e as xs → RelL e bs ys → eqCells l as bs = some r → IsVal P t xs va → IsVal P t ys vb → (Op.equalIn (n + k) t va vb).run P w = .ok r w)
    {as bs : List (AV U)} {xs ys : List Value} (ha : RelL e as xs) (hb : RelL e bs ys) (w : World) : ∀ (m i : Nat) (r : Bool), eqCells (List.replicate m l).flatten (as.drop (i * l.length)) (bs.drop (i * l.length)) = some r →
      (Op.eqItems (n + k) t (P.cellsOf t) xs.toArray ys.toArray (List.range' i m)).run P w = .ok r w := by
  intro m
  induction m with
  | zero =>
    intro i r hr
    obtain ⟨_, _, rfl⟩ := eqCells_nil hr
    simp [Op.eqItems]
  | succ m ihm =>
    intro i r hr
    rw [List.replicate_succ, List.flatten_cons] at hr
    obtain ⟨r1, r2, h1, h2, h3⟩ := eqCells_split l _ _ _ r hr
    obtain ⟨va, vb, p1, p2, p3⟩ := eq_part hf hc k ih ha hb h1 w
    rw [List.drop_drop, List.drop_drop, show i * l.length + l.length = (i + 1) * l.length by rw [Nat.add_mul]; omega] at h2
    have h4 := ihm (i + 1) r2 h2
    rw [List.range'_succ]
    rw [hc] at h4 ⊢
    simp only [Op.eqItems, Sem.run_bind, p1, p2, p3, Result.andThen_ok, Sem.run_ite]
    cases r1
    · simp [h3]
    · simp [h3, h4]

theorem eq_flat (e : En) : ∀ (n : Nat) (k : Nat) (t : TypeId) (l : List FK), flatKs P n t = some l → ∀ (as bs : List (AV U)) (xs ys : List Value) (r : Bool) (va vb : Value) (w : World),
    RelL e as xs → RelL e bs ys → eqCells l as bs = some r → IsVal P t xs va → IsVal P t ys vb → (Op.equalIn (n + k) t va vb).run P w = .ok r w := by
  intro n
  induction n with
  | zero => intro k t l h; cases h
  | succ n ih =>
    intro k t l h as bs xs ys r va vb w ha hb hr hva hvb
    rw [Nat.add_right_comm]
    have one : ∀ d, P.underlying t = some d → isAggD d = false → ∃ a b, as = [a] ∧ bs = [b] ∧ Rel e a va ∧ Rel e b vb := by
      intro d hd hns
      have h1 := hva.one hd hns
      have h2 := hvb.one hd hns
      subst h1; subst h2
      obtain ⟨a, h3, h4⟩ := ha.one
      obtain ⟨b, h5, h6⟩ := hb.one
      exact ⟨a, b, h3, h5, h4, h6⟩
    unfold flatKs at h
    split at h
    · rename_i kk hu
      cases h
      obtain ⟨a, b, rfl, rfl, h1, h2⟩ := one _ hu rfl
      cases a <;> cases b <;> simp only [eqCells] at hr <;> try cases hr
      rename_i k1 m k2 m'
      cases hk : IntKind.same k1 k2 with
      | false => rw [hk] at hr; cases hr
      | true =>
        rw [hk] at hr
        have := IntKind.same_eq hk
        subst this
        rw [h1.int_inv, h2.int_inv]
        simp [eqI] at hr
        simp [Op.equalIn, run_underlying hu, hr]
    · rename_i hu
      cases h
      obtain ⟨a, b, rfl, rfl, h1, h2⟩ := one _ hu rfl
      cases a <;> cases b <;> simp only [eqCells] at hr <;> try cases hr
      rw [h1.bool_inv, h2.bool_inv]
      simp [Op.equalIn, run_underlying hu, eqB]
    · rename_i hu
      cases h
      obtain ⟨a, b, rfl, rfl, h1, h2⟩ := one _ hu rfl
      cases a <;> cases b <;> simp only [eqCells] at hr <;> try cases hr
      rw [h1.str_inv, h2.str_inv]
      simp [Op.equalIn, run_underlying hu, eqS, beq_toListBytes]
    · rename_i m el hu
      split at h
      · rename_i l' hl'
        split at h
        · rename_i hc
          cases h
          rw [hva.agg hu rfl, hvb.agg hu rfl]
          have hi : P.info? el ≠ none := by
            obtain ⟨d, hd, _⟩ := flatKs_desc hl'
            exact underlying_info hd
          cases hinf : P.info? el with
          | none => exact absurd hinf hi
          | some inf =>
            rw [run_equalIn_array w (n + k) _ _ hu hinf, List.range_eq_range']
            exact eq_items hl' hc (ih k el l' hl') ha hb w m 0 r (by simpa using hr)
        · cases h
      · cases h
    · rename_i fs hu
      split at h
      · cases h
      rename_i hst
      rw [hva.agg hu rfl, hvb.agg hu rfl]
      have hfo : P.fieldsOf t = fs := by unfold Program.fieldsOf; rw [hu]
      rw [run_equalIn_struct w (n + k) t _ _ (by rw [hfo]; exact hu) (by simpa using hst), hfo]
      exact eq_fields (fun t l hl => ih k t l hl) ha hb w fs.toList 0 l r h (by simpa using hr)
    · cases h

end Am
