/- Literals, slices, conversions. -/
import Derived.Test.YtbeffjadfgbojaaAmO4
namespace Am
open Go
variable {U : TyU} {R : Type} {P : Program} {G : Env U}

theorem unOpK_sound {op : UnOp} {x : AV U} {k : AV U → Option R} {r : R} (h : unOpK op x k = some r) :
    ∃ v, k v = some r ∧ ∀ (e : En) (cx : Value) (w : World), Rel e x cx → ∃ u, (Op.unary op cx).run P w = .ok u w ∧ Rel e v u := by
  unfold unOpK at h
  split at h
  · exact ⟨_, h, fun e cx w hx => by rw [hx.bool_inv]; exact ⟨_, rfl, .bool⟩⟩
  · exact ⟨_, h, fun e cx w hx => by rw [hx.int_inv]; exact ⟨_, rfl, .int⟩⟩
  · refine ⟨_, h, fun e cx w hx => ?_⟩
    rw [hx.int_inv]
    rename_i kk n
    refine ⟨.int kk (xorI kk (match kk.signed with | true => -1 | false => kk.max) n), ?_, .int⟩
    cases kk <;> rfl
  · cases h

/-! ## Literals -/
theorem set_row (vs : List Value) (off : Nat) : ∀ (s : Nat) (cells : Array Value), off + s + vs.length ≤ cells.size →
    ((vs.zipIdx s).foldl (fun cs (p : Value × Nat) => cs.setIfInBounds (off + p.2) p.1) cells).size = cells.size ∧
    ∀ j, ((vs.zipIdx s).foldl (fun cs (p : Value × Nat) => cs.setIfInBounds (off + p.2) p.1) cells)[j]? = if off + s ≤ j ∧ j < off + s + vs.length then vs[j - (off + s)]? else cells[j]? := by
  induction vs with
  | nil => intro s cells _; exact ⟨rfl, fun j => by simp only [List.zipIdx_nil, List.foldl_nil, List.length_nil]; rw [if_neg (by omega)]⟩
  | cons v vs ih =>
    intro s cells h
    simp only [List.length_cons] at h
    obtain ⟨h1, h2⟩ := ih (s + 1) (cells.setIfInBounds (off + s) v) (by simp; omega)
    simp only [List.zipIdx_cons, List.foldl_cons]
    refine ⟨by rw [h1]; simp, fun j => ?_⟩
    rw [h2 j]
    simp only [List.length_cons]
    by_cases hj : j = off + s
    · subst hj
      rw [if_neg (by omega), if_pos (by omega), Nat.sub_self, List.getElem?_cons_zero, Array.getElem?_setIfInBounds, if_pos rfl, if_pos (by omega)]
    · by_cases hj2 : off + s ≤ j ∧ j < off + s + (vs.length + 1)
      · rw [if_pos (by omega), if_pos hj2, show j - (off + s) = (j - (off + (s + 1))) + 1 by omega]
        simp
      · rw [if_neg (by omega), if_neg hj2, Array.getElem?_setIfInBounds_ne (fun h => hj h.symm)]

theorem set_row_arr (v : Value) (off : Nat) (cells : Array Value) (h : off + v.cells.size ≤ cells.size) :
    ∃ arr, v.cells.zipIdx.foldl (fun cs (p : Value × Nat) => cs.setIfInBounds (off + p.2) p.1) cells = arr ∧ arr.size = cells.size ∧
      ∀ j, arr[j]? = if off ≤ j ∧ j < off + v.cells.size then v.cells[j - off]? else cells[j]? := by
  obtain ⟨h1, h2⟩ := set_row v.cells.toList off 0 cells (by simpa using h)
  refine ⟨_, rfl, ?_, fun j => ?_⟩
  · rw [← Array.foldl_toList, Array.toList_zipIdx]; exact h1
  · rw [← Array.foldl_toList, Array.toList_zipIdx]
    have := h2 j
    simpa using this

/-- parts, place by place -/
def PartsRel (e : En) (ps : List (Nat × AV U)) (qs : List (Nat × Value)) : Prop := ps.length = qs.length ∧ ∀ (j : Nat) (p : Nat × AV U) (q : Nat × Value), ps[j]? = some p → qs[j]? = some q → p.1 = q.1 ∧ Rel e p.2 q.2

theorem PartsRel.cons_inv {e : En} {p : Nat × AV U} {ps : List (Nat × AV U)} {qs : List (Nat × Value)} (h : PartsRel e (p :: ps) qs) : ∃ c qs', qs = (p.1, c) :: qs' ∧ Rel e p.2 c ∧ PartsRel e ps qs' := by
  cases qs with
  | nil => have := h.1; simp at this
  | cons q qs' =>
    obtain ⟨h1, h2⟩ := h.2 0 p q rfl rfl
    obtain ⟨q1, q2⟩ := q
    simp at h1 h2
    subst h1
    exact ⟨q2, qs', rfl, h2, by have := h.1; simpa using this, fun j p' q' hp hq => h.2 (j + 1) p' q' (by simpa using hp) (by simpa using hq)⟩

theorem fill_rel {e : En} {place : Nat → Option (Nat × Nat)} : ∀ (ps : List (Nat × AV U)) (qs : List (Nat × Value)) (cells out : List (AV U)) (arr : Array Value), fillL place cells ps = some out → PartsRel e ps qs → RelL e cells arr.toList →
    ∃ arr', Instr.fill place arr qs = some arr' ∧ RelL e out arr'.toList := by
  intro ps
  induction ps with
  | nil =>
    intro qs cells out arr h hq hr
    cases qs with
    | nil => cases h; exact ⟨arr, rfl, hr⟩
    | cons q qs => have := hq.1; simp at this
  | cons p ps ih =>
    intro qs cells out arr h hq hr
    obtain ⟨c, qs', rfl, hc, hq'⟩ := hq.cons_inv
    obtain ⟨i, v⟩ := p
    simp only [fillL] at h
    split at h
    · cases h
    · rename_i off size hp
      split at h
      · cases h
      · rename_i hsz
        have hsz := Nat.eq_of_beq_eq_true hsz
        split at h
        · rename_i hle
          have hle := Nat.le_of_ble_eq_true hle
          split at h
          · rename_i hok
            obtain ⟨hc1, hc2⟩ := Rel.cells hc hok
            have hcs : c.cells.size = size := by have := hc1.1; simp at this; omega
            have hal : cells.length = arr.size := by have := hr.1; simpa using this
            obtain ⟨arr', h1, h2, h3⟩ := set_row_arr c off arr (by omega)
            have hrel : RelL e (setCells cells off (cellsOf v)) arr'.toList := by
              refine ⟨by rw [setCells_length _ _ _ (by omega)]; simp [h2, hal], fun j x u hx hu => ?_⟩
              rw [setCells_get _ _ _ _ (by omega)] at hx
              have hu' : arr'[j]? = some u := by simpa using hu
              rw [h3 j] at hu'
              split at hx
              · rename_i hin
                rw [if_pos (by omega)] at hu'
                exact hc1.2 _ x u hx (by simpa using hu')
              · rename_i hin
                rw [if_neg (by omega)] at hu'
                exact hr.2 j x u hx (by simpa using hu')
            obtain ⟨arr'', h4, h5⟩ := ih qs' _ out arr' h hq' hrel
            refine ⟨arr'', ?_, h5⟩
            simp only [Instr.fill, hp]
            rw [if_neg (by simp; omega)]
            have : c.cells.zipIdx.foldl (fun cs x => match x with | (c, j) => cs.setIfInBounds (off + j) c) arr = arr' := h1
            rw [this]
            exact h4
          · cases h
        · cases h

theorem run_mapM_places (fs : List (Nat × TypeId)) : ∀ (l : List Field) (pl : List (Nat × Nat)) (w : World), TIs P G → l.map (fun f => (f.offset, f.type)) = fs → fieldPlaces G fs = some pl →
    (l.mapM (fun f => do pure (f.offset, ← Go.sizeOf f.type) : Field → Sem (Nat × Nat))).run P w = .ok pl w := by
  induction fs with
  | nil =>
    intro l pl w _ hl hp
    cases l with
    | nil => cases hp; simp
    | cons f l => simp at hl
  | cons x fs ih =>
    intro l pl w hti hl hp
    cases l with
    | nil => simp at hl
    | cons f l =>
      simp only [List.map_cons, List.cons.injEq] at hl
      obtain ⟨rfl, hl⟩ := hl
      simp only [fieldPlaces] at hp
      split at hp
      · cases hp
      · rename_i j hj
        split at hp
        · rename_i r hr
          cases hp
          rw [List.mapM_cons]
          simp only [Sem.run_bind, (hti _ _ hj).run_sizeOf, Result.andThen_ok, Sem.run_pure, ih l r w hti hl hr]
        · cases hp

theorem buildK_sound (hti : TIs P G) {t : TypeId} {ps : List (Nat × AV U)} {k : AV U → Option R} {r : R} (h : buildK G t ps k = some r) :
    ∃ v, k v = some r ∧ ∀ (e : En) (qs : Array (Nat × Value)) (w : World), PartsRel e ps qs.toList → ∃ u, (Instr.build t qs).run P w = .ok u w ∧ Rel e v u := by
  unfold buildK at h
  split at h
  · cases h
  rename_i i hi
  have hI := hti t i hi
  split at h
  · rename_i fs hk
    obtain ⟨fa, hu, hfa⟩ := hI.und_struct hk
    split at h
    · cases h
    rename_i pl hpl
    split at h
    · rename_i cs hcs
      refine ⟨_, h, fun e qs w hq => ?_⟩
      obtain ⟨z, hz1, hz2⟩ := hI.run_zero w
      have hz3 : RelL e i.zero z.cells.toList := by
        rw [hz2]
        refine ⟨by simp, fun j x v hx hv => ?_⟩
        rw [List.getElem?_map, hv] at hx
        simp at hx; subst hx; exact rel_ofVal e v
      obtain ⟨arr', h1, h2⟩ := fill_rel ps qs.toList _ cs z.cells hcs hq hz3
      refine ⟨.agg arr', ?_, Rel.of_agg h2⟩
      have hm : (fa.mapM (fun f => do pure (f.offset, ← Go.sizeOf f.type) : Field → Sem (Nat × Nat))).run P w = .ok pl.toArray w := by
        rw [Array.mapM_eq_mapM_toList]
        simp only [Sem.run_map, run_mapM_places fs fa.toList pl w hti hfa hpl, Result.andThen_ok]
      have hp : (fun n : Nat => (pl.toArray[n]? : Option (Nat × Nat))) = fun n => pl[n]? := by funext n; simp
      simp only [Instr.build, Sem.run_bind, hz1, Result.andThen_ok, run_underlying hu, hm]
      rw [hp, h1]
      rfl
    · cases h
  · rename_i m el hk
    have hu := hI.und_array hk
    split at h
    · cases h
    rename_i j hj
    split at h
    · rename_i cs hcs
      refine ⟨_, h, fun e qs w hq => ?_⟩
      obtain ⟨z, hz1, hz2⟩ := hI.run_zero w
      have hz3 : RelL e i.zero z.cells.toList := by
        rw [hz2]
        refine ⟨by simp, fun j x v hx hv => ?_⟩
        rw [List.getElem?_map, hv] at hx
        simp at hx; subst hx; exact rel_ofVal e v
      obtain ⟨arr', h1, h2⟩ := fill_rel ps qs.toList _ cs z.cells hcs hq hz3
      refine ⟨.agg arr', ?_, Rel.of_agg h2⟩
      simp only [Instr.build, Sem.run_bind, hz1, Result.andThen_ok, run_underlying hu, (hti _ _ hj).run_sizeOf]
      rw [h1]
      rfl
    · cases h
  · cases h

end Am
