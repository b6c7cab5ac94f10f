/- Slice literals, slicing, conversions, make. -/
import Derived.Test.YtbeffjadfgbojaaAmO5
namespace Am
open Go
variable {U : TyU} {R : Type} {P : Program} {G : Env U}

theorem TIok.zero_rel {t : TypeId} {i : TI U} (hI : TIok P t i) (e : En) (w : World) : ∃ z, (zeroValue t).run P w = .ok z w ∧ RelL e i.zero z.cells.toList := by
  obtain ⟨z, hz1, hz2⟩ := hI.run_zero w
  refine ⟨z, hz1, ?_⟩
  rw [hz2]
  refine ⟨by simp, fun j x v hx hv => ?_⟩
  rw [List.getElem?_map, hv] at hx
  simp at hx; subst hx; exact rel_ofVal e v

/-! ## Rows -/
theorem decAll_get : ∀ {t : U.T} {es : List (List (AV U))} {xs : List (U.den t)}, decAll t es = some xs → xs.length = es.length ∧ ∀ (m : Nat) (y : U.den t), xs[m]? = some y → ∃ x, es[m]? = some x ∧ dec t x = some y := by
  intro t es
  induction es with
  | nil => intro xs h; cases h; exact ⟨rfl, by simp⟩
  | cons c es ih =>
    intro xs h
    simp only [decAll] at h
    split at h
    · rename_i x hx
      split at h
      · rename_i r hr
        cases h
        obtain ⟨h1, h2⟩ := ih hr
        refine ⟨by simp [h1], fun m y hy => ?_⟩
        cases m with
        | zero => simp at hy; subst hy; exact ⟨c, rfl, hx⟩
        | succ m => simp at hy; obtain ⟨x', h3, h4⟩ := h2 m y hy; exact ⟨x', by simpa using h3, h4⟩
      · cases h
    · cases h

theorem row_ok {e : En} {k b ob : Nat} {arr : Array Value} {el : TypeId} {fz : Nat × Nat} {j : TI U} {es : List (List (AV U))} {blk : Blk U} (hb : rowOf j es = some blk)
    (hm : e.m k = some (.at b ob)) (hh : e.w.heap[b]? = some (.cells arr el fz)) (hl : ob + es.length * j.size ≤ arr.size) (hu : unfrozen fz ob arr.size)
    (hn : e.n k = es.length)
    (hc : ∀ (m : Nat) (x : List (AV U)), es[m]? = some x → x.length = j.size ∧ okCells x = true ∧ CellsAt e arr (ob + m * j.size) x) : BlkOK e k blk := by
  unfold rowOf at hb
  split at hb
  · rename_i t ht
    split at hb
    · rename_i hsz
      have hsz := Nat.eq_of_beq_eq_true hsz
      split at hb
      · rename_i xs hxs
        cases hb
        obtain ⟨h1, h2⟩ := decAll_get hxs
        refine ⟨by rw [hn, h1], .inr ⟨b, ob, arr, el, fz, hm, hh, by rw [h1, ← hsz]; exact hl, hu, fun m y hy => ?_⟩⟩
        obtain ⟨x, h3, h4⟩ := h2 m y hy
        rw [← hsz]
        exact dec_cells h4 (hc m x h3).2.2
      · cases hb
    · cases hb
  · cases hb
    exact ⟨hn, .inr ⟨b, ob, arr, el, fz, hm, hh, hl, hu, hc⟩⟩

/-! ## Slice literals -/
theorem ascending_ge : ∀ {len : Nat} {ps : List (Nat × AV U)} {n : Nat}, ascending len ps n = true → ∀ p ∈ ps, n ≤ p.1 ∧ p.1 < len := by
  intro len ps
  induction ps with
  | nil => intro n _ p hp; cases hp
  | cons q ps ih =>
    intro n h p hp
    simp only [ascending] at h
    split at h
    · rename_i h1
      have h1 := Nat.le_of_ble_eq_true h1
      split at h
      · rename_i h2
        have h2 := Nat.le_of_ble_eq_true h2
        rcases List.mem_cons.1 hp with rfl | hp
        · exact ⟨h1, h2⟩
        · obtain ⟨h3, h4⟩ := ih h p hp
          exact ⟨by omega, h4⟩
      · cases h
    · cases h

theorem find_none {ps : List (Nat × AV U)} {i : Nat} (h : ∀ p ∈ ps, p.1 ≠ i) : ps.find? (fun p => Nat.beq p.1 i) = none := by
  rw [List.find?_eq_none]
  intro p hp hh
  exact h p hp (Nat.eq_of_beq_eq_true hh)

theorem fill_elems {e : En} {size len : Nat} : ∀ (ps : List (Nat × AV U)) (qs : List (Nat × Value)) (n : Nat) (arr : Array Value), ascending len ps n = true → PartsRel e ps qs → arr.size = len * size →
    (∀ p ∈ ps, (cellsOf p.2).length = size ∧ okCells (cellsOf p.2) = true) →
    ∃ arr', Instr.fill (fun i => some (i * size, size)) arr qs = some arr' ∧ arr'.size = arr.size ∧
      ∀ i j, i < len → j < size → match ps.find? (fun p => Nat.beq p.1 i) with
        | some p => ∃ (c : AV U) (v : Value), (cellsOf p.2)[j]? = some c ∧ arr'[i * size + j]? = some v ∧ Rel e c v
        | none => arr'[i * size + j]? = arr[i * size + j]? := by
  intro ps
  induction ps with
  | nil =>
    intro qs n arr _ hq _ _
    cases qs with
    | nil => exact ⟨arr, rfl, rfl, fun i j _ _ => rfl⟩
    | cons q qs => have := hq.1; simp at this
  | cons p ps ih =>
    intro qs n arr ha hq hs hp
    obtain ⟨c, qs', rfl, hc, hq'⟩ := hq.cons_inv
    obtain ⟨hn, hlen⟩ := ascending_ge ha p (List.mem_cons_self ..)
    obtain ⟨hpl, hpo⟩ := hp p (List.mem_cons_self ..)
    have ha' : ascending len ps (p.1 + 1) = true := by
      simp only [ascending] at ha
      split at ha
      · split at ha
        · exact ha
        · cases ha
      · cases ha
    obtain ⟨hc1, hc2⟩ := Rel.cells hc hpo
    have hcs : c.cells.size = size := by have := hc1.1; simp at this; omega
    have hidx := idx_le (sz := size) hlen
    obtain ⟨arr1, g1, g2, g3⟩ := set_row_arr c (p.1 * size) arr (by omega)
    obtain ⟨arr', h1, h2, h3⟩ := ih qs' (p.1 + 1) arr1 ha' hq' (by rw [g2, hs]) (fun q hq => hp q (List.mem_cons_of_mem _ hq))
    refine ⟨arr', ?_, by rw [h2, g2], fun i j hi hj => ?_⟩
    · simp only [Instr.fill]
      rw [if_neg (by simp; omega)]
      have : c.cells.zipIdx.foldl (fun cs x => match x with | (c, j) => cs.setIfInBounds (p.1 * size + j) c) arr = arr1 := g1
      rw [this]; exact h1
    · have h3 := h3 i j hi hj
      rw [List.find?_cons]
      by_cases hpi : p.1 = i
      · subst hpi
        have hnone : ps.find? (fun q => Nat.beq q.1 p.1) = none := find_none fun q hq => by have := (ascending_ge ha' q hq).1; omega
        rw [hnone] at h3
        have hbeq : Nat.beq p.1 p.1 = true := Nat.beq_refl _
        simp only [hbeq]
        have hjc : j < (cellsOf p.2).length := by omega
        obtain ⟨v, hv1, hv2⟩ := hc1.get (List.getElem?_eq_getElem hjc)
        refine ⟨_, v, List.getElem?_eq_getElem hjc, ?_, hv2⟩
        rw [h3, g3, if_pos (by omega), show p.1 * size + j - p.1 * size = j by omega]
        simpa using hv1
      · have hbeq : Nat.beq p.1 i = false := by
          cases hb : Nat.beq p.1 i with
          | false => rfl
          | true => exact absurd (Nat.eq_of_beq_eq_true hb) hpi
        simp only [hbeq]
        cases hf : ps.find? (fun q => Nat.beq q.1 i) with
        | some q => rw [hf] at h3; exact h3
        | none =>
          rw [hf] at h3
          simp only at h3 ⊢
          rw [h3, g3, if_neg]
          rcases Nat.lt_or_gt_of_ne hpi with hlt | hlt
          · have := idx_le (sz := size) hlt; omega
          · have := idx_le (sz := size) hlt; omega

theorem litElems_get {j : TI U} {ps : List (Nat × AV U)} : ∀ (n i : Nat) (es : List (List (AV U))), litElems j ps n i = some es → es.length = n ∧
    ∀ m, m < n → (es[m]? = some (match ps.find? (fun p => Nat.beq p.1 (i + m)) with | none => j.zero | some p => cellsOf p.2)) ∧
      ∀ p, ps.find? (fun p => Nat.beq p.1 (i + m)) = some p → (cellsOf p.2).length = j.size ∧ okCells (cellsOf p.2) = true := by
  intro n
  induction n with
  | zero => intro i es h; cases h; exact ⟨rfl, by omega⟩
  | succ n ih =>
    intro i es h
    simp only [litElems] at h
    split at h
    · cases h
    rename_i r hr
    obtain ⟨h1, h2⟩ := ih (i + 1) r hr
    have rest : ∀ (x : List (AV U)), ∀ m, m < n → ((x :: r)[m + 1]? = some (match ps.find? (fun p => Nat.beq p.1 (i + (m + 1))) with | none => j.zero | some p => cellsOf p.2)) ∧
        ∀ p, ps.find? (fun p => Nat.beq p.1 (i + (m + 1))) = some p → (cellsOf p.2).length = j.size ∧ okCells (cellsOf p.2) = true := by
      intro x m hm
      have := h2 m hm
      rw [show i + 1 + m = i + (m + 1) by omega] at this
      simpa using this
    split at h
    · rename_i hf
      cases h
      refine ⟨by simp [h1], fun m hm => ?_⟩
      cases m with
      | zero => exact ⟨by simp [hf], fun p hp => by rw [Nat.add_zero, hf] at hp; cases hp⟩
      | succ m => exact rest _ m (by omega)
    · rename_i p hf
      split at h
      · cases h
      rename_i hsz
      split at h
      · rename_i hok
        cases h
        refine ⟨by simp [h1], fun m hm => ?_⟩
        cases m with
        | zero => exact ⟨by simp [hf], fun q hq => by rw [Nat.add_zero, hf] at hq; cases hq; exact ⟨Nat.eq_of_beq_eq_true hsz, hok⟩⟩
        | succ m => exact rest _ m (by omega)
      · cases h

theorem ascending_find : ∀ {len : Nat} {ps : List (Nat × AV U)} {n : Nat}, ascending len ps n = true → ∀ p ∈ ps, ps.find? (fun q => Nat.beq q.1 p.1) = some p := by
  intro len ps
  induction ps with
  | nil => intro n _ p hp; cases hp
  | cons q ps ih =>
    intro n h p hp
    have h' : ascending len ps (q.1 + 1) = true := by
      simp only [ascending] at h
      split at h
      · split at h
        · exact h
        · cases h
      · cases h
    rw [List.find?_cons]
    rcases List.mem_cons.1 hp with rfl | hp
    · rw [Nat.beq_refl]
    · have := (ascending_ge h' p hp).1
      have hb : Nat.beq q.1 p.1 = false := by
        cases hb : Nat.beq q.1 p.1 with
        | false => rfl
        | true => have := Nat.eq_of_beq_eq_true hb; omega
      rw [hb]
      exact ih h' p hp

theorem buildSliceK_sound (hti : TIs P G) {t : TypeId} {len : Nat} {ps : List (Nat × AV U)} {H : Heap U} {k : AV U → Heap U → Option R} {r : R} (h : buildSliceK G t len ps H k = some r) :
    ∃ v b, k v (H ++ [some b]) = some r ∧ ∀ (e : En) (qs : Array (Nat × Value)), WF e → PartsRel e ps qs.toList → ∃ (c : Value) (w' : World) (ob : Obj),
      (Instr.buildSlice t len qs).run P e.w = .ok c w' ∧ PushW e.w w' ob ∧ (e.m H.length = none → Rel (e.push w' H.length len) v c ∧ BlkOK (e.push w' H.length len) H.length b) := by
  unfold buildSliceK at h
  split at h
  case h_2 => cases h
  rename_i el _ _ _ hi
  have hu := (hti t _ hi).und_slice rfl
  split at h
  · cases h
  rename_i j hj
  have hJ := hti el j hj
  split at h
  · cases h
  rename_i h0
  have h0 : j.size ≠ 0 := fun hh => by rw [hh] at h0; cases h0
  split at h
  · cases h
  rename_i hasc
  split at h
  · cases h
  rename_i h24
  have h24 := Nat.le_of_ble_eq_true h24
  split at h
  · cases h
  rename_i es hes
  split at h
  · cases h
  rename_i blk hblk
  refine ⟨_, blk, h, fun e qs hw hq => ?_⟩
  obtain ⟨hel, hget⟩ := litElems_get len 0 es hes
  obtain ⟨z, hz1, hz2⟩ := hJ.zero_rel e e.w
  have hzs : z.cells.size = j.size := by have := hz2.1; rw [hJ.zero_len] at this; simpa using this.symm
  have hparts : ∀ p ∈ ps, (cellsOf p.2).length = j.size ∧ okCells (cellsOf p.2) = true := by
    intro p hp
    have hlt := (ascending_ge hasc p hp).2
    exact (hget p.1 hlt).2 p (by rw [Nat.zero_add]; exact ascending_find hasc p hp)
  obtain ⟨zarr, hz5⟩ : ∃ zarr : Array Value, zarr = if len * j.size = 0 then #[] else z.cells := ⟨_, rfl⟩
  obtain ⟨arr', h1, h2, h3⟩ := fill_elems (e := e) (size := j.size) (len := len) ps qs.toList 0 ((Array.range (len * j.size)).map (zarr[· % zarr.size]!)) hasc hq (by simp) hparts
  have hrun : (Instr.buildSlice t len qs).run P e.w = .ok (.slice (some ⟨e.w.heap.size, 0, none⟩) len len) { e.w with heap := e.w.heap.push (.cells arr' el) } := by
    have hn24 : ¬ (len * j.size > 2 ^ 24) := by
      have : (2 : Nat) ^ 24 = 16777216 := by decide
      omega
    by_cases hz : len * j.size = 0
    · rw [if_pos hz] at hz5
      subst hz5
      simp only [Instr.buildSlice, Sem.run_bind, run_underlying hu, Result.andThen_ok, hJ.run_sizeOf, if_neg hn24, if_pos hz, Sem.run_pure, h1, newRow, run_newObj]
    · rw [if_neg hz] at hz5
      subst hz5
      simp only [Instr.buildSlice, Sem.run_bind, run_underlying hu, Result.andThen_ok, hJ.run_sizeOf, if_neg hn24, if_neg hz, Sem.run_pure, hz1, h1, newRow, run_newObj]
  refine ⟨_, _, _, hrun, ⟨rfl, rfl, rfl⟩, fun hm => ?_⟩
  have hE := En.push_evo (k := H.length) (len := len) (w' := { e.w with heap := e.w.heap.push (.cells arr' el) }) (fun _ => True) ⟨rfl, rfl, rfl⟩ hm
  have hmm : (e.push { e.w with heap := e.w.heap.push (.cells arr' el) } H.length len).m H.length = some (.at e.w.heap.size 0) := by simp [En.push]
  have hheap : (e.push { e.w with heap := e.w.heap.push (.cells arr' el) } H.length len).w.heap[e.w.heap.size]? = some (.cells arr' el) := by show (e.w.heap.push (.cells arr' el))[e.w.heap.size]? = _; simp
  have hsize : arr'.size = len * j.size := by rw [h2]; simp
  have hnn : (e.push { e.w with heap := e.w.heap.push (.cells arr' el) } H.length len).n H.length = len := by simp [En.push]
  refine ⟨?_, row_ok (ob := 0) hblk hmm hheap (by rw [hel, hsize]; omega) (unfrozen_zero _ _) (by rw [hnn, hel]) (fun m x hx => ?_)⟩
  · have := Rel.mrow (U := U) (e := e.push { e.w with heap := e.w.heap.push (.cells arr' el) } H.length len) (k := H.length) (sz := j.size) (cap := len) hmm (by rw [hnn]; exact Nat.le_refl _) ⟨arr', el, (0, 0), hheap, by rw [hsize]; simp⟩
    rw [hnn] at this
    exact this
  · have hmlt : m < len := by rw [← hel]; exact (List.getElem?_eq_some_iff.1 hx).1
    obtain ⟨g1, g2⟩ := hget m hmlt
    rw [hx] at g1
    simp only [Option.some.injEq, Nat.zero_add] at g1 g2
    rw [Nat.zero_add]
    cases hf : ps.find? (fun p => Nat.beq p.1 m) with
    | some p =>
      rw [hf] at g1
      simp only at g1
      subst g1
      refine ⟨(g2 p hf).1, (g2 p hf).2, fun i c hc => ?_⟩
      have hilt : i < j.size := by rw [← (g2 p hf).1]; exact (List.getElem?_eq_some_iff.1 hc).1
      have := h3 m i hmlt hilt
      rw [hf] at this
      obtain ⟨c', v, hc', hv, hr⟩ := this
      rw [hc] at hc'; cases hc'
      exact ⟨v, hv, hr.mono hE hw⟩
    | none =>
      rw [hf] at g1
      simp only at g1
      subst g1
      refine ⟨hJ.zero_len, hJ.zero_ok, fun i c hc => ?_⟩
      have hilt : i < j.size := by rw [← hJ.zero_len]; exact (List.getElem?_eq_some_iff.1 hc).1
      have := h3 m i hmlt hilt
      rw [hf] at this
      simp only at this
      have hidx := idx_le (sz := j.size) hmlt
      have hne : len * j.size ≠ 0 := by omega
      obtain ⟨v, hv1, hv2⟩ := hz2.get hc
      refine ⟨v, ?_, hv2.mono hE hw⟩
      rw [if_neg hne] at hz5
      rw [this, hz5]
      have hlt' : m * j.size + i < len * j.size := by omega
      have hmod : (m * j.size + i) % z.cells.size = i := by rw [hzs, Nat.mul_comm, Nat.mul_add_mod]; exact Nat.mod_eq_of_lt hilt
      have hiz : i < z.cells.size := by omega
      simp [hlt', hmod]
      have : z.cells[i]? = some v := by simpa using hv1
      rw [Array.getElem?_eq_getElem hiz] at this
      cases this
      simp [hiz]

end Am
