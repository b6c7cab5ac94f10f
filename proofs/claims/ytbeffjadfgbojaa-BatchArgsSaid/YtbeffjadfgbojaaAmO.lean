/- The operations, one by one. -/
import Derived.Test.YtbeffjadfgbojaaAmS
namespace Am
open Go
variable {U : TyU} {R : Type}

theorem choose_list {p : Nat → Value → Prop} : ∀ (n : Nat), (∀ j, j < n → ∃ v, p j v) → ∃ vs : List Value, vs.length = n ∧ ∀ j v, vs[j]? = some v → p j v
  | 0, _ => ⟨[], rfl, by simp⟩
  | n + 1, h => by
    obtain ⟨vs, h1, h2⟩ := choose_list n (fun j hj => h j (by omega))
    obtain ⟨v, hv⟩ := h n (by omega)
    refine ⟨vs ++ [v], by simp [h1], fun j u hj => ?_⟩
    rw [List.getElem?_append] at hj
    split at hj
    · exact h2 j u hj
    · rename_i hlt
      have : j - vs.length = 0 := by
        rcases Nat.eq_zero_or_pos (j - vs.length) with h0 | h0
        · exact h0
        · obtain ⟨m, hm⟩ : ∃ m, j - vs.length = m + 1 := ⟨j - vs.length - 1, by omega⟩
          rw [hm] at hj; simp at hj
      rw [this] at hj
      simp at hj
      have hjn : j = n := by omega
      subst hjn; subst hj; exact hv

theorem idx_ne {i ii sz j j' : Nat} (h : i ≠ ii) (hj : j < sz) (hj' : j' < sz) : i * sz + j ≠ ii * sz + j' := by
  intro he
  rcases Nat.lt_or_gt_of_ne h with h1 | h1
  · have : (i + 1) * sz ≤ ii * sz := Nat.mul_le_mul_right _ h1
    rw [Nat.add_mul] at this; omega
  · have : (ii + 1) * sz ≤ i * sz := Nat.mul_le_mul_right _ h1
    rw [Nat.add_mul] at this; omega

theorem idx_le {i n sz : Nat} (h : i < n) : i * sz + sz ≤ n * sz := by
  have : (i + 1) * sz ≤ n * sz := Nat.mul_le_mul_right _ h
  rw [Nat.add_mul] at this; omega

/-! ## What an operation must do -/
def OpS (P : Program) (o : Oper) (fr : List (AV U)) (H : Heap U) (v : AV U) (H' : Heap U) : Prop :=
  ∀ (e : En) (a : Act) (K : Act → World → Prop) (Q : Exit → Act → World → Prop),
    WF e → (∀ x, Rel e (ev fr x) (a.eval x)) → HeapRel e H.get → (∀ k, H.length ≤ k → k < H'.length → e.m k = none) →
    (∀ (c : Value) (e' : En), WF e' → Evo (dom H.get) e e' → Rel e' v c → HeapRel e' H'.get → (∀ k, e.m k = none → e'.m k ≠ none → H.length ≤ k ∧ k < H'.length) → K (a.put o.dst c) e'.w) →
    o.wp P a e.w K Q

/-- nothing is written or made -/
theorem OpS.pure {P : Program} {o : Oper} {fr : List (AV U)} {H : Heap U} {v : AV U}
    (h : ∀ (e : En) (a : Act), WF e → (∀ x, Rel e (ev fr x) (a.eval x)) → HeapRel e H.get → ∃ c, (execOp a.eval o).run P e.w = .ok (.value c) e.w ∧ Rel e v c) : OpS P o fr H v H := by
  intro e a K Q hw hr hh _ hk
  obtain ⟨c, h1, h2⟩ := h e a hw hr hh
  unfold Oper.wp
  rw [h1]
  exact hk c e hw (.refl _ _) h2 hh (fun k h0 h1 => absurd h0 h1)

/-! ## New blocks -/
theorem Heap.get_snoc (H : Heap U) (b : Blk U) (k : Nat) : Heap.get (H ++ [some b]) k = if k = H.length then some b else H.get k := by
  unfold Heap.get
  rw [List.getElem?_append]
  by_cases h : k < H.length
  · rw [if_pos h, if_neg (by omega)]
  · rw [if_neg h]
    by_cases h2 : k = H.length
    · subst h2; simp
    · rw [if_neg h2]
      have h3 : k - H.length ≠ 0 := by omega
      obtain ⟨m, hm⟩ : ∃ m, k - H.length = m + 1 := ⟨k - H.length - 1, by omega⟩
      rw [hm, List.getElem?_eq_none (by simp)]
      rw [List.getElem?_eq_none (by omega)]

theorem Heap.get_lt {H : Heap U} {k : Nat} {b : Blk U} (h : H.get k = some b) : k < H.length := by
  unfold Heap.get at h
  split at h
  · rename_i heq; exact (List.getElem?_eq_some_iff.1 heq).1
  · cases h

theorem Heap.get_set {H : Heap U} {k : Nat} {b : Blk U} {x : Option (Blk U)} (h : H.get k = some b) (j : Nat) : Heap.get (H.set k x) j = if j = k then x else H.get j := by
  have hk := Heap.get_lt h
  unfold Heap.get
  by_cases hj : j = k
  · subst hj; rw [List.getElem?_set_self hk, if_pos rfl]
  · rw [List.getElem?_set_ne (fun hh => hj hh.symm), if_neg hj]

/-- the world with one more block, known as 'k' -/
def En.push (e : En) (w' : World) (k : Nat) (len : Nat := 0) : En := { w := w', m := fun j => if j = k then some (.at e.w.heap.size 0) else e.m j, n := fun j => if j = k then len else e.n j, I := e.I }

theorem En.push_wf {e : En} {w' : World} {k len : Nat} {o : Obj} (hw : WF e) (hh : w'.heap = e.w.heap.push o) : WF (e.push w' k len) where
  iLt b hb := by have := hw.iLt b hb; simp [En.push, hh]; omega
  mLt k' b ob hm := by
    simp only [En.push, hh, Array.size_push] at hm ⊢
    split at hm
    · simp at hm; omega
    · have := hw.mLt k' b ob hm; omega
  mI k' b ob hm hI := by
    simp only [En.push] at hm hI
    split at hm
    · simp at hm; have := hw.iLt b hI; omega
    · exact hw.mI k' b ob hm hI
  inj k1 k2 b o1 o2 h1 h2 := by
    simp only [En.push] at h1 h2
    split at h1 <;> split at h2
    · simp_all
    · simp at h1; have := hw.mLt k2 b o2 h2; omega
    · simp at h2; have := hw.mLt k1 b o1 h1; omega
    · exact hw.inj k1 k2 b o1 o2 h1 h2

theorem En.push_evo {e : En} {w' : World} {k len : Nat} {o : Obj} (D : Nat → Prop) (hh' : PushW e.w w' o) (hk : e.m k = none) : Evo D e (e.push w' k len) where
  io := hh'.2
  size := by have hh := hh'.1; simp [En.push, hh]
  keep b hb _ := by
    have hh := hh'.1
    simp only [En.push, hh]
    rw [Array.getElem?_push]
    rw [if_neg (by omega)]
  shape b arr el fz h := by
    have hh := hh'.1
    refine ⟨arr, ?_, rfl⟩
    have hb : b < e.w.heap.size := (Array.getElem?_eq_some_iff.1 h).1
    simp only [En.push, hh]
    rw [Array.getElem?_push, if_neg (by omega)]
    exact h
  old j l hj := by
    left
    simp only [En.push]
    rw [if_neg]
    · exact hj
    · rintro rfl; rw [hk] at hj; cases hj
  len j l hj := by
    simp only [En.push]
    rw [if_neg]
    rintro rfl; rw [hk] at hj; cases hj
  new j b ob hm := by
    simp only [En.push] at hm
    split at hm
    · right; left; simp at hm; omega
    · exact .inl hm
  iOld b hb := hb
  iNew b hb := .inl hb

theorem push_get {w' w : World} {o : Obj} (hh : w'.heap = w.heap.push o) : w'.heap[w.heap.size]? = some o := by rw [hh]; simp

/-- an operation that makes one block of cells -/
theorem OpS.alloc {P : Program} {o : Oper} {fr : List (AV U)} {H : Heap U} {v : AV U} {b : Blk U}
    (h : ∀ (e : En) (a : Act), WF e → (∀ x, Rel e (ev fr x) (a.eval x)) → HeapRel e H.get → ∃ (c : Value) (w' : World) (ob : Obj) (len : Nat),
      (execOp a.eval o).run P e.w = .ok (.value c) w' ∧ PushW e.w w' ob ∧ (e.m H.length = none → Rel (e.push w' H.length len) v c ∧ BlkOK (e.push w' H.length len) H.length b)) : OpS P o fr H v (H ++ [some b]) := by
  intro e a K Q hw hr hh hf hk
  obtain ⟨c, w', ob, len, h1, h2, h3⟩ := h e a hw hr hh
  have hn := hf H.length (Nat.le_refl _) (by simp)
  obtain ⟨h4, h5⟩ := h3 hn
  unfold Oper.wp
  rw [h1]
  refine hk c (e.push w' H.length len) (En.push_wf hw h2.1) (En.push_evo _ h2 hn) h4 ?_ ?_
  · intro k b' hb
    rw [Heap.get_snoc] at hb
    split at hb
    · rename_i hkk; subst hkk; cases hb; exact h5
    · exact (hh k b' hb).mono (D := fun _ => False) (En.push_evo _ h2 hn) hw (by simp)
  · intro k h0 h1
    simp only [En.push] at h1
    split at h1
    · rename_i hkk; subst hkk; simp
    · exact absurd h0 h1

/-- cells that were related are where a new block has them -/
theorem CellsAt.of_list {e : En} {cs : List (AV U)} {vs : List Value} (h : RelL e cs vs) (arr : Array Value) (ob : Nat) (ha : ∀ j v, vs[j]? = some v → arr[ob + j]? = some v) : CellsAt e arr ob cs := by
  intro j c hj
  obtain ⟨v, h1, h2⟩ := h.get hj
  exact ⟨v, ha j v h1, h2⟩

theorem unfrozen_zero (lo hi : Nat) : unfrozen (0, 0) lo hi := by intro j _ _; simp

/-! ## Parts -/
theorem partK_inv {i : TI U} {cs : List (AV U)} {o : Nat} {k : AV U → Option R} {r : R} (h : partK i cs o k = some r) :
    ∃ v, k v = some r ∧ ((i.tk.isAgg = true ∧ v = .agg ((cs.drop o).take i.size) ∧ ((cs.drop o).take i.size).length = i.size) ∨ (i.tk.isAgg = false ∧ cs[o]? = some v)) := by
  unfold partK at h
  split at h
  · rename_i hk
    split at h
    · rename_i hb
      exact ⟨_, h, .inl ⟨hk, rfl, Nat.eq_of_beq_eq_true hb⟩⟩
    · cases h
  · rename_i hk
    split at h
    · rename_i c hc
      exact ⟨c, h, .inr ⟨hk, hc⟩⟩
    · cases h

/-- a variable among cells that are known -/
theorem part_load {P : Program} {t : TypeId} {i : TI U} (hi : TIok P t i) {e : En} {b base : Nat} {cs : List (AV U)}
    (hc : ∀ (j : Nat) (c : AV U), cs[j]? = some c → ∃ v, e.w.cell? ⟨b, base + j, none⟩ = some v ∧ Rel e c v) {o : Nat} {v : AV U}
    (hv : (i.tk.isAgg = true ∧ v = .agg ((cs.drop o).take i.size) ∧ ((cs.drop o).take i.size).length = i.size) ∨ (i.tk.isAgg = false ∧ cs[o]? = some v)) :
    ∃ c, (loadVar t ⟨b, base + o, none⟩).run P e.w = .ok c e.w ∧ Rel e v c := by
  rcases hv with ⟨hk, rfl, hl⟩ | ⟨hk, hv⟩
  · have hget : ∀ j, j < i.size → ∃ c, ((cs.drop o).take i.size)[j]? = some c := fun j hj => ⟨_, List.getElem?_eq_getElem (by omega)⟩
    obtain ⟨vs, h1, h2⟩ := choose_list (p := fun j v => e.w.cell? ⟨b, base + o + j, none⟩ = some v ∧ ∀ c, ((cs.drop o).take i.size)[j]? = some c → Rel e c v) i.size (by
      intro j hj
      obtain ⟨c, hcj⟩ := hget j hj
      have hcj' : cs[o + j]? = some c := by
        rw [List.getElem?_take, if_pos hj, List.getElem?_drop] at hcj; exact hcj
      obtain ⟨v, hv1, hv2⟩ := hc _ _ hcj'
      exact ⟨v, by rw [Nat.add_assoc]; exact hv1, fun c' hc' => by rw [hcj] at hc'; cases hc'; exact hv2⟩)
    refine ⟨.agg vs.toArray, ?_, ?_⟩
    · rw [run_loadVar hi e.w b (base + o) vs h1 (fun j v hj => (h2 j v hj).1)]
      simp [hk]
    · refine Rel.of_agg ⟨by simp [hl, h1], fun j x u hx hu => ?_⟩
      exact (h2 j u (by simpa using hu)).2 x hx
  · obtain ⟨u, h1, h2⟩ := hc o v hv
    refine ⟨u, ?_, h2⟩
    rw [run_loadVar hi e.w b (base + o) [u] (by rw [hi.one hk]; rfl) (fun j x hj => by
      cases j with
      | zero => simp at hj; subst hj; exact h1
      | succ j => simp at hj)]
    simp [hk]

/-- a part of a value's cells -/
theorem part_value {P : Program} {t : TypeId} {i : TI U} (hi : TIok P t i) {e : En} {cs : List (AV U)} {va : Array Value} (hc : RelL e cs va.toList) {o : Nat} {v : AV U}
    (hv : (i.tk.isAgg = true ∧ v = .agg ((cs.drop o).take i.size) ∧ ((cs.drop o).take i.size).length = i.size) ∨ (i.tk.isAgg = false ∧ cs[o]? = some v)) (w : World) :
    ∃ c, (part t va o).run P w = .ok c w ∧ Rel e v c := by
  unfold part
  simp only [Sem.run_bind, hi.run_isAgg, Result.andThen_ok]
  rcases hv with ⟨hk, rfl, hl⟩ | ⟨hk, hv⟩
  · rw [hk]
    refine ⟨.agg (va.extract o (o + i.size)), ?_, ?_⟩
    · simp [hi.run_sizeOf]
    · refine Rel.of_agg ?_
      have : (va.extract o (o + i.size)).toList = (va.toList.drop o).take i.size := by
        simp [List.extract_eq_take_drop]
      rw [this]
      exact (hc.drop o).take i.size
  · rw [hk]
    obtain ⟨u, h1, h2⟩ := hc.get hv
    refine ⟨u, ?_, h2⟩
    have h3 : va[o]? = some u := by simpa using h1
    simp [h3]

end Am
