/- The operations, one by one. Loads, stores, addresses. -/
import Derived.Test.YtlogoccciaopnaaGreatDoorAmS
namespace Am
open Go
variable {U : TyU} {R : Type}

theorem choose_list {p : Nat → Value → Prop} : ∀ (n : Nat), (∀ j, j < n → ∃ v, p j v) → ∃ vs : List Value, vs.length = n ∧ ∀ j v, vs[j]? = some v → p j v
  | 0, _ => ⟨[], rfl, by simp⟩
  | n + 1, h => by
    obtain ⟨vs, h1, h2⟩ := choose_list n (fun j hj => h j (by omega))
    obtain ⟨v, hv⟩ := h n (by omega)
    refine ⟨vs ++ [v], by simp [h1], fun j u hj => ?_⟩
    rw [List.getElem?_append] at hj
    split at hj
    · exact h2 j u hj
    · rename_i hlt
      have : j - vs.length = 0 := by
        rcases Nat.eq_zero_or_pos (j - vs.length) with h0 | h0
        · exact h0
        · obtain ⟨m, hm⟩ : ∃ m, j - vs.length = m + 1 := ⟨j - vs.length - 1, by omega⟩
          rw [hm] at hj; simp at hj
      rw [this] at hj
      simp at hj
      have hjn : j = n := by omega
      subst hjn; subst hj; exact hv

theorem idx_ne {i ii sz j j' : Nat} (h : i ≠ ii) (hj : j < sz) (hj' : j' < sz) : i * sz + j ≠ ii * sz + j' := by
  intro he
  rcases Nat.lt_or_gt_of_ne h with h1 | h1
  · have : (i + 1) * sz ≤ ii * sz := Nat.mul_le_mul_right _ h1
    rw [Nat.add_mul] at this; omega
  · have : (ii + 1) * sz ≤ i * sz := Nat.mul_le_mul_right _ h1
    rw [Nat.add_mul] at this; omega

theorem idx_le {i n sz : Nat} (h : i < n) : i * sz + sz ≤ n * sz := by
  have : (i + 1) * sz ≤ n * sz := Nat.mul_le_mul_right _ h
  rw [Nat.add_mul] at this; omega

/-! ## What an operation must do -/
def OpS (P : Program) (o : Oper) (fr : List (AV U)) (H : Heap U) (v : AV U) (H' : Heap U) : Prop :=
  ∀ (e : En) (a : Act) (K : Act → World → Prop) (Q : Exit → Act → World → Prop),
    WF e → (∀ x, Rel e (ev fr x) (a.eval x)) → HeapRel e H.get → (∀ k, H.length ≤ k → k < H'.length → e.m k = none) →
    (∀ (c : Value) (e' : En), WF e' → Evo (dom H.get) e e' → Rel e' v c → HeapRel e' H'.get → (∀ k, e.m k = none → e'.m k ≠ none → H.length ≤ k ∧ k < H'.length) → K (a.put o.dst c) e'.w) →
    o.wp P a e.w K Q

/-- nothing is written or made -/
theorem OpS.pure {P : Program} {o : Oper} {fr : List (AV U)} {H : Heap U} {v : AV U}
    (h : ∀ (e : En) (a : Act), WF e → (∀ x, Rel e (ev fr x) (a.eval x)) → HeapRel e H.get → ∃ c, (execOp a.eval o).run P e.w = .ok (.value c) e.w ∧ Rel e v c) : OpS P o fr H v H := by
  intro e a K Q hw hr hh _ hk
  obtain ⟨c, h1, h2⟩ := h e a hw hr hh
  unfold Oper.wp
  rw [h1]
  exact hk c e hw (.refl _ _) h2 hh (fun k h0 h1 => absurd h0 h1)

/-! ## New blocks -/
theorem Heap.get_snoc (H : Heap U) (b : Blk U) (k : Nat) : Heap.get (H ++ [some b]) k = if k = H.length then some b else H.get k := by
  unfold Heap.get
  rw [List.getElem?_append]
  by_cases h : k < H.length
  · rw [if_pos h, if_neg (by omega)]
  · rw [if_neg h]
    by_cases h2 : k = H.length
    · subst h2; simp
    · rw [if_neg h2]
      have h3 : k - H.length ≠ 0 := by omega
      obtain ⟨m, hm⟩ : ∃ m, k - H.length = m + 1 := ⟨k - H.length - 1, by omega⟩
      rw [hm, List.getElem?_eq_none (by simp)]
      rw [List.getElem?_eq_none (by omega)]

theorem Heap.get_lt {H : Heap U} {k : Nat} {b : Blk U} (h : H.get k = some b) : k < H.length := by
  unfold Heap.get at h
  split at h
  · rename_i heq; exact (List.getElem?_eq_some_iff.1 heq).1
  · cases h

theorem Heap.get_set {H : Heap U} {k : Nat} {b : Blk U} {x : Option (Blk U)} (h : H.get k = some b) (j : Nat) : Heap.get (H.set k x) j = if j = k then x else H.get j := by
  have hk := Heap.get_lt h
  unfold Heap.get
  by_cases hj : j = k
  · subst hj; rw [List.getElem?_set_self hk, if_pos rfl]
  · rw [List.getElem?_set_ne (fun hh => hj hh.symm), if_neg hj]

/-- the world with one more block, known as 'k' -/
def En.push (e : En) (w' : World) (k : Nat) (len : Nat := 0) : En := { w := w', m := fun j => if j = k then some (.at e.w.heap.size 0) else e.m j, n := fun j => if j = k then len else e.n j, I := e.I }

theorem En.push_wf {e : En} {w' : World} {k len : Nat} {o : Obj} (hw : WF e) (hh : w'.heap = e.w.heap.push o) : WF (e.push w' k len) where
  iLt b hb := by have := hw.iLt b hb; simp [En.push, hh]; omega
  mLt k' b ob hm := by
    simp only [En.push, hh, Array.size_push] at hm ⊢
    split at hm
    · simp at hm; omega
    · have := hw.mLt k' b ob hm; omega
  mI k' b ob hm hI := by
    simp only [En.push] at hm hI
    split at hm
    · simp at hm; have := hw.iLt b hI; omega
    · exact hw.mI k' b ob hm hI
  inj k1 k2 b o1 o2 h1 h2 := by
    simp only [En.push] at h1 h2
    split at h1 <;> split at h2
    · simp_all
    · simp at h1; have := hw.mLt k2 b o2 h2; omega
    · simp at h2; have := hw.mLt k1 b o1 h1; omega
    · exact hw.inj k1 k2 b o1 o2 h1 h2

theorem En.push_evo {e : En} {w' : World} {k len : Nat} {o : Obj} (D : Nat → Prop) (hh' : PushW e.w w' o) (hk : e.m k = none) : Evo D e (e.push w' k len) where
  io := hh'.2
  size := by have hh := hh'.1; simp [En.push, hh]
  keep b hb _ := by
    have hh := hh'.1
    simp only [En.push, hh]
    rw [Array.getElem?_push]
    rw [if_neg (by omega)]
  shape b arr el fz h := by
    have hh := hh'.1
    refine ⟨arr, fz, ?_, rfl⟩
    have hb : b < e.w.heap.size := (Array.getElem?_eq_some_iff.1 h).1
    simp only [En.push, hh]
    rw [Array.getElem?_push, if_neg (by omega)]
    exact h
  old j l hj := by
    left
    simp only [En.push]
    rw [if_neg]
    · exact hj
    · rintro rfl; rw [hk] at hj; cases hj
  len j l hj := by
    simp only [En.push]
    rw [if_neg]
    rintro rfl; rw [hk] at hj; cases hj
  new j b ob hm := by
    simp only [En.push] at hm
    split at hm
    · right; left; simp at hm; omega
    · exact .inl hm
  iOld b hb := hb
  iNew b hb := .inl hb

theorem push_get {w' w : World} {o : Obj} (hh : w'.heap = w.heap.push o) : w'.heap[w.heap.size]? = some o := by rw [hh]; simp

/-- an operation that makes one block of cells -/
theorem OpS.alloc {P : Program} {o : Oper} {fr : List (AV U)} {H : Heap U} {v : AV U} {b : Blk U}
    (h : ∀ (e : En) (a : Act), WF e → (∀ x, Rel e (ev fr x) (a.eval x)) → HeapRel e H.get → ∃ (c : Value) (w' : World) (ob : Obj) (len : Nat),
      (execOp a.eval o).run P e.w = .ok (.value c) w' ∧ PushW e.w w' ob ∧ (e.m H.length = none → Rel (e.push w' H.length len) v c ∧ BlkOK (e.push w' H.length len) H.length b)) : OpS P o fr H v (H ++ [some b]) := by
  intro e a K Q hw hr hh hf hk
  obtain ⟨c, w', ob, len, h1, h2, h3⟩ := h e a hw hr hh
  have hn := hf H.length (Nat.le_refl _) (by simp)
  obtain ⟨h4, h5⟩ := h3 hn
  unfold Oper.wp
  rw [h1]
  refine hk c (e.push w' H.length len) (En.push_wf hw h2.1) (En.push_evo _ h2 hn) h4 ?_ ?_
  · intro k b' hb
    rw [Heap.get_snoc] at hb
    split at hb
    · rename_i hkk; subst hkk; cases hb; exact h5
    · exact (hh k b' hb).mono (D := fun _ => False) (En.push_evo _ h2 hn) hw (by simp)
  · intro k h0 h1
    simp only [En.push] at h1
    split at h1
    · rename_i hkk; subst hkk; simp
    · exact absurd h0 h1

/-- cells that were related are where a new block has them -/
theorem CellsAt.of_list {e : En} {cs : List (AV U)} {vs : List Value} (h : RelL e cs vs) (arr : Array Value) (ob : Nat) (ha : ∀ j v, vs[j]? = some v → arr[ob + j]? = some v) : CellsAt e arr ob cs := by
  intro j c hj
  obtain ⟨v, h1, h2⟩ := h.get hj
  exact ⟨v, ha j v h1, h2⟩

theorem unfrozen_zero (lo hi : Nat) : unfrozen (0, 0) lo hi := by intro j _ _; simp

/-! ## Parts -/
theorem partK_inv {i : TI U} {cs : List (AV U)} {o : Nat} {k : AV U → Option R} {r : R} (h : partK i cs o k = some r) :
    ∃ v, k v = some r ∧ ((i.tk.isAgg = true ∧ v = .agg ((cs.drop o).take i.size) ∧ ((cs.drop o).take i.size).length = i.size) ∨ (i.tk.isAgg = false ∧ cs[o]? = some v)) := by
  unfold partK at h
  split at h
  · rename_i hk
    split at h
    · rename_i hb
      exact ⟨_, h, .inl ⟨hk, rfl, Nat.eq_of_beq_eq_true hb⟩⟩
    · cases h
  · rename_i hk
    split at h
    · rename_i c hc
      exact ⟨c, h, .inr ⟨hk, hc⟩⟩
    · cases h

/-- a variable among cells that are known -/
theorem part_load {P : Program} {t : TypeId} {i : TI U} (hi : TIok P t i) {e : En} {b base : Nat} {cs : List (AV U)}
    (hc : ∀ (j : Nat) (c : AV U), cs[j]? = some c → ∃ v, e.w.cell? ⟨b, base + j, none⟩ = some v ∧ Rel e c v) {o : Nat} {v : AV U}
    (hv : (i.tk.isAgg = true ∧ v = .agg ((cs.drop o).take i.size) ∧ ((cs.drop o).take i.size).length = i.size) ∨ (i.tk.isAgg = false ∧ cs[o]? = some v)) :
    ∃ c, (loadVar t ⟨b, base + o, none⟩).run P e.w = .ok c e.w ∧ Rel e v c := by
  rcases hv with ⟨hk, rfl, hl⟩ | ⟨hk, hv⟩
  · have hget : ∀ j, j < i.size → ∃ c, ((cs.drop o).take i.size)[j]? = some c := fun j hj => ⟨_, List.getElem?_eq_getElem (by omega)⟩
    obtain ⟨vs, h1, h2⟩ := choose_list (p := fun j v => e.w.cell? ⟨b, base + o + j, none⟩ = some v ∧ ∀ c, ((cs.drop o).take i.size)[j]? = some c → Rel e c v) i.size (by
      intro j hj
      obtain ⟨c, hcj⟩ := hget j hj
      have hcj' : cs[o + j]? = some c := by
        rw [List.getElem?_take, if_pos hj, List.getElem?_drop] at hcj; exact hcj
      obtain ⟨v, hv1, hv2⟩ := hc _ _ hcj'
      exact ⟨v, by rw [Nat.add_assoc]; exact hv1, fun c' hc' => by rw [hcj] at hc'; cases hc'; exact hv2⟩)
    refine ⟨.agg vs.toArray, ?_, ?_⟩
    · rw [run_loadVar hi e.w b (base + o) vs h1 (fun j v hj => (h2 j v hj).1)]
      simp [hk]
    · refine Rel.of_agg ⟨by simp [hl, h1], fun j x u hx hu => ?_⟩
      exact (h2 j u (by simpa using hu)).2 x hx
  · obtain ⟨u, h1, h2⟩ := hc o v hv
    refine ⟨u, ?_, h2⟩
    rw [run_loadVar hi e.w b (base + o) [u] (by rw [hi.one hk]; rfl) (fun j x hj => by
      cases j with
      | zero => simp at hj; subst hj; exact h1
      | succ j => simp at hj)]
    simp [hk]

/-- a part of a value's cells -/
theorem part_value {P : Program} {t : TypeId} {i : TI U} (hi : TIok P t i) {e : En} {cs : List (AV U)} {va : Array Value} (hc : RelL e cs va.toList) {o : Nat} {v : AV U}
    (hv : (i.tk.isAgg = true ∧ v = .agg ((cs.drop o).take i.size) ∧ ((cs.drop o).take i.size).length = i.size) ∨ (i.tk.isAgg = false ∧ cs[o]? = some v)) (w : World) :
    ∃ c, (part t va o).run P w = .ok c w ∧ Rel e v c := by
  unfold part
  simp only [Sem.run_bind, hi.run_isAgg, Result.andThen_ok]
  rcases hv with ⟨hk, rfl, hl⟩ | ⟨hk, hv⟩
  · rw [hk]
    refine ⟨.agg (va.extract o (o + i.size)), ?_, ?_⟩
    · simp [hi.run_sizeOf]
    · refine Rel.of_agg ?_
      have : (va.extract o (o + i.size)).toList = (va.toList.drop o).take i.size := by
        simp [List.extract_eq_take_drop]
      rw [this]
      exact (hc.drop o).take i.size
  · rw [hk]
    obtain ⟨u, h1, h2⟩ := hc.get hv
    refine ⟨u, ?_, h2⟩
    have h3 : va[o]? = some u := by simpa using h1
    simp [h3]

end Am

namespace Am
open Go
variable {U : TyU} {R : Type} {P : Program} {G : Env U}

def TIs (P : Program) (G : Env U) : Prop := ∀ t i, G.ti t = some i → TIok P t i

theorem Rel.ptr_inv {e : En} {k sz i o : Nat} {c : Value} (h : Rel (U := U) e (.ptr k sz i o) c) :
    (e.m k = some .dead ∧ ∃ a, c = .pointer (some a)) ∨ ∃ b ob, e.m k = some (.at b ob) ∧ c = .pointer (some ⟨b, ob + i * sz + o, none⟩) := by
  cases h with
  | ptrDead h => exact .inl ⟨h, _, rfl⟩
  | ptr h => exact .inr ⟨_, _, h, rfl⟩

theorem Rel.fptr_inv {e : En} {cs : List (AV U)} {o : Nat} {c : Value} (h : Rel e (.fptr cs o) c) :
    ∃ b ob, c = .pointer (some ⟨b, ob + o, none⟩) ∧ e.I b ∧ ∀ (j : Nat) (x : AV U), cs[j]? = some x → ∃ v, e.w.cell? ⟨b, ob + j, none⟩ = some v ∧ Rel e x v := by
  cases h with
  | fptr hI hc hr => exact ⟨_, _, rfl, hI, fun j x hj => ⟨_, hc j x hj, hr j x hj⟩⟩

theorem Rel.bptr_inv {e : En} {cs : List (AV U)} {o : Nat} {c : Value} (h : Rel e (.bptr cs o) c) :
    ∃ b ob, c = .pointer (some ⟨b, ob + o, none⟩) ∧ Quiet e b ∧ ∀ (j : Nat) (x : AV U), cs[j]? = some x → ∃ v, e.w.cell? ⟨b, ob + j, none⟩ = some v ∧ Rel e x v := by
  cases h with
  | bptr hI hc hr => exact ⟨_, _, rfl, hI, fun j x hj => ⟨_, hc j x hj, hr j x hj⟩⟩

theorem run_loadAt (t : TypeId) (a : Addr) (w : World) : (Instr.loadAt t (.pointer (some a))).run P w = (loadVar t a).run P w := by
  simp [Instr.loadAt, Instr.sureAddr]

theorem cell_of_arr {w : World} {b : Nat} {arr : Array Value} {el : TypeId} {fz : Nat × Nat} (h : w.heap[b]? = some (.cells arr el fz)) (j : Nat) : w.cell? ⟨b, j, none⟩ = arr[j]? := by
  rw [cell_eq, h]

theorem loadK_sound (hti : TIs P G) {t : TypeId} {p : AV U} {H : Heap U} {k : AV U → Option R} {r : R} (h : loadK G t p H k = some r) :
    ∃ v, k v = some r ∧ ∀ (e : En) (c : Value), Rel e p c → HeapRel e H.get → ∃ u, (Instr.loadAt t c).run P e.w = .ok u e.w ∧ Rel e v u := by
  unfold loadK at h
  split at h
  · cases h
  · rename_i i hi
    have hI := hti t i hi
    split at h
    · rename_i kk sz ii o
      split at h
      · rename_i cs hb
        split at h
        · rename_i h0
          obtain ⟨v, hv, hc⟩ := partK_inv h
          refine ⟨v, hv, fun e c hr hh => ?_⟩
          obtain ⟨b, ob, arr, el, fz, h1, h2, h3, h4, h5⟩ := hh kk _ hb
          rcases hr.ptr_inv with ⟨hd, _⟩ | ⟨b', ob', hm, rfl⟩
          · rw [h1] at hd; cases hd
          rw [h1] at hm; cases hm
          rw [run_loadAt]
          have : ii = 0 := Nat.eq_of_beq_eq_true h0
          subst this
          rw [Nat.zero_mul, Nat.add_zero]
          refine part_load hI (fun j c hj => ?_) hc
          obtain ⟨u, hu1, hu2⟩ := h5 j c hj
          exact ⟨u, by rw [cell_of_arr h2]; exact hu1, hu2⟩
        · cases h
      · rename_i t' xs hb
        split at h
        · rename_i hsz
          have hsz := Nat.eq_of_beq_eq_true hsz
          cases hx : xs[ii]? with
          | none => rw [hx] at h; cases h
          | some x =>
            rw [hx] at h
            obtain ⟨v, hv, hc⟩ := partK_inv (show partK i (enc t' x) o k = some r from h)
            refine ⟨v, hv, fun e c hr hh => ?_⟩
            obtain ⟨hnn, hblk⟩ := hh kk _ hb
            rcases hblk with ⟨_, hnil⟩ | ⟨b, ob, arr, el, fz, h1, h2, h3, h4, h5⟩
            · rw [hnil] at hx; cases hx
            rcases hr.ptr_inv with ⟨hd, _⟩ | ⟨b', ob', hm, rfl⟩
            · rw [h1] at hd; cases hd
            rw [h1] at hm; cases hm
            rw [run_loadAt, hsz]
            refine part_load hI (fun j c hj => ?_) hc
            obtain ⟨u, hu1, hu2⟩ := h5 ii x hx j c hj
            exact ⟨u, by rw [cell_of_arr h2]; exact hu1, hu2⟩
        · cases h
      · rename_i sz' es hb
        split at h
        · rename_i hsz
          have hsz := Nat.eq_of_beq_eq_true hsz
          cases hx : es[ii]? with
          | none => rw [hx] at h; cases h
          | some x =>
            rw [hx] at h
            obtain ⟨v, hv, hc⟩ := partK_inv (show partK i x o k = some r from h)
            refine ⟨v, hv, fun e c hr hh => ?_⟩
            obtain ⟨hnn, hblk⟩ := hh kk _ hb
            rcases hblk with ⟨_, hnil⟩ | ⟨b, ob, arr, el, fz, h1, h2, h3, h4, h5⟩
            · rw [hnil] at hx; cases hx
            rcases hr.ptr_inv with ⟨hd, _⟩ | ⟨b', ob', hm, rfl⟩
            · rw [h1] at hd; cases hd
            rw [h1] at hm; cases hm
            rw [run_loadAt, hsz]
            refine part_load hI (fun j c hj => ?_) hc
            obtain ⟨u, hu1, hu2⟩ := (h5 ii x hx).2.2 j c hj
            exact ⟨u, by rw [cell_of_arr h2]; exact hu1, hu2⟩
        · cases h
      · cases h
    · obtain ⟨v, hv, hc⟩ := partK_inv h
      refine ⟨v, hv, fun e c hr hh => ?_⟩
      obtain ⟨b, ob, rfl, _, hcell⟩ := hr.fptr_inv
      rw [run_loadAt]
      exact part_load hI hcell hc
    · obtain ⟨cs, o, rfl, h⟩ := bptrK_inv h
      obtain ⟨v, hv, hc⟩ := partK_inv h
      refine ⟨v, hv, fun e c hr hh => ?_⟩
      obtain ⟨b, ob, rfl, _, hcell⟩ := hr.bptr_inv
      rw [run_loadAt]
      exact part_load hI hcell hc

/-! ## Decoding is sound -/
theorem IntKind.same_eq {k k' : IntKind} (h : IntKind.same k k' = true) : k = k' := by
  cases k <;> cases k' <;> first | rfl | (simp [IntKind.same] at h)

theorem decC_sound {e : En} {c : Cell U.T} {a : AV U} {x : c.den U.toTyU0} (h : decC c a = some x) {v : Value} (hr : Rel e a v) : Rel e (encC c x) v := by
  cases c with
  | int k =>
    cases a <;> simp only [decC] at h <;> try cases h
    split at h
    · rename_i hk
      cases h
      rw [IntKind.same_eq hk]; exact hr
    · cases h
  | bool =>
    cases a <;> simp only [decC] at h <;> try cases h
    exact hr
  | str =>
    cases a <;> simp only [decC] at h <;> try cases h
    exact hr
  | sl t =>
    cases a <;> simp only [decC] at h <;> try cases h
    · cases hr
      exact .fslE (fun _ => rfl)
    · rename_i t' xs
      split at h
      · rename_i ht _
        subst ht
        cases h
        exact hr
      · cases h
    · rename_i t' xs
      split at h
      · rename_i ht _
        subst ht
        cases h
        cases hr with
        | nsl hr => exact hr
      · cases h

theorem decT_sound : ∀ (sh : List (Cell U.T)) (cs : List (AV U)) (x : Tup U.toTyU0 sh), decT sh cs = some x →
    cs.length = sh.length ∧ (encT sh x).length = sh.length ∧ ∀ (e : En) (j : Nat) (c a : AV U) (v : Value), (encT sh x)[j]? = some c → cs[j]? = some a → Rel e a v → Rel e c v
  | [], [], x, _ => ⟨rfl, rfl, fun e j c a v h _ _ => by simp [encT] at h⟩
  | [], _ :: _, x, h => by simp [decT] at h
  | _ :: _, [], x, h => by simp [decT] at h
  | c :: sh, a :: cs, x, h => by
    simp only [decT] at h
    split at h
    · rename_i y hy
      split at h
      · rename_i z hz
        cases h
        obtain ⟨h1, h2, h3⟩ := decT_sound sh cs z hz
        refine ⟨by simp [h1], by simp [encT, h2], fun e j c' a' v hc ha hr => ?_⟩
        cases j with
        | zero =>
          simp [encT] at hc ha
          subst hc; subst ha
          exact decC_sound hy hr
        | succ j =>
          simp [encT] at hc ha
          exact h3 e j c' a' v hc ha hr
      · cases h
    · cases h

theorem enc_untup (t : U.T) (x : Tup U.toTyU0 (U.shape t)) : enc t (U.untup t x) = encT (U.shape t) x := by
  unfold enc; rw [U.tup_untup]

theorem encT_length : ∀ (sh : List (Cell U.T)) (x : Tup U.toTyU0 sh), (encT sh x).length = sh.length
  | [], _ => rfl
  | _ :: sh, x => by simp [encT, encT_length sh x.2]

theorem enc_length (t : U.T) (x : U.den t) : (enc t x).length = (U.shape t).length := encT_length _ _

theorem dec_sound {t : U.T} {cs : List (AV U)} {x : U.den t} (h : dec t cs = some x) :
    cs.length = (U.shape t).length ∧ ∀ (e : En) (j : Nat) (c a : AV U) (v : Value), (enc t x)[j]? = some c → cs[j]? = some a → Rel e a v → Rel e c v := by
  unfold dec at h
  split at h
  · rename_i y hy
    cases h
    obtain ⟨h1, h2, h3⟩ := decT_sound _ _ _ hy
    exact ⟨h1, by rw [enc_untup]; exact h3⟩
  · cases h

theorem dec_list {t : U.T} {cs : List (AV U)} {x : U.den t} (h : dec t cs = some x) {e : En} {vs : List Value} (hr : RelL e cs vs) : RelL e (enc t x) vs := by
  obtain ⟨h1, h2⟩ := dec_sound h
  refine ⟨by rw [enc_length, ← h1, hr.1], fun j c v hc hv => ?_⟩
  have hj : j < cs.length := by rw [h1, ← enc_length t x]; exact (List.getElem?_eq_some_iff.1 hc).1
  exact h2 e j c cs[j] v hc (by simp [hj]) (hr.2 j _ v (by simp [hj]) hv)

theorem dec_cells {t : U.T} {cs : List (AV U)} {x : U.den t} (h : dec t cs = some x) {e : En} {arr : Array Value} {ob : Nat} (hr : CellsAt e arr ob cs) : CellsAt e arr ob (enc t x) := by
  obtain ⟨h1, h2⟩ := dec_sound h
  intro j c hc
  have hj : j < cs.length := by rw [h1, ← enc_length t x]; exact (List.getElem?_eq_some_iff.1 hc).1
  obtain ⟨v, hv, hr⟩ := hr j cs[j] (by simp [hj])
  exact ⟨v, hv, h2 e j c cs[j] v hc (by simp [hj]) hr⟩

/-! ## Stores -/
theorem setCells_get (cs vs : List (AV U)) (o j : Nat) (h : o + vs.length ≤ cs.length) : (setCells cs o vs)[j]? = if o ≤ j ∧ j < o + vs.length then vs[j - o]? else cs[j]? := by
  unfold setCells
  rw [List.append_assoc, List.getElem?_append]
  have ht : (cs.take o).length = o := by simp; omega
  rw [ht]
  by_cases h1 : j < o
  · rw [if_pos h1, if_neg (by omega), List.getElem?_take, if_pos h1]
  · rw [if_neg h1, List.getElem?_append]
    by_cases h2 : j - o < vs.length
    · rw [if_pos h2, if_pos (by omega)]
    · rw [if_neg h2, if_neg (by omega), List.getElem?_drop]
      congr 1; omega

theorem setCells_length (cs vs : List (AV U)) (o : Nat) (h : o + vs.length ≤ cs.length) : (setCells cs o vs).length = cs.length := by
  unfold setCells; simp; omega

theorem okCells_mem {l : List (AV U)} : okCells l = true ↔ ∀ c ∈ l, okCell c = true := by
  induction l with
  | nil => simp [okCells]
  | cons c l ih =>
    unfold okCells
    split
    · rename_i h; rw [ih]; simp [h]
    · rename_i h; simp [h]

theorem okCells_set {cs vs : List (AV U)} (h1 : okCells cs = true) (h2 : okCells vs = true) (o : Nat) : okCells (setCells cs o vs) = true := by
  rw [okCells_mem] at *
  intro c hc
  unfold setCells at hc
  simp only [List.mem_append] at hc
  rcases hc with (hc | hc) | hc
  · exact h1 c (List.mem_of_mem_take hc)
  · exact h2 c hc
  · exact h1 c (List.mem_of_mem_drop hc)

/-- the world in which block 'b', known as 'k', has other cells -/
theorem store_evo {e : En} {w' : World} {k b ob : Nat} {arr arr' : Array Value} {el : TypeId} {fz : Nat × Nat} (hm : e.m k = some (.at b ob)) (hb : e.w.heap[b]? = some (.cells arr el fz))
    (hs : w'.heap.size = e.w.heap.size) (ho : ∀ b', b' ≠ b → w'.heap[b']? = e.w.heap[b']?) (hb' : w'.heap[b]? = some (.cells arr' el fz)) (ha : arr'.size = arr.size) (hio : sameIO e.w w' := by exact ⟨rfl, rfl⟩) :
    Evo (fun j => j = k) e { e with w := w' } where
  io := hio
  size := by simp [hs]
  keep b' _ hk := ho b' (by rintro rfl; exact hk k ob rfl hm)
  shape b' a2 el2 fz2 h := by
    by_cases hbb : b' = b
    · subst hbb
      rw [hb] at h; cases h
      exact ⟨arr', _, hb', ha⟩
    · exact ⟨a2, fz2, by rw [← h]; exact ho b' hbb, rfl⟩
  old j l hj := .inl hj
  len _ _ _ := rfl
  new j b o hj := .inl hj
  iOld b h := h
  iNew b h := .inl h

theorem store_wf {e : En} {w' : World} (hw : WF e) (hs : w'.heap.size = e.w.heap.size) : WF { e with w := w' } :=
  ⟨fun b hb => by show b < w'.heap.size; rw [hs]; exact hw.iLt b hb, fun k b o hm => by show b < w'.heap.size; rw [hs]; exact hw.mLt k b o hm, hw.mI, hw.inj⟩

/-- what a store leaves of the cells of an element -/
theorem cells_after {e e' : En} {arr arr' : Array Value} {base o : Nat} {cs vs : List (AV U)} {us : List Value} (hc : CellsAt e arr base cs) (hlen : o + vs.length ≤ cs.length)
    (hmono : ∀ (x : AV U) (v : Value), Rel e x v → Rel e' x v) (hv : RelL e vs us)
    (harr : ∀ j, arr'[j]? = if base + o ≤ j ∧ j < base + o + us.length then us[j - (base + o)]? else arr[j]?) : CellsAt e' arr' base (setCells cs o vs) := by
  intro j c hj
  rw [setCells_get cs vs o j hlen] at hj
  have hl := hv.1
  split at hj
  · rename_i hin
    obtain ⟨v, h1, h2⟩ := hv.get hj
    refine ⟨v, ?_, hmono _ _ h2⟩
    rw [harr, if_pos (by omega), show base + j - (base + o) = j - o by omega]
    exact h1
  · rename_i hin
    obtain ⟨v, h1, h2⟩ := hc j c hj
    refine ⟨v, ?_, hmono _ _ h2⟩
    rw [harr, if_neg (by omega)]
    exact h1

theorem cells_other {e e' : En} {arr arr' : Array Value} {base lo n : Nat} {cs : List (AV U)} {us : List Value} (hc : CellsAt e arr base cs)
    (hmono : ∀ (x : AV U) (v : Value), Rel e x v → Rel e' x v) (hout : ∀ j, j < cs.length → base + j < lo ∨ lo + n ≤ base + j)
    (harr : ∀ j, arr'[j]? = if lo ≤ j ∧ j < lo + n then us[j - lo]? else arr[j]?) : CellsAt e' arr' base cs := by
  intro j c hj
  obtain ⟨v, h1, h2⟩ := hc j c hj
  have hjl : j < cs.length := (List.getElem?_eq_some_iff.1 hj).1
  refine ⟨v, ?_, hmono _ _ h2⟩
  rw [harr, if_neg (by have := hout j hjl; omega)]
  exact h1

theorem run_storeAt {t : TypeId} {i : TI U} (hi : TIok P t i) (b base : Nat) (c : Value) (w : World) (hl : c.cells.toList.length = i.size) :
    (Instr.storeAt t (.pointer (some ⟨b, base, none⟩)) c).run P w = (storeCells ⟨b, base, none⟩ c.cells.toList).run P w := by
  have : c.cells.size = i.size := by simpa using hl
  simp [Instr.storeAt, Instr.sureAddr, storeVar, hi.run_sizeOf, this]

theorem heap_after {e : En} {w' : World} {k : Nat} {H : Heap U} {old new : Blk U} (hw : WF e) (hh : HeapRel e H.get) (hk : H.get k = some old)
    (hE : Evo (fun j => j = k) e { e with w := w' }) (hnew : BlkOK { e with w := w' } k new) : HeapRel { e with w := w' } (Heap.get (H.set k (some new))) := by
  intro j blk hj
  rw [Heap.get_set hk] at hj
  split at hj
  · rename_i hjk; subst hjk; cases hj; exact hnew
  · rename_i hjk
    exact (hh j blk hj).mono hE hw hjk

theorem storeK_sound (hti : TIs P G) {t : TypeId} {p v : AV U} {H : Heap U} {k : Heap U → Option R} {r : R} (h : storeK G t p v H k = some r) :
    ∃ H', k H' = some r ∧ H'.length = H.length ∧ ∀ (e : En) (cp cv : Value), WF e → Rel e p cp → Rel e v cv → HeapRel e H.get →
      ∃ w', (Instr.storeAt t cp cv).run P e.w = .ok () w' ∧ WF { e with w := w' } ∧ Evo (dom H.get) e { e with w := w' } ∧ HeapRel { e with w := w' } H'.get := by
  unfold storeK at h
  split at h
  · cases h
  · rename_i i hi
    have hI := hti t i hi
    split at h
    · cases h
    · rename_i hsize
      have hsize := Nat.eq_of_beq_eq_true hsize
      split at h
      · cases h
      · rename_i hok
        split at h
        case h_2 => cases h
        rename_i kk sz ii o
        split at h
        · rename_i cs hb
          split at h
          · cases h
          · rename_i h0
            have h0 : ii = 0 := Nat.eq_of_beq_eq_true h0
            subst h0
            split at h
            · rename_i hle
              have hle := Nat.le_of_ble_eq_true hle
              refine ⟨_, h, by simp, fun e cp cv hw hrp hrv hh => ?_⟩
              obtain ⟨b, ob, arr, el, fz, h1, h2, h3, h4, h5⟩ := hh kk _ hb
              rcases hrp.ptr_inv with ⟨hd, _⟩ | ⟨b', ob', hm, rfl⟩
              · rw [h1] at hd; cases hd
              rw [h1] at hm; cases hm
              rw [Nat.zero_mul, Nat.add_zero]
              obtain ⟨hc1, hc2⟩ := hrv.cells hok
              have hlen : cv.cells.toList.length = i.size := by rw [← hc1.1, hsize]
              rw [run_storeAt hI _ _ _ _ hlen]
              obtain ⟨w', arr', r1, r2, r3, r4, r5, r6, r7⟩ := run_storeCells (P := P) b (ob + o) el fz cv.cells.toList 0 e.w arr h2 (by rw [hlen]; omega) (fun j hj hj2 => h4 j (by omega) hj2) hc2
              simp only [Nat.add_zero] at r6
              have hE := store_evo h1 h2 r2 r3 r4 r5 r7
              refine ⟨w', r1, store_wf hw r2, hE.weaken (fun j hj => by subst hj; simp [dom, hb]), ?_⟩
              refine heap_after hw hh hb hE ?_
              refine ⟨b, ob, arr', el, fz, h1, r4, by rw [setCells_length _ _ _ (by rw [hsize]; exact hle), r5]; exact h3, by rw [r5]; exact h4, ?_⟩
              exact cells_after h5 (by rw [hsize]; exact hle) (fun x u hx => hx.mono hE hw) hc1 r6
            · cases h
        · rename_i t' xs hb
          split at h
          · rename_i hsz
            have hsz := Nat.eq_of_beq_eq_true hsz
            cases hx : xs[ii]? with
            | none => rw [hx] at h; cases h
            | some x =>
              rw [hx] at h
              simp only [Option.bind_some] at h
              split at h
              · rename_i hle
                have hle := Nat.le_of_ble_eq_true hle
                split at h
                · rename_i y hy
                  refine ⟨_, h, by simp, fun e cp cv hw hrp hrv hh => ?_⟩
                  obtain ⟨hnn, hblk⟩ := hh kk _ hb
                  rcases hblk with ⟨_, hnil⟩ | ⟨b, ob, arr, el, fz, h1, h2, h3, h4, h5⟩
                  · rw [hnil] at hx; cases hx
                  rcases hrp.ptr_inv with ⟨hd, _⟩ | ⟨b', ob', hm, rfl⟩
                  · rw [h1] at hd; cases hd
                  rw [h1] at hm; cases hm
                  obtain ⟨hc1, hc2⟩ := hrv.cells hok
                  have hlen : cv.cells.toList.length = i.size := by rw [← hc1.1, hsize]
                  rw [run_storeAt hI _ _ _ _ hlen, hsz]
                  have hii : ii < xs.length := (List.getElem?_eq_some_iff.1 hx).1
                  have hel := enc_length t' x
                  have hidx := idx_le (sz := (U.shape t').length) hii
                  obtain ⟨w', arr', r1, r2, r3, r4, r5, r6, r7⟩ := run_storeCells (P := P) b (ob + ii * (U.shape t').length + o) el fz cv.cells.toList 0 e.w arr h2 (by rw [hlen]; omega) (fun j hj hj2 => h4 j (by omega) hj2) hc2
                  simp only [Nat.add_zero] at r6
                  have hE := store_evo h1 h2 r2 r3 r4 r5 r7
                  refine ⟨w', r1, store_wf hw r2, hE.weaken (fun j hj => by subst hj; simp [dom, hb]), ?_⟩
                  refine heap_after hw hh hb hE ⟨by rw [List.length_set]; exact hnn, .inr ⟨b, ob, arr', el, fz, h1, r4, by rw [List.length_set, r5]; exact h3, by rw [r5]; exact h4, fun j x' hj => ?_⟩⟩
                  by_cases hji : j = ii
                  · subst hji
                    rw [List.getElem?_set_self hii] at hj
                    cases hj
                    exact dec_cells hy (cells_after (h5 j x hx) (by rw [hsize]; exact hle) (fun x u hx => hx.mono hE hw) hc1 r6)
                  · rw [List.getElem?_set_ne (fun hh => hji hh.symm)] at hj
                    refine cells_other (h5 j x' hj) (fun x u hx => hx.mono hE hw) (fun m hm => ?_) r6
                    rw [enc_length] at hm
                    rcases Nat.lt_or_gt_of_ne hji with hlt | hlt
                    · left
                      have := idx_le (sz := (U.shape t').length) hlt
                      omega
                    · right
                      have := idx_le (sz := (U.shape t').length) hlt
                      omega
                · cases h
              · cases h
          · cases h
        · rename_i sz' es hb
          split at h
          · rename_i hsz
            have hsz := Nat.eq_of_beq_eq_true hsz
            cases hx : es[ii]? with
            | none => rw [hx] at h; cases h
            | some x =>
              rw [hx] at h
              simp only [Option.bind_some] at h
              split at h
              · rename_i hle
                have hle := Nat.le_of_ble_eq_true hle
                refine ⟨_, h, by simp, fun e cp cv hw hrp hrv hh => ?_⟩
                obtain ⟨hnn, hblk⟩ := hh kk _ hb
                rcases hblk with ⟨_, hnil⟩ | ⟨b, ob, arr, el, fz, h1, h2, h3, h4, h5⟩
                · rw [hnil] at hx; cases hx
                rcases hrp.ptr_inv with ⟨hd, _⟩ | ⟨b', ob', hm, rfl⟩
                · rw [h1] at hd; cases hd
                rw [h1] at hm; cases hm
                obtain ⟨hc1, hc2⟩ := hrv.cells hok
                have hlen : cv.cells.toList.length = i.size := by rw [← hc1.1, hsize]
                rw [run_storeAt hI _ _ _ _ hlen, hsz]
                have hii : ii < es.length := (List.getElem?_eq_some_iff.1 hx).1
                have hel := (h5 ii x hx).1
                have helok := (h5 ii x hx).2.1
                have hidx := idx_le (sz := sz') hii
                obtain ⟨w', arr', r1, r2, r3, r4, r5, r6, r7⟩ := run_storeCells (P := P) b (ob + ii * sz' + o) el fz cv.cells.toList 0 e.w arr h2 (by rw [hlen]; omega) (fun j hj hj2 => h4 j (by omega) hj2) hc2
                simp only [Nat.add_zero] at r6
                have hE := store_evo h1 h2 r2 r3 r4 r5 r7
                refine ⟨w', r1, store_wf hw r2, hE.weaken (fun j hj => by subst hj; simp [dom, hb]), ?_⟩
                refine heap_after hw hh hb hE ⟨by rw [List.length_set]; exact hnn, .inr ⟨b, ob, arr', el, fz, h1, r4, by rw [List.length_set, r5]; exact h3, by rw [r5]; exact h4, fun j x' hj => ?_⟩⟩
                by_cases hji : j = ii
                · subst hji
                  rw [List.getElem?_set_self hii] at hj
                  cases hj
                  exact ⟨by rw [setCells_length _ _ _ (by rw [hsize]; exact hle)]; exact hel, okCells_set helok hok _, cells_after (h5 j x hx).2.2 (by rw [hsize]; exact hle) (fun x u hx => hx.mono hE hw) hc1 r6⟩
                · rw [List.getElem?_set_ne (fun hh => hji hh.symm)] at hj
                  refine ⟨(h5 j x' hj).1, (h5 j x' hj).2.1, cells_other (h5 j x' hj).2.2 (fun x u hx => hx.mono hE hw) (fun m hm => ?_) r6⟩
                  rw [(h5 j x' hj).1] at hm
                  rcases Nat.lt_or_gt_of_ne hji with hlt | hlt
                  · left
                    have := idx_le (sz := sz') hlt
                    omega
                  · right
                    have := idx_le (sz := sz') hlt
                    omega
              · cases h
          · cases h
        · cases h

end Am
