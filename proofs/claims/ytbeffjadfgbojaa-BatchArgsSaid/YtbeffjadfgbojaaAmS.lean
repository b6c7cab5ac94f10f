/- Small laws: tables of types, memory. -/
import Derived.Test.YtbeffjadfgbojaaAmR
import Derived.Laws.Sem
import Derived.Laws.Entries
import Derived.Laws.Cells
import Derived.Laws.Append
import Derived.Deep.DeepAppendWide
namespace Am
open Go
variable {U : TyU}

/-! ## Types -/
def TKok : TypeDesc → TK → Prop
  | .int k, .int k' => k = k'
  | .bool, .bool => True
  | .string, .str => True
  | .struct fs, .struct l => fs.toList.map (fun f => (f.offset, f.type)) = l
  | .array n e, .array n' e' => n = n' ∧ e = e'
  | .slice e, .slice e' => e = e'
  | .map k v, .map k' v' => k = k' ∧ v = v'
  | .pointer e, .ptr e' => e = e'
  | .func _ _ _, .func => True
  | .interface _, .iface => True
  | _, _ => False

structure TIok (P : Program) (t : TypeId) (i : TI U) : Prop where
  info : ∃ inf, P.info? t = some inf ∧ inf.size = i.size ∧ inf.bytes = i.bytes ∧ ∃ z, inf.zero = some z ∧ i.zero = z.cells.toList.map ofVal ∧ i.zero.length = i.size ∧ okCells i.zero = true
  und : ∃ d, P.underlying t = some d ∧ TKok d i.tk
  ty : ∀ c, i.ty = some c → U.isAgg c = i.tk.isAgg ∧ (U.shape c).length = i.size
  one : i.tk.isAgg = false → i.size = 1
  zagg : ∃ inf z, P.info? t = some inf ∧ inf.zero = some z ∧ (i.tk.isAgg = true → ∃ va, z = .agg va) ∧ (i.tk.isAgg = false → ∀ va, z ≠ .agg va)

section
variable {P : Program} {t : TypeId} {i : TI U}

theorem TIok.run_sizeOf (h : TIok P t i) (w : World) : (Go.sizeOf t).run P w = .ok i.size w := by
  obtain ⟨inf, h1, h2, _⟩ := h.info
  simp [Go.sizeOf, typeInfo, h1, h2]

theorem TIok.run_zero (h : TIok P t i) (w : World) : ∃ z, (zeroValue t).run P w = .ok z w ∧ i.zero = z.cells.toList.map ofVal := by
  obtain ⟨inf, h1, _, _, z, h3, h4, _⟩ := h.info
  exact ⟨z, by simp [zeroValue, typeInfo, h1, h3], h4⟩

theorem TIok.zero_len (h : TIok P t i) : i.zero.length = i.size := by
  obtain ⟨inf, h1, _, _, z, h3, h4, h5, _⟩ := h.info
  exact h5

theorem TIok.zero_ok (h : TIok P t i) : okCells i.zero = true := by
  obtain ⟨inf, h1, _, _, z, h3, h4, _, h5⟩ := h.info
  exact h5

theorem TIok.und_struct (h : TIok P t i) {l : List (Nat × TypeId)} (hk : i.tk = .struct l) : ∃ fs, P.underlying t = some (.struct fs) ∧ fs.toList.map (fun f => (f.offset, f.type)) = l := by
  obtain ⟨d, h1, h2⟩ := h.und
  rw [hk] at h2
  cases d <;> simp [TKok] at h2
  exact ⟨_, h1, h2⟩

theorem TIok.und_slice (h : TIok P t i) {e : TypeId} (hk : i.tk = .slice e) : P.underlying t = some (.slice e) := by
  obtain ⟨d, h1, h2⟩ := h.und
  rw [hk] at h2
  cases d <;> simp [TKok] at h2
  rw [h1, h2]

theorem TIok.und_array (h : TIok P t i) {n : Nat} {e : TypeId} (hk : i.tk = .array n e) : P.underlying t = some (.array n e) := by
  obtain ⟨d, h1, h2⟩ := h.und
  rw [hk] at h2
  cases d <;> simp [TKok] at h2
  rw [h1, h2.1, h2.2]

theorem TIok.und_map (h : TIok P t i) {k v : TypeId} (hk : i.tk = .map k v) : P.underlying t = some (.map k v) := by
  obtain ⟨d, h1, h2⟩ := h.und
  rw [hk] at h2
  cases d <;> simp [TKok] at h2
  rw [h1, h2.1, h2.2]

theorem TIok.und_ptr (h : TIok P t i) {e : TypeId} (hk : i.tk = .ptr e) : P.underlying t = some (.pointer e) := by
  obtain ⟨d, h1, h2⟩ := h.und
  rw [hk] at h2
  cases d <;> simp [TKok] at h2
  rw [h1, h2]

theorem TIok.und_int (h : TIok P t i) {k : IntKind} (hk : i.tk = .int k) : P.underlying t = some (.int k) := by
  obtain ⟨d, h1, h2⟩ := h.und
  rw [hk] at h2
  cases d <;> simp [TKok] at h2
  rw [h1, h2]

theorem TIok.und_str (h : TIok P t i) (hk : i.tk = .str) : P.underlying t = some .string := by
  obtain ⟨d, h1, h2⟩ := h.und
  rw [hk] at h2
  cases d <;> simp [TKok] at h2
  exact h1

theorem TIok.und_bool (h : TIok P t i) (hk : i.tk = .bool) : P.underlying t = some .bool := by
  obtain ⟨d, h1, h2⟩ := h.und
  rw [hk] at h2
  cases d <;> simp [TKok] at h2
  exact h1

theorem TIok.run_isAgg (h : TIok P t i) (w : World) : (isAgg t).run P w = .ok i.tk.isAgg w := by
  obtain ⟨d, h1, h2⟩ := h.und
  generalize i.tk = k at h2 ⊢
  cases d <;> cases k <;> simp [TKok] at h2 <;> simp [isAgg, run_underlying h1, TK.isAgg]
end

/-! ## Inversions -/
section
variable {e : En}
theorem Rel.bool_inv {b : Bool} {c : Value} (h : Rel (U := U) e (.bool b) c) : c = .bool b := by cases h; rfl
theorem Rel.int_inv {k : IntKind} {n : Int} {c : Value} (h : Rel (U := U) e (.int k n) c) : c = .int k n := by cases h; rfl
theorem Rel.str_inv {s : List UInt8} {c : Value} (h : Rel (U := U) e (.str s) c) : c = .string ⟨⟨s⟩⟩ := by cases h; rfl
theorem Rel.agg_inv {cs : List (AV U)} {c : Value} (h : Rel e (.agg cs) c) : ∃ va : Array Value, c = .agg va ∧ RelL e cs va.toList := by
  cases h with
  | agg hl hr => exact ⟨_, rfl, by simpa using hl, fun j x v hx hv => hr j x v hx (by simpa using hv)⟩
theorem Rel.tup_inv {cs : List (AV U)} {c : Value} (h : Rel e (.tup cs) c) : ∃ va : Array Value, c = .tuple va ∧ RelL e cs va.toList := by
  cases h with
  | tup hl hr => exact ⟨_, rfl, by simpa using hl, fun j x v hx hv => hr j x v hx (by simpa using hv)⟩

theorem Rel.of_agg {cs : List (AV U)} {va : Array Value} (h : RelL e cs va.toList) : Rel e (.agg cs) (.agg va) :=
  .agg (by simpa using h.1) fun j x v hx hv => h.2 j x v hx (by simpa using hv)
theorem Rel.of_tup {cs : List (AV U)} {va : Array Value} (h : RelL e cs va.toList) : Rel e (.tup cs) (.tuple va) :=
  .tup (by simpa using h.1) fun j x v hx hv => h.2 j x v hx (by simpa using hv)

theorem RelL.nil : RelL (U := U) e [] [] := ⟨rfl, by simp⟩
theorem RelL.cons {x : AV U} {v : Value} {l : List (AV U)} {l' : List Value} (h : Rel e x v) (hl : RelL e l l') : RelL e (x :: l) (v :: l') := by
  refine ⟨by simp [hl.1], fun j y u hy hu => ?_⟩
  cases j with
  | zero => simp at hy hu; subst hy; subst hu; exact h
  | succ j => simp at hy hu; exact hl.2 j y u hy hu
theorem RelL.head {x : AV U} {v : Value} {l : List (AV U)} {l' : List Value} (h : RelL e (x :: l) (v :: l')) : Rel e x v := h.2 0 x v rfl rfl
theorem RelL.tail {x : AV U} {v : Value} {l : List (AV U)} {l' : List Value} (h : RelL e (x :: l) (v :: l')) : RelL e l l' :=
  ⟨by have := h.1; simpa using this, fun j y u hy hu => h.2 (j + 1) y u (by simpa using hy) (by simpa using hu)⟩
theorem RelL.cons_inv {x : AV U} {l : List (AV U)} {l' : List Value} (h : RelL e (x :: l) l') : ∃ v r, l' = v :: r ∧ Rel e x v ∧ RelL e l r := by
  cases l' with
  | nil => have := h.1; simp at this
  | cons v r => exact ⟨v, r, rfl, h.head, h.tail⟩
theorem RelL.nil_inv {l' : List Value} (h : RelL (U := U) e [] l') : l' = [] := by
  cases l' with
  | nil => rfl
  | cons v r => have := h.1; simp at this
theorem RelL.append {a b : List (AV U)} {a' b' : List Value} (h : RelL e a a') (h' : RelL e b b') : RelL e (a ++ b) (a' ++ b') := by
  induction a generalizing a' with
  | nil => rw [h.nil_inv]; exact h'
  | cons x l ih =>
    obtain ⟨v, r, rfl, h1, h2⟩ := h.cons_inv
    exact .cons h1 (ih h2)
theorem RelL.get {a : List (AV U)} {a' : List Value} (h : RelL e a a') {j : Nat} {x : AV U} (hx : a[j]? = some x) : ∃ v, a'[j]? = some v ∧ Rel e x v := by
  have hj : j < a'.length := by rw [← h.1]; exact (List.getElem?_eq_some_iff.1 hx).1
  exact ⟨a'[j], by simp [hj], h.2 j x _ hx (by simp [hj])⟩
theorem RelL.take {a : List (AV U)} {a' : List Value} (h : RelL e a a') (n : Nat) : RelL e (a.take n) (a'.take n) := by
  refine ⟨by simp [h.1], fun j x v hx hv => ?_⟩
  rw [List.getElem?_take] at hx hv
  split at hx
  · rename_i hj; simp [hj] at hv; exact h.2 j x v hx hv
  · cases hx
theorem RelL.drop {a : List (AV U)} {a' : List Value} (h : RelL e a a') (n : Nat) : RelL e (a.drop n) (a'.drop n) := by
  refine ⟨by simp [h.1], fun j x v hx hv => ?_⟩
  rw [List.getElem?_drop] at hx hv
  exact h.2 _ x v hx hv

/-- a value's cells -/
theorem Rel.cells {x : AV U} {v : Value} (h : Rel e x v) (hok : okCells (cellsOf x) = true) : RelL e (cellsOf x) v.cells.toList ∧ ∀ u ∈ v.cells.toList, u.oneCell' = true := by
  have one : ∀ {y : AV U} {u : Value}, Rel e y u → okCell y = true → u.oneCell' = true := by
    intro y u hy ho
    cases hy <;> first | rfl | (simp [okCell] at ho)
  have all : ∀ {l : List (AV U)} {l' : List Value}, RelL e l l' → okCells l = true → ∀ u ∈ l', u.oneCell' = true := by
    intro l
    induction l with
    | nil => intro l' hl _ u hu; rw [hl.nil_inv] at hu; cases hu
    | cons y r ih =>
      intro l' hl ho u hu
      obtain ⟨v, r', rfl, h1, h2⟩ := hl.cons_inv
      unfold okCells at ho
      split at ho
      · rename_i hc
        rcases List.mem_cons.1 hu with rfl | hu
        · exact one h1 hc
        · exact ih h2 ho u hu
      · cases ho
  have single : (∀ cs, x ≠ .agg cs) → RelL e (cellsOf x) v.cells.toList := by
    intro hx
    have h1 : cellsOf x = [x] := by cases x <;> first | rfl | exact absurd rfl (hx _)
    have h2 : okCell x = true := by
      rw [h1] at hok
      unfold okCells at hok
      split at hok
      · assumption
      · cases hok
    have h3 : v.cells = #[v] := by
      have := one h h2
      cases v <;> first | rfl | (simp [Value.oneCell'] at this)
    rw [h1, h3]
    exact .cons h .nil
  cases x with
  | agg cs =>
    obtain ⟨va, rfl, hr⟩ := h.agg_inv
    exact ⟨hr, all hr hok⟩
  | _ =>
    have hs := single (by intro cs hh; cases hh)
    exact ⟨hs, all hs hok⟩
end

/-! ## Memory -/
/-- storing a row of cells -/
theorem roomy_le {n b : Nat} (h : roomy n b = true) : n * b ≤ 281474976710656 := by
  unfold roomy at h
  rw [Bool.or_eq_true] at h
  rcases h with h | h
  · have := of_decide_eq_true h; omega
  · have h1 := of_decide_eq_true h
    have h2 : n * b ≤ (n + n / 4 + 192) * b := Nat.mul_le_mul_right _ (by omega)
    omega

theorem roomy_grow {n b cap : Nat} (h : roomy n b = true) (hn : cap < n) : Builtin.nextslicecap n cap * b ≤ 281474976710656 := by
  unfold roomy at h
  rw [Bool.or_eq_true] at h
  rcases h with h | h
  · exact growslice_fits hn (of_decide_eq_true h)
  · exact growslice_fits_wide hn (of_decide_eq_true h)

theorem run_storeCells {P : Program} (b base : Nat) (el : TypeId) (fz : Nat × Nat) : ∀ (vs : List Value) (n : Nat) (w : World) (arr : Array Value), w.heap[b]? = some (.cells arr el fz) →
    base + n + vs.length ≤ arr.size → unfrozen fz (base + n) arr.size → (∀ u ∈ vs, u.oneCell' = true) →
    ∃ w' arr', (storeCells ⟨b, base, none⟩ vs n).run P w = .ok () w' ∧ w'.heap.size = w.heap.size ∧ (∀ b', b' ≠ b → w'.heap[b']? = w.heap[b']?) ∧
      w'.heap[b]? = some (.cells arr' el fz) ∧ arr'.size = arr.size ∧
      (∀ j, arr'[j]? = if base + n ≤ j ∧ j < base + n + vs.length then vs[j - (base + n)]? else arr[j]?) ∧ sameIO w w'
  | [], n, w, arr, hb, _, _, _ => ⟨w, arr, rfl, rfl, fun _ _ => rfl, hb, rfl, fun j => (by
      rw [if_neg (by simp only [List.length_nil]; omega)]), ⟨rfl, rfl⟩⟩
  | v :: vs, n, w, arr, hb, hl, hu, h1 => by
    have ha : ({ block := b, off := base, spot := none } : Addr).add n = ⟨b, base + n, none⟩ := by
      unfold Addr.add; split <;> simp_all
    have hlt : base + n < arr.size := by simp at hl; omega
    have hc : w.cell? ⟨b, base + n, none⟩ = some arr[base + n] := by rw [cell_eq, hb]; simp [hlt]
    have hf : w.frozen? ⟨b, base + n, none⟩ = false := by
      unfold World.frozen?
      obtain ⟨lo, hi⟩ := fz
      simp only [hb]
      have := hu (base + n) (Nat.le_refl _) hlt
      simp at this ⊢
      exact this
    have hw : (w.setCell ⟨b, base + n, none⟩ v).heap[b]? = some (.cells (arr.setIfInBounds (base + n) v) el fz) := by
      have hbl : b < w.heap.size := (Array.getElem?_eq_some_iff.1 hb).1
      simp [World.setCell, Array.getElem?_modify, hb]
    have hother : ∀ b', b' ≠ b → (w.setCell ⟨b, base + n, none⟩ v).heap[b']? = w.heap[b']? := by
      intro b' hne
      simp only [World.setCell, Array.getElem?_modify]
      rw [if_neg (fun h => hne h.symm)]
    obtain ⟨w', arr', r1, r2, r3, r4, r5, r6, r7⟩ := run_storeCells b base el fz vs (n + 1) (w.setCell ⟨b, base + n, none⟩ v) (arr.setIfInBounds (base + n) v) hw
      (by simp at hl ⊢; omega) (fun j hj hj2 => hu j (by omega) (by simpa using hj2)) (fun u hu' => h1 u (List.mem_cons_of_mem _ hu'))
    refine ⟨w', arr', ?_, ?_, fun b' hne => by rw [r3 b' hne, hother b' hne], r4, by simpa using r5, fun j => ?_, ⟨r7.1, r7.2⟩⟩
    · simp only [storeCells, Sem.run_bind, ha, run_store P w _ v .plain (h1 v (List.mem_cons_self ..)), hc, hf, Bool.false_eq_true, if_false, Result.andThen_ok]
      exact r1
    · rw [r2]; simp [World.setCell]
    · rw [r6 j]
      simp only [List.length_cons]
      by_cases hj : j = base + n
      · subst hj
        rw [if_neg (by omega), if_pos (by omega)]
        simp [hlt]
      · by_cases hj2 : base + n ≤ j ∧ j < base + n + (vs.length + 1)
        · rw [if_pos (by omega), if_pos hj2, show j - (base + n) = (j - (base + (n + 1))) + 1 by omega]
          simp
        · rw [if_neg (by omega), if_neg hj2, Array.getElem?_setIfInBounds_ne (fun h => hj h.symm)]

theorem add_none (b o n : Nat) : ({ block := b, off := o, spot := none } : Addr).add n = ⟨b, o + n, none⟩ := by
  unfold Addr.add; split <;> simp_all

/-- loading a variable whose cells are known -/
theorem run_loadVar {P : Program} {t : TypeId} {i : TI U} (hi : TIok P t i) (w : World) (b o : Nat) (vs : List Value) (hl : vs.length = i.size)
    (hc : ∀ j v, vs[j]? = some v → w.cell? ⟨b, o + j, none⟩ = some v) :
    (loadVar t ⟨b, o, none⟩).run P w = .ok (if i.tk.isAgg then .agg vs.toArray else vs.headD default) w := by
  simp only [loadVar, Sem.run_bind, hi.run_isAgg, Result.andThen_ok]
  cases hk : i.tk.isAgg with
  | true =>
    simp only [if_true, Sem.run_bind, hi.run_sizeOf, Result.andThen_ok]
    have := run_loadCells_list (P := P) w ⟨b, o, none⟩ vs (fun j v hj => by rw [add_none]; exact hc j v hj)
    rw [hl] at this
    rw [this]
    rfl
  | false =>
    simp only [Bool.false_eq_true, if_false, run_load]
    have h1 := hl.trans (hi.one hk)
    match vs, h1 with
    | [v], _ =>
      have := hc 0 v rfl
      simp only [Nat.add_zero] at this
      rw [this]
      rfl

end Am
