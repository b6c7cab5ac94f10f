/- append. -/
import Derived.Test.YtlogoccciaopnaaGreatDoorAmO8
import Derived.Laws.BytesArg
namespace Am
open Go
variable {U : TyU} {R : Type} {P : Program} {G : Env U}

/-- a slice's (or string's) elements, as the model reads them -/
def Elems (P : Program) (e : En) (sz : Nat) (c : Value) (bs : List (List (AV U))) : Prop := ∃ vs : List Value, vs.length = bs.length * sz ∧
  (∀ (i : Nat) (y : List (AV U)), bs[i]? = some y → ∀ (j : Nat) (x : AV U), y[j]? = some x → j < sz → ∃ v, vs[i * sz + j]? = some v ∧ Rel e x v) ∧
  (∀ u ∈ vs, u.oneCell' = true) ∧ (∀ w, (Builtin.lenOf c).run P w = .ok bs.length w) ∧ ∀ w, w.heap = e.w.heap → (Builtin.firstCells sz bs.length c).run P w = .ok vs.toArray w

theorem okCell_one {e : En} {x : AV U} {v : Value} (h : Rel e x v) (ho : okCell x = true) : v.oneCell' = true := by
  cases h <;> first | rfl | (simp [okCell] at ho; done) | (rename_i hq _; cases hq <;> rfl) | (rename_i _ hq; cases hq <;> rfl)

theorem run_firstCells_nil (sz : Nat) (a : Option Addr) (l cap : Nat) (w : World) : (Builtin.firstCells sz 0 (.slice a l cap)).run P w = .ok #[] w := by
  cases a <;> simp [Builtin.firstCells, loadCells, loadCellsFrom]

theorem elems_nil (e : En) (sz : Nat) (a : Option Addr) (cap : Nat) : Elems (U := U) P e sz (.slice a 0 cap) [] :=
  ⟨[], by simp, by simp, by simp, fun w => by simp [Builtin.lenOf], fun w _ => by simpa using run_firstCells_nil sz a 0 cap w⟩

theorem elems_mem {e : En} {sz b o cap : Nat} {bs : List (List (AV U))} (hsz : 0 < sz) (h : ∀ (i : Nat) (y : List (AV U)), bs[i]? = some y → y.length = sz ∧ okCells y = true ∧
    ∀ (j : Nat) (x : AV U), y[j]? = some x → ∃ v, e.w.cell? ⟨b, o + i * sz + j, none⟩ = some v ∧ Rel e x v) : Elems P e sz (.slice (some ⟨b, o, none⟩) bs.length cap) bs := by
  obtain ⟨vs, h1, h2⟩ := choose_list (p := fun p v => e.w.cell? ⟨b, o + p, none⟩ = some v ∧ v.oneCell' = true ∧ ∀ i j y (x : AV U), p = i * sz + j → j < sz → bs[i]? = some y → y[j]? = some x → Rel e x v) (bs.length * sz) (by
    intro p hp
    have hi : p / sz < bs.length := Nat.div_lt_of_lt_mul (by rw [Nat.mul_comm]; exact hp)
    have hj : p % sz < sz := Nat.mod_lt _ hsz
    obtain ⟨g1, g2, g3⟩ := h (p / sz) bs[p / sz] (List.getElem?_eq_getElem hi)
    obtain ⟨v, hv1, hv2⟩ := g3 (p % sz) _ (List.getElem?_eq_getElem (by omega))
    have hp' : o + p / sz * sz + p % sz = o + p := by rw [Nat.add_assoc, Nat.mul_comm, Nat.div_add_mod]
    refine ⟨v, by rw [← hp']; exact hv1, okCell_one hv2 (okCells_mem.1 g2 _ (List.getElem_mem _)), fun i j y x hpe hjlt hy hx => ?_⟩
    have e1 : i = p / sz := by rw [hpe, Nat.mul_comm, Nat.mul_add_div hsz, Nat.div_eq_of_lt hjlt]; rfl
    have e2 : j = p % sz := by rw [hpe, Nat.mul_comm, Nat.mul_add_mod, Nat.mod_eq_of_lt hjlt]
    subst e1
    rw [List.getElem?_eq_getElem hi] at hy
    cases hy
    rw [e2, List.getElem?_eq_getElem (by omega)] at hx
    cases hx
    exact hv2)
  refine ⟨vs, h1, fun i y hy j x hx hj => ?_, fun u hu => ?_, fun w => by simp [Builtin.lenOf], fun w hw => ?_⟩
  · have hi : i < bs.length := (List.getElem?_eq_some_iff.1 hy).1
    have hidx := idx_le (sz := sz) hi
    have hlt : i * sz + j < vs.length := by omega
    exact ⟨vs[i * sz + j], List.getElem?_eq_getElem hlt, (h2 _ _ (List.getElem?_eq_getElem hlt)).2.2 i j y x rfl hj hy hx⟩
  · obtain ⟨n, hn, rfl⟩ := List.getElem_of_mem hu
    exact (h2 n _ (List.getElem?_eq_getElem hn)).2.1
  · refine run_firstCells_some w sz bs.length ⟨b, o, none⟩ bs.length cap vs h1 (fun j v hj => ?_)
    rw [add_none, cell_of_heap (w := e.w) (w' := w) (by rw [hw])]
    exact (h2 j v hj).1

theorem okCells_encT : ∀ (sh : List (Cell U.T)) (x : Tup U.toTyU0 sh), okCells (encT sh x) = true
  | [], _ => rfl
  | c :: sh, x => by
    unfold encT okCells
    have : okCell (encC c x.1) = true := by cases c <;> rfl
    rw [this]; exact okCells_encT sh x.2

theorem okCells_enc (t : U.T) (x : U.den t) : okCells (enc t x) = true := okCells_encT _ _

/-- the elements of a row -/
theorem row_elems {H : Heap U} {k : Nat} {t : U.T} {xs : List (U.den t)} (hb : H.get k = some (.row t xs)) {e : En} (hh : HeapRel e H.get) {b ob : Nat} (hm : e.m k = some (.at b ob)) :
    ∀ (i : Nat) (y : List (AV U)), (xs.map (enc t))[i]? = some y → y.length = (U.shape t).length ∧ okCells y = true ∧
      ∀ (j : Nat) (x : AV U), y[j]? = some x → ∃ v, e.w.cell? ⟨b, ob + i * (U.shape t).length + j, none⟩ = some v ∧ Rel e x v := by
  intro i y hy
  rw [List.getElem?_map, Option.map_eq_some_iff] at hy
  obtain ⟨x, hx, rfl⟩ := hy
  refine ⟨enc_length t x, okCells_enc t x, fun j c hc => ?_⟩
  obtain ⟨_, h2⟩ := hh k _ hb
  rcases h2 with ⟨hv, _⟩ | ⟨b', ob', arr, el, fz, h3, h4, h5, h6, h7⟩
  · rw [hm] at hv; cases hv
  rw [hm] at h3; cases h3
  obtain ⟨v, hv1, hv2⟩ := h7 i x hx j c hc
  exact ⟨v, by rw [cell_of_arr h4]; exact hv1, hv2⟩

theorem urow_elems {H : Heap U} {k sz : Nat} {es : List (List (AV U))} (hb : H.get k = some (.urow sz es)) {e : En} (hh : HeapRel e H.get) {b ob : Nat} (hm : e.m k = some (.at b ob)) :
    ∀ (i : Nat) (y : List (AV U)), es[i]? = some y → y.length = sz ∧ okCells y = true ∧ ∀ (j : Nat) (x : AV U), y[j]? = some x → ∃ v, e.w.cell? ⟨b, ob + i * sz + j, none⟩ = some v ∧ Rel e x v := by
  intro i y hy
  obtain ⟨_, h2⟩ := hh k _ hb
  rcases h2 with ⟨hv, _⟩ | ⟨b', ob', arr, el, fz, h3, h4, h5, h6, h7⟩
  · rw [hm] at hv; cases hv
  rw [hm] at h3; cases h3
  obtain ⟨g1, g2, g3⟩ := h7 i y hy
  refine ⟨g1, g2, fun j x hx => ?_⟩
  obtain ⟨v, hv1, hv2⟩ := g3 j x hx
  exact ⟨v, by rw [cell_of_arr h4]; exact hv1, hv2⟩

/-- a part of a row -/
theorem part_elems {e : En} {sz b ob lo len : Nat} {es : List (List (AV U))} (hl : lo + len ≤ es.length)
    (h : ∀ (i : Nat) (y : List (AV U)), es[i]? = some y → y.length = sz ∧ okCells y = true ∧ ∀ (j : Nat) (x : AV U), y[j]? = some x → ∃ v, e.w.cell? ⟨b, ob + i * sz + j, none⟩ = some v ∧ Rel e x v) :
    ((es.drop lo).take len).length = len ∧ ∀ (i : Nat) (y : List (AV U)), ((es.drop lo).take len)[i]? = some y → y.length = sz ∧ okCells y = true ∧
      ∀ (j : Nat) (x : AV U), y[j]? = some x → ∃ v, e.w.cell? ⟨b, ob + lo * sz + i * sz + j, none⟩ = some v ∧ Rel e x v := by
  refine ⟨by simp; omega, fun i y hy => ?_⟩
  have hy' : es[lo + i]? = some y := by
    rw [List.getElem?_take] at hy
    split at hy
    · rw [List.getElem?_drop] at hy; exact hy
    · cases hy
  obtain ⟨g1, g2, g3⟩ := h _ y hy'
  refine ⟨g1, g2, fun j x hx => ?_⟩
  rw [show ob + lo * sz + i * sz + j = ob + (lo + i) * sz + j by rw [Nat.add_mul]; omega]
  exact g3 j x hx

theorem elemsU_elems {size : Nat} {H : Heap U} {x : AV U} {bs : List (List (AV U))} (h : elemsU size H x = some bs) (hs : 0 < size) {e : En} (hh : HeapRel e H.get) {c : Value} (hr : Rel e x c) :
    Elems P e size c bs ∧ ∀ y ∈ bs, y.length = size ∧ okCells y = true := by
  have memOf : ∀ {es : List (List (AV U))} {sz b ob : Nat}, (∀ (i : Nat) (y : List (AV U)), es[i]? = some y → y.length = sz ∧ okCells y = true ∧ ∀ (j : Nat) (x : AV U), y[j]? = some x → ∃ v, e.w.cell? ⟨b, ob + i * sz + j, none⟩ = some v ∧ Rel e x v) → ∀ y ∈ es, y.length = sz ∧ okCells y = true := by
    intro es sz b ob hh y hy
    obtain ⟨n, hn, rfl⟩ := List.getElem_of_mem hy
    obtain ⟨g1, g2, _⟩ := hh n _ (List.getElem?_eq_getElem hn)
    exact ⟨g1, g2⟩
  unfold elemsU at h
  split at h
  · cases h; cases hr; exact ⟨elems_nil e size none 0, by simp⟩
  · rename_i t xs
    split at h
    · rename_i hsz
      have hsz := Nat.eq_of_beq_eq_true hsz
      cases h
      have hm : ∀ y ∈ xs.map (enc t), y.length = size ∧ okCells y = true := by
        intro y hy
        obtain ⟨x, _, rfl⟩ := List.mem_map.1 hy
        exact ⟨by rw [enc_length, hsz], okCells_enc t x⟩
      refine ⟨?_, hm⟩
      rcases hr.fsl_inv with ⟨a, cap, rfl, hn⟩ | ⟨b, ob, cap, rfl, hI, hc, hcell⟩
      · rw [hn]; exact elems_nil e size a cap
      · have := elems_mem (P := P) (e := e) (sz := size) (b := b) (o := ob) (cap := cap) (bs := xs.map (enc t)) hs (fun i y hy => by
          refine ⟨(hm y (List.mem_of_getElem? hy)).1, (hm y (List.mem_of_getElem? hy)).2, fun j c hj => ?_⟩
          rw [List.getElem?_map, Option.map_eq_some_iff] at hy
          obtain ⟨x, hx, rfl⟩ := hy
          obtain ⟨v, hv1, hv2⟩ := hcell i x hx j c hj
          exact ⟨v, by rw [hsz]; exact hv1, hv2⟩)
        simpa using this
    · cases h
  · rename_i t xs
    split at h
    · rename_i hsz
      have hsz := Nat.eq_of_beq_eq_true hsz
      cases h
      have hm : ∀ y ∈ xs.map (enc t), y.length = size ∧ okCells y = true := by
        intro y hy
        obtain ⟨x, _, rfl⟩ := List.mem_map.1 hy
        exact ⟨by rw [enc_length, hsz], okCells_enc t x⟩
      refine ⟨?_, hm⟩
      rcases (show Rel e (.fsl t xs) c from by cases hr with | nsl hr => exact hr).fsl_inv with ⟨a, cap, rfl, hn⟩ | ⟨b, ob, cap, rfl, hI, hc, hcell⟩
      · rw [hn]; exact elems_nil e size a cap
      · have := elems_mem (P := P) (e := e) (sz := size) (b := b) (o := ob) (cap := cap) (bs := xs.map (enc t)) hs (fun i y hy => by
          refine ⟨(hm y (List.mem_of_getElem? hy)).1, (hm y (List.mem_of_getElem? hy)).2, fun j c hj => ?_⟩
          rw [List.getElem?_map, Option.map_eq_some_iff] at hy
          obtain ⟨x, hx, rfl⟩ := hy
          obtain ⟨v, hv1, hv2⟩ := hcell i x hx j c hj
          exact ⟨v, by rw [hsz]; exact hv1, hv2⟩)
        simpa using this
    · cases h
  · rename_i s
    split at h
    · rename_i hsz
      have hsz : size = 1 := Nat.eq_of_beq_eq_true hsz
      cases h
      rw [hr.str_inv]
      refine ⟨⟨s.map (fun b => Value.int .u8 b.toNat), by simp [hsz], fun i y hy j x hx hj => ?_, by simp; intro a _; rfl, fun w => ?_, fun w _ => ?_⟩, fun y hy => ?_⟩
      · rw [List.getElem?_map, Option.map_eq_some_iff] at hy
        obtain ⟨b, hb, rfl⟩ := hy
        have : j = 0 := by omega
        subst this
        simp at hx; subst hx
        exact ⟨.int .u8 b.toNat, by rw [hsz]; simp [hb], .int⟩
      · have hsz' : (ByteArray.mk ⟨s⟩).size = s.length := rfl
        simp [Builtin.lenOf, hsz']
      · simp [Builtin.firstCells, bytes_extract]
      · obtain ⟨b, _, rfl⟩ := List.mem_map.1 hy
        exact ⟨by simp [hsz], rfl⟩
    · cases h
  · rename_i k sz
    split at h
    · rename_i t xs hb
      split at h
      · rename_i hsz
        rw [Bool.and_eq_true] at hsz
        have h1 : size = sz := Nat.eq_of_beq_eq_true hsz.1
        have h2 : sz = (U.shape t).length := Nat.eq_of_beq_eq_true hsz.2
        cases h
        have hrl : rowLen H k = some xs.length := by unfold rowLen; rw [hb]
        refine ⟨?_, fun y hy => ?_⟩
        · rcases mrow_live hrl hh hr with ⟨a, l, hn, rfl, hm⟩ | ⟨b, ob, cap, hm, rfl, hl, _⟩
          · have : xs = [] := List.length_eq_zero_iff.1 hn
            rw [this]; exact elems_nil e size a 0
          · have := elems_mem (P := P) (e := e) (sz := size) (b := b) (o := ob) (cap := cap) (bs := xs.map (enc t)) hs (by rw [h1, h2]; exact row_elems hb hh hm)
            simpa using this
        · obtain ⟨x, _, rfl⟩ := List.mem_map.1 hy
          exact ⟨by rw [enc_length, h1, h2], okCells_enc t x⟩
      · cases h
    · rename_i sz' es hb
      split at h
      · rename_i hsz
        rw [Bool.and_eq_true] at hsz
        have h1 : size = sz := Nat.eq_of_beq_eq_true hsz.1
        have h2 : sz = sz' := Nat.eq_of_beq_eq_true hsz.2
        subst h1; subst h2
        cases h
        have hrl : rowLen H k = some bs.length := by unfold rowLen; rw [hb]
        obtain ⟨_, hblk⟩ := hh k _ hb
        refine ⟨?_, fun y hy => ?_⟩
        · rcases mrow_live hrl hh hr with ⟨a, l, hn, rfl, hm⟩ | ⟨b, ob, cap, hm, rfl, hl, _⟩
          · have : bs = [] := List.length_eq_zero_iff.1 hn
            rw [this]; exact elems_nil e size a 0
          · exact elems_mem (P := P) hs (urow_elems hb hh hm)
        · rcases hblk with ⟨_, hn⟩ | ⟨b, ob, arr, el, fz, _, _, _, _, h7⟩
          · rw [hn] at hy; cases hy
          · obtain ⟨n, hn, rfl⟩ := List.getElem_of_mem hy
            obtain ⟨g1, g2, _⟩ := h7 n _ (List.getElem?_eq_getElem hn)
            exact ⟨g1, g2⟩
      · cases h
    · cases h
  · rename_i k sz lo len
    split at h
    · rename_i t xs hb
      split at h
      · rename_i hsz
        simp only [Bool.and_eq_true] at hsz
        have h1 : size = sz := Nat.eq_of_beq_eq_true hsz.1.1
        have h2 : sz = (U.shape t).length := Nat.eq_of_beq_eq_true hsz.1.2
        have h3 : lo + len ≤ xs.length := Nat.le_of_ble_eq_true hsz.2
        cases h
        refine ⟨?_, fun y hy => ?_⟩
        · rcases hr.msl_inv with ⟨a, cap, hd, rfl, hl⟩ | ⟨a, l, hn, rfl, _⟩ | ⟨b, ob, cap, hm, rfl, hl, _⟩
          · obtain ⟨_, hblk⟩ := hh k _ hb
            rcases hblk with ⟨hv, _⟩ | ⟨_, _, _, _, _, hv, _⟩ <;> rw [hd] at hv <;> cases hv
          · subst hn; simp; exact elems_nil e size a 0
          · obtain ⟨g1, g2⟩ := part_elems (lo := lo) (len := len) (es := xs.map (enc t)) (by simpa using h3) (row_elems hb hh hm)
            have := elems_mem (P := P) (e := e) (sz := size) (b := b) (o := ob + lo * sz) (cap := cap) (bs := ((xs.map (enc t)).drop lo).take len) hs (by rw [h1, h2]; exact g2)
            rw [g1, ← List.map_drop, ← List.map_take] at this
            exact this
        · obtain ⟨x, _, rfl⟩ := List.mem_map.1 hy
          exact ⟨by rw [enc_length, h1, h2], okCells_enc t x⟩
      · cases h
    · rename_i sz' es hb
      split at h
      · rename_i hsz
        simp only [Bool.and_eq_true] at hsz
        have h1 : size = sz := Nat.eq_of_beq_eq_true hsz.1.1
        have h2 : sz = sz' := Nat.eq_of_beq_eq_true hsz.1.2
        have h3 : lo + len ≤ es.length := Nat.le_of_ble_eq_true hsz.2
        subst h1; subst h2
        cases h
        obtain ⟨_, hblk⟩ := hh k _ hb
        refine ⟨?_, fun y hy => ?_⟩
        · rcases hr.msl_inv with ⟨a, cap, hd, rfl, hl⟩ | ⟨a, l, hn, rfl, _⟩ | ⟨b, ob, cap, hm, rfl, hl, _⟩
          · rcases hblk with ⟨hv, _⟩ | ⟨_, _, _, _, _, hv, _⟩ <;> rw [hd] at hv <;> cases hv
          · subst hn; simp; exact elems_nil e size a 0
          · obtain ⟨g1, g2⟩ := part_elems (lo := lo) (len := len) h3 (urow_elems hb hh hm)
            have := elems_mem (P := P) (cap := cap) hs g2
            rw [g1] at this
            exact this
        · have hy := List.mem_of_mem_drop (List.mem_of_mem_take hy)
          rcases hblk with ⟨_, hn⟩ | ⟨b, ob, arr, el, fz, _, _, _, _, h7⟩
          · rw [hn] at hy; cases hy
          · obtain ⟨n, hn, rfl⟩ := List.getElem_of_mem hy
            obtain ⟨g1, g2, _⟩ := h7 n _ (List.getElem?_eq_getElem hn)
            exact ⟨g1, g2⟩
      · cases h
    · cases h
  · cases h

/-- typed elements, by the cells' law -/
theorem elemsT_U {t : U.T} {H : Heap U} {x : AV U} {xs : List (U.den t)} (h : elemsT t H x = some xs) : elemsU (U.shape t).length H x = some (xs.map (enc t)) := by
  unfold elemsT at h
  unfold elemsU
  split at h
  · cases h; rfl
  · rename_i t' ys
    split at h
    · rename_i ht _
      subst ht
      cases h
      simp
    · cases h
  · rename_i t' ys
    split at h
    · rename_i ht _
      subst ht
      cases h
      simp
    · cases h
  · rename_i k sz
    split at h
    · rename_i t' ys hb
      split at h
      · rename_i ht _ hsz
        subst ht
        cases h
        have : sz = (U.shape t').length := Nat.eq_of_beq_eq_true hsz
        simp [hb, this]
      · cases h
    · cases h
  · rename_i k sz lo len
    split at h
    · rename_i t' ys hb
      split at h
      · rename_i ht _ hsz
        subst ht
        cases h
        simp only [Bool.and_eq_true] at hsz
        have h1 : sz = (U.shape t').length := Nat.eq_of_beq_eq_true hsz.1
        simp [hb, h1, hsz.2]
      · cases h
    · cases h
  · rename_i s
    split at h
    · rename_i hsz
      split at h
      · rename_i z hz
        cases h
        rw [Nat.eq_of_beq_eq_true hsz]
        show some _ = some _
        congr 1
        rw [List.map_map]
        refine List.map_congr_left fun b _ => ?_
        obtain ⟨y, hy⟩ := dec_byte hz b.toNat
        simp only [Function.comp, hy]
        exact (enc_one hy).symm
      · cases h
    · cases h
  · cases h

theorem byteL_spec : ∀ {es : List (List (AV U))} {s : List UInt8}, byteL es = some s → es.length = s.length ∧ ∀ (j : Nat) (b : UInt8), s[j]? = some b → es[j]? = some [.int .u8 b.toNat]
  | [], s, h => by cases h; exact ⟨rfl, fun j b hb => by simp at hb⟩
  | x :: l, s, h => by
    unfold byteL at h
    split at h
    · rename_i heq; cases heq
    · rename_i n l' heq
      cases heq
      split at h
      · rename_i hn
        split at h
        · rename_i r hr
          cases h
          obtain ⟨h1, h2⟩ := byteL_spec hr
          refine ⟨by simp [h1], fun j b hb => ?_⟩
          cases j with
          | succ j => exact h2 j b (by simpa using hb)
          | zero =>
            have : UInt8.ofNat n.toNat = b := by simpa using hb
            subst this
            rw [Bool.and_eq_true] at hn
            have h3 : 0 ≤ n := by simpa [leI] using hn.1
            have h4 : n < 256 := by simpa [ltI] using hn.2
            have h5 : n.toNat < 256 := by omega
            have h6 : ((UInt8.ofNat n.toNat).toNat : Int) = n := by
              rw [UInt8.toNat_ofNat']
              rw [Nat.mod_eq_of_lt (by simpa using h5)]
              omega
            simp only [List.getElem?_cons_zero, h6]
        · cases h
      · cases h
    · cases h

theorem rowBytes_spec {H : Heap U} {k : Nat} {s : List UInt8} (h : rowBytes H k = some s) {e : En} (hh : HeapRel e H.get) :
    rowLen H k = some s.length ∧ ∀ b ob, e.m k = some (.at b ob) → ∀ j (hj : j < s.length), e.w.cell? ⟨b, ob + j, none⟩ = some (.int .u8 (s[j].toNat : Int)) := by
  unfold rowBytes at h
  split at h
  · rename_i t xs hb
    split at h
    · rename_i hsz
      have hsz := Nat.eq_of_beq_eq_true hsz
      obtain ⟨h1, h2⟩ := byteL_spec h
      rw [List.length_map] at h1
      refine ⟨by unfold rowLen; rw [hb, ← h1], fun b ob hm j hj => ?_⟩
      have hel := row_elems hb hh hm
      obtain ⟨_, _, h3⟩ := hel j _ (h2 j s[j] (List.getElem?_eq_getElem hj))
      obtain ⟨v, v1, v2⟩ := h3 0 _ rfl
      rw [hsz, Nat.mul_one, Nat.add_zero] at v1
      rw [v1, v2.int_inv]
    · cases h
  · cases h

theorem bytes_run {H : Heap U} {k : Nat} {s : List UInt8} (h : rowBytes H k = some s) {e : En} (hh : HeapRel e H.get) {c : Value} (hr : Rel (U := U) e (.mrow k 1) c) {src dst el : TypeId}
    (hs : P.underlying src = some (.slice el)) (he : P.underlying el = some (.int .u8)) (hd : P.underlying dst = some .string) : (convert src dst c).run P e.w = .ok (.string ⟨⟨s⟩⟩) e.w := by
  obtain ⟨h1, h2⟩ := rowBytes_spec h hh
  rcases mrow_live h1 hh hr with ⟨a, l, hn, rfl, _⟩ | ⟨b, ob, cap, hm, rfl, _, _⟩
  · have hs0 : s = [] := List.length_eq_zero_iff.1 hn
    subst hs0
    cases a with
    | none => exact run_convert_bytes_nil e.w src el hs he 0 0 dst hd
    | some a => exact run_convert_bytes_back e.w src dst el a 0 [] hs he hd (fun j hj => by simp at hj)
  · exact run_convert_bytes_back e.w src dst el ⟨b, ob, none⟩ cap s hs he hd (fun j hj => by rw [add_none]; exact h2 b ob hm j hj)

theorem convertK_sound (hti : TIs P G) {src dst : TypeId} {x : AV U} {H : Heap U} {k : AV U → Heap U → Option R} {r : R} (h : convertK G src dst x H k = some r) :
    (∃ v, k v H = some r ∧ ∀ (e : En) (c : Value), Rel e x c → HeapRel e H.get → ∃ u, (convert src dst c).run P e.w = .ok u e.w ∧ Rel e v u) ∨
    ∃ v b, k v (H ++ [some b]) = some r ∧ ∀ (e : En) (c : Value), WF e → Rel e x c → Makes P H (convert src dst c) e v b := by
  unfold convertK at h
  split at h
  case h_2 => cases h
  rename_i i j hi hj
  have hI := hti src i hi
  have hJ := hti dst j hj
  split at h
  · rename_i ki kd kk n h1 h2
    left
    refine ⟨_, h, fun e c hx _ => ?_⟩
    rw [hx.int_inv]
    exact ⟨_, by simp [convert, run_underlying (hI.und_int h1), run_underlying (hJ.und_int h2), Conv.intToInt], .int⟩
  · rename_i s h1 h2
    left
    refine ⟨_, h, fun e c hx _ => ?_⟩
    rw [hx.str_inv]
    exact ⟨_, by simp [convert, run_underlying (hI.und_str h1), run_underlying (hJ.und_str h2)], .str⟩
  · rename_i el s h1 h2
    split at h
    · rename_i bytes zero ty flat he
      split at h
      case h_2 => cases h
      rename_i z hz
      right
      have hshape : (U.shape ty).length = 1 := ((hti el _ he).ty ty rfl).2
      refine ⟨_, _, h, fun e c hw hx => ?_⟩
      rw [hx.str_inv]
      have hE := (hti el _ he).und_int rfl
      have hsz : (ByteArray.mk ⟨s⟩).size = s.length := rfl
      obtain ⟨cap, hcap⟩ : ∃ cap, cap = grownCap e.w (ByteArray.mk ⟨s⟩).size 0 el := ⟨_, rfl⟩
      have hle : s.length ≤ cap := by
        rw [hcap]; unfold grownCap Question.cut; rw [hsz]; simp
      obtain ⟨arr, harr⟩ : ∃ arr, arr = bytesRow (ByteArray.mk ⟨s⟩) cap := ⟨_, rfl⟩
      have hrun := run_bytes_of_string e.w src dst el (ByteArray.mk ⟨s⟩) (hI.und_str h1) (hJ.und_slice h2) hE
      rw [← hcap, ← harr, hsz] at hrun
      have hasz : arr.size = cap := by
        rw [harr]; unfold bytesRow; rw [hsz]; simp; omega
      refine ⟨_, _, _, s.length, hrun, ⟨rfl, rfl, rfl⟩, fun hm => ⟨push_row rfl hle (by omega), ?_⟩⟩
      have hmm : (e.push (e.w.drew.alloc (.cells arr el (arr.size, arr.size + 1))) H.length s.length).m H.length = some (.at e.w.heap.size 0) := by simp [En.push]
      have hnn : (e.push (e.w.drew.alloc (.cells arr el (arr.size, arr.size + 1))) H.length s.length).n H.length = s.length := by simp [En.push]
      refine ⟨by rw [hnn]; simp, .inr ⟨e.w.heap.size, 0, arr, el, (arr.size, arr.size + 1), hmm, ?_, by rw [hshape]; simp; omega, ?_, fun m y hy => ?_⟩⟩
      · show (e.w.heap.push _)[e.w.heap.size]? = _; simp
      · intro q _ hq; simp; omega
      · rw [List.getElem?_map, Option.map_eq_some_iff] at hy
        obtain ⟨b, hb, rfl⟩ := hy
        obtain ⟨x, hx⟩ := dec_byte hz b.toNat
        rw [hx]
        refine dec_cells hx (fun q c hq => ?_)
        cases q with
        | succ q => simp at hq
        | zero =>
          simp at hq; subst hq
          refine ⟨.int .u8 b.toNat, ?_, .int⟩
          rw [harr, hshape]; unfold bytesRow
          have hmlt : m < s.length := (List.getElem?_eq_some_iff.1 hb).1
          rw [Array.getElem?_append_left (by simp; omega)]
          simp [hb]
    · cases h
  · rename_i el h1 h2
    split at h
    · rename_i bytes zero ty flat he
      split at h
      · rename_i s hs
        left
        have hS := hI.und_slice h1
        have hD := hJ.und_str h2
        have hB := (hti el _ he).und_int rfl
        refine ⟨_, h, fun e c hx hh => ⟨_, ?_, .str⟩⟩
        unfold bytesOf at hs
        split at hs
        · cases hs
          cases hx
          exact run_convert_bytes_nil e.w src el hS hB 0 0 dst hD
        · rename_i kk sz
          split at hs
          · rename_i hsz
            have hsz : sz = 1 := Nat.eq_of_beq_eq_true hsz
            subst hsz
            exact bytes_run hs hh hx hS hB hD
          · cases hs
        · cases hx with
          | brow hx _ => exact bytes_run hs hh hx hS hB hD
        · cases hs
      · cases h
    · cases h
  · cases h

end Am
