/- Addresses, slices, scalars. -/
import Derived.Test.YtlogoccciaopnaaGreatDoorAmO2
import Derived.WalkKit
namespace Am
open Go
variable {U : TyU} {R : Type} {P : Program} {G : Env U}

theorem fieldOf_spec {t : TypeId} {i : TI U} (hI : TIok P t i) {f off : Nat} {ft : TypeId} (h : fieldOf i f = some (off, ft)) :
    ∃ fs fld, P.underlying t = some (.struct fs) ∧ fs[f]? = some fld ∧ fld.offset = off ∧ fld.type = ft := by
  unfold fieldOf at h
  split at h
  · rename_i l hk
    obtain ⟨fs, h1, h2⟩ := hI.und_struct hk
    rw [← h2] at h
    simp only [List.getElem?_map, Option.map_eq_some_iff] at h
    obtain ⟨fld, h3, h4⟩ := h
    cases h4
    exact ⟨fs, fld, h1, by simpa using h3, rfl, rfl⟩
  · cases h

theorem fieldAddrK_sound (hti : TIs P G) {s : TypeId} {p : AV U} {f : Nat} {k : AV U → Option R} {r : R} (h : fieldAddrK G s p f k = some r) :
    ∃ v, k v = some r ∧ ∀ (e : En) (c : Value) (w : World), Rel e p c → ∃ u, (Instr.fieldAt s c f).run P w = .ok u w ∧ Rel e v u := by
  unfold fieldAddrK at h
  split at h
  · cases h
  rename_i i hi
  split at h
  · cases h
  rename_i off ft hf
  obtain ⟨fs, fld, h1, h2, h3, h4⟩ := fieldOf_spec (hti s i hi) hf
  split at h
  · cases h
  rename_i j hj
  split at h
  · cases h
  rename_i h0
  have hJ := hti ft j hj
  have h0 : j.size ≠ 0 := fun hh => by rw [hh] at h0; cases h0
  have run : ∀ (a : Addr) (w : World), (Instr.fieldAt s (.pointer (some a)) f).run P w = .ok (.pointer (some (a.add off))) w := by
    intro a w
    simp [Instr.fieldAt, run_underlying h1, h2, Instr.sureAddr, fieldPlace, h4, hJ.run_sizeOf, h0, h3]
  split at h
  · rename_i kk sz ii o
    refine ⟨_, h, fun e c w hr => ?_⟩
    rcases hr.ptr_inv with ⟨hd, a, rfl⟩ | ⟨b, ob, hm, rfl⟩
    · exact ⟨_, run _ w, .ptrDead hd⟩
    · refine ⟨_, run _ w, ?_⟩
      rw [add_none, Nat.add_assoc]
      exact .ptr hm
  · rename_i cs o
    refine ⟨_, h, fun e c w hr => ?_⟩
    cases hr with
    | fptr hI hc hr' =>
      refine ⟨_, run _ w, ?_⟩
      rw [add_none, Nat.add_assoc]
      exact .fptr hI hc hr'
  · rename_i kk el
    refine ⟨_, h, fun e c w hr => ?_⟩
    cases hr with
    | tptr hr hx =>
      rcases hr.ptr_inv with ⟨hd, a, rfl⟩ | ⟨b, ob, hm, rfl⟩
      · exact ⟨_, run _ w, .ptrDead hd⟩
      · refine ⟨_, run _ w, ?_⟩
        rw [add_none, Nat.add_assoc]
        exact .ptr hm
  · obtain ⟨cs, o, rfl, h⟩ := bptrK_inv h
    refine ⟨_, h, fun e c w hr => ?_⟩
    cases hr with
    | bptr hI hc hr' =>
      refine ⟨_, run _ w, ?_⟩
      rw [add_none, Nat.add_assoc]
      exact .bptr hI hc hr'

theorem inB_spec {n : Int} {len : Nat} (h : inB n len = true) : 0 ≤ n ∧ n < (len : Int) := by
  unfold inB at h; simpa using h

theorem upTo_spec {n : Int} {len : Nat} (h : upTo n len = true) : 0 ≤ n ∧ n ≤ (len : Int) := by
  unfold upTo at h; simpa using h

theorem chk_inv {b : Bool} {x : Option R} {r : R} (h : chk b x = some r) : b = true ∧ x = some r := by
  cases b
  · cases h
  · exact ⟨rfl, h⟩

theorem ix_spec {α : Type} {xs : List α} {n : Int} {x : α} (h : ix xs n = some x) : 0 ≤ n ∧ xs[n.toNat]? = some x := by
  unfold ix at h
  split at h
  · rename_i h0; exact ⟨by simpa using h0, h⟩
  · cases h

theorem bind_inv {α : Type} {x : Option α} {f : α → Option R} {r : R} (h : x.bind f = some r) : ∃ a, x = some a ∧ f a = some r := by
  cases x with
  | none => cases h
  | some a => exact ⟨a, rfl, h⟩

/-- the address of an element -/
theorem run_indexAt {t el : TypeId} (hu : P.underlying t = some (.slice el)) {j : TI U} (hJ : TIok P el j) (a : Addr) (len cap : Nat) (k : IntKind) (n : Int) (h0 : 0 ≤ n) (h1 : n < (len : Int)) (w : World) :
    (Instr.indexAt t (.slice (some a) len cap) (.int k n)).run P w = .ok (.pointer (some (a.add (n.toNat * j.size)))) w := by
  simp [Instr.indexAt, run_underlying hu, asIntOf, h0, h1, hJ.run_sizeOf]

theorem run_indexArr {t el : TypeId} {m : Nat} (hu : P.underlying t = some (.array m el)) {j : TI U} (hJ : TIok P el j) (a : Addr) (k : IntKind) (n : Int) (h0 : 0 ≤ n) (h1 : n < (m : Int)) (w : World) :
    (Instr.indexAt t (.pointer (some a)) (.int k n)).run P w = .ok (.pointer (some (a.add (n.toNat * j.size)))) w := by
  simp [Instr.indexAt, run_underlying hu, asIntOf, h0, h1, hJ.run_sizeOf, Instr.sureAddr]

theorem Rel.fsl_inv {e : En} {t : U.T} {xs : List (U.den t)} {c : Value} (h : Rel e (.fsl t xs) c) : (∃ a cap, c = .slice a xs.length cap ∧ xs = []) ∨
    ∃ b ob cap, c = .slice (some ⟨b, ob, none⟩) xs.length cap ∧ e.I b ∧ xs.length ≤ cap ∧ ∀ (i : Nat) (x : U.den t), xs[i]? = some x →
      ∀ (j : Nat) (y : AV U), (enc t x)[j]? = some y → ∃ v, e.w.cell? ⟨b, ob + i * (U.shape t).length + j, none⟩ = some v ∧ Rel e y v := by
  cases h with
  | fslE => exact .inl ⟨_, _, rfl, rfl⟩
  | fsl hI hl hc hr => exact .inr ⟨_, _, _, rfl, hI, hl, fun i x hx j y hy => ⟨_, hc i x hx j y hy, hr i x hx j y hy⟩⟩

/-- frozen cells, out of what they are -/
theorem Rel.mk_fptr {e : En} {cs : List (AV U)} {o b ob : Nat} (hI : e.I b) (h : ∀ (j : Nat) (x : AV U), cs[j]? = some x → ∃ v, e.w.cell? ⟨b, ob + j, none⟩ = some v ∧ Rel e x v) :
    Rel e (.fptr cs o) (.pointer (some ⟨b, ob + o, none⟩)) := by
  refine .fptr (vals := fun j => (e.w.cell? ⟨b, ob + j, none⟩).getD default) hI (fun j c hj => ?_) (fun j c hj => ?_) <;> obtain ⟨v, h1, h2⟩ := h j c hj <;> rw [h1]
  · rfl
  · exact h2

theorem Rel.mk_bptr {e : En} {cs : List (AV U)} {o b ob : Nat} (hI : Quiet e b) (h : ∀ (j : Nat) (x : AV U), cs[j]? = some x → ∃ v, e.w.cell? ⟨b, ob + j, none⟩ = some v ∧ Rel e x v) :
    Rel e (.bptr cs o) (.pointer (some ⟨b, ob + o, none⟩)) := by
  refine .bptr (vals := fun j => (e.w.cell? ⟨b, ob + j, none⟩).getD default) hI (fun j c hj => ?_) (fun j c hj => ?_) <;> obtain ⟨v, h1, h2⟩ := h j c hj <;> rw [h1]
  · rfl
  · exact h2

theorem Rel.bsl_inv {e : En} {t : U.T} {xs : List (U.den t)} {c : Value} (h : Rel e (.bsl t xs) c) : (∃ a cap, c = .slice a xs.length cap ∧ xs = []) ∨
    ∃ b ob cap, c = .slice (some ⟨b, ob, none⟩) xs.length cap ∧ Quiet e b ∧ xs.length ≤ cap ∧ ∀ (i : Nat) (x : U.den t), xs[i]? = some x →
      ∀ (j : Nat) (y : AV U), (enc t x)[j]? = some y → ∃ v, e.w.cell? ⟨b, ob + i * (U.shape t).length + j, none⟩ = some v ∧ Rel e y v := by
  cases h with
  | bslE => exact .inl ⟨_, _, rfl, rfl⟩
  | bsl hI hl hc hr => exact .inr ⟨_, _, _, rfl, hI, hl, fun i x hx j y hy => ⟨_, hc i x hx j y hy, hr i x hx j y hy⟩⟩

theorem Rel.mk_fsl {e : En} {t : U.T} {xs : List (U.den t)} {b ob cap : Nat} (hI : e.I b) (hl : xs.length ≤ cap) (h : ∀ (i : Nat) (x : U.den t), xs[i]? = some x →
      ∀ (j : Nat) (y : AV U), (enc t x)[j]? = some y → ∃ v, e.w.cell? ⟨b, ob + i * (U.shape t).length + j, none⟩ = some v ∧ Rel e y v) :
    Rel e (.fsl t xs) (.slice (some ⟨b, ob, none⟩) xs.length cap) := by
  refine .fsl (vals := fun i j => (e.w.cell? ⟨b, ob + i * (U.shape t).length + j, none⟩).getD default) hI hl (fun i x hx j y hy => ?_) (fun i x hx j y hy => ?_) <;> obtain ⟨v, h1, h2⟩ := h i x hx j y hy <;> rw [h1]
  · rfl
  · exact h2

theorem Rel.msl_inv {e : En} {k sz lo len : Nat} {c : Value} (h : Rel (U := U) e (.msl k sz lo len) c) :
    (∃ a cap, e.m k = some .dead ∧ c = .slice (some a) len cap ∧ len ≤ cap) ∨ (∃ a l, len = 0 ∧ c = .slice a 0 0 ∧ e.m k = some l) ∨
    ∃ b ob cap, e.m k = some (.at b ob) ∧ c = .slice (some ⟨b, ob + lo * sz, none⟩) len cap ∧ len ≤ cap ∧
      ∃ (arr : Array Value) (el : TypeId) (fz : Nat × Nat), e.w.heap[b]? = some (.cells arr el fz) ∧ ob + (lo + cap) * sz ≤ arr.size := by
  cases h with
  | mslDead h1 h2 => exact .inl ⟨_, _, h1, rfl, h2⟩
  | mslE h1 => exact .inr (.inl ⟨_, _, rfl, rfl, h1⟩)
  | msl h1 h2 h3 => exact .inr (.inr ⟨_, _, _, h1, rfl, h2, h3⟩)

theorem Rel.mrow_inv {e : En} {k sz : Nat} {c : Value} (h : Rel (U := U) e (.mrow k sz) c) :
    (∃ a l cap, e.m k = some .dead ∧ c = .slice a l cap) ∨ (∃ a l, e.n k = 0 ∧ c = .slice a 0 0 ∧ e.m k = some l) ∨
    ∃ b ob cap, e.m k = some (.at b ob) ∧ c = .slice (some ⟨b, ob, none⟩) (e.n k) cap ∧ e.n k ≤ cap ∧
      ∃ (arr : Array Value) (el : TypeId) (fz : Nat × Nat), e.w.heap[b]? = some (.cells arr el fz) ∧ ob + cap * sz ≤ arr.size := by
  cases h with
  | mrowDead h1 => exact .inl ⟨_, _, _, h1, rfl⟩
  | mrowE h1 h2 => exact .inr (.inl ⟨_, _, h2, rfl, h1⟩)
  | mrow h1 h2 h3 => exact .inr (.inr ⟨_, _, _, h1, rfl, h2, h3⟩)

theorem rowLen_spec {H : Heap U} {k len : Nat} (h : rowLen H k = some len) {e : En} (hh : HeapRel e H.get) : e.n k = len ∧ e.m k ≠ some .dead := by
  unfold rowLen at h
  split at h
  · rename_i hb
    obtain ⟨h1, h2⟩ := hh _ _ hb
    cases h
    refine ⟨h1, fun hd => ?_⟩
    rcases h2 with ⟨h3, _⟩ | ⟨_, _, _, _, _, h3, _⟩ <;> rw [hd] at h3 <;> cases h3
  · rename_i hb
    obtain ⟨h1, h2⟩ := hh _ _ hb
    cases h
    refine ⟨h1, fun hd => ?_⟩
    rcases h2 with ⟨h3, _⟩ | ⟨_, _, _, _, _, h3, _⟩ <;> rw [hd] at h3 <;> cases h3
  · cases h

/-- a mutable row's slice, while the row is there -/
theorem mrow_live {H : Heap U} {k sz len : Nat} (h : rowLen H k = some len) {e : En} (hh : HeapRel e H.get) {c : Value} (hr : Rel (U := U) e (.mrow k sz) c) :
    (∃ a l, len = 0 ∧ c = .slice a 0 0 ∧ e.m k = some l) ∨ ∃ b ob cap, e.m k = some (.at b ob) ∧ c = .slice (some ⟨b, ob, none⟩) len cap ∧ len ≤ cap ∧
      ∃ (arr : Array Value) (el : TypeId) (fz : Nat × Nat), e.w.heap[b]? = some (.cells arr el fz) ∧ ob + cap * sz ≤ arr.size := by
  obtain ⟨h1, h2⟩ := rowLen_spec h hh
  rcases hr.mrow_inv with ⟨a, l, cap, hd, _⟩ | ⟨a, l, hn, hc, hm⟩ | ⟨b, ob, cap, hm, hc, hl, hs⟩
  · exact absurd hd h2
  · exact .inl ⟨a, l, by omega, hc, hm⟩
  · rw [h1] at hc hl; exact .inr ⟨b, ob, cap, hm, hc, hl, hs⟩

theorem indexAddrK_sound (hti : TIs P G) {t : TypeId} {x ind : AV U} {H : Heap U} {k : AV U → Option R} {r : R} (h : indexAddrK G t x ind H k = some r) :
    ∃ v, k v = some r ∧ ∀ (e : En) (c ci : Value) (w : World), Rel e x c → Rel e ind ci → HeapRel e H.get → ∃ u, (Instr.indexAt t c ci).run P w = .ok u w ∧ Rel e v u := by
  unfold indexAddrK at h
  split at h
  · cases h
  rename_i i hi
  have hI := hti t i hi
  split at h
  · rename_i el kd n hk
    have hu := hI.und_slice hk
    split at h
    · cases h
    rename_i j hj
    have hJ := hti el j hj
    split at h
    · rename_i t' xs
      split at h
      · rename_i hsz
        have hsz := Nat.eq_of_beq_eq_true hsz
        obtain ⟨x, hx, h⟩ := bind_inv h
        obtain ⟨h0, hx⟩ := ix_spec hx
        have hlt : n.toNat < xs.length := (List.getElem?_eq_some_iff.1 hx).1
        refine ⟨_, h, fun e c ci w hr hri hh => ?_⟩
        rw [hri.int_inv]
        rcases hr.fsl_inv with ⟨_, _, _, hnil⟩ | ⟨b, ob, cap, rfl, hIb, hl, hc⟩
        · rw [hnil] at hx; cases hx
        refine ⟨_, run_indexAt hu hJ _ _ _ _ n h0 (by omega) w, ?_⟩
        rw [add_none, hsz]
        exact Rel.mk_fptr (o := 0) hIb (hc _ x hx)
      · cases h
    · rename_i kk sz
      split at h
      · rename_i len hsz hlen
        have hsz := Nat.eq_of_beq_eq_true hsz
        obtain ⟨hb, h⟩ := chk_inv h
        obtain ⟨h0, h1⟩ := inB_spec hb
        refine ⟨_, h, fun e c ci w hr hri hh => ?_⟩
        rw [hri.int_inv]
        rcases mrow_live hlen hh hr with ⟨a, l, hn, _, _⟩ | ⟨b, ob, cap, hm, rfl, hl, _⟩
        · omega
        · refine ⟨_, run_indexAt hu hJ _ _ _ _ n h0 h1 w, ?_⟩
          rw [add_none, hsz, show ob + n.toNat * sz = ob + n.toNat * sz + 0 by omega]
          exact .ptr hm
      · cases h
    · rename_i kk sz lo len
      split at h
      · rename_i hsz
        have hsz := Nat.eq_of_beq_eq_true hsz
        obtain ⟨hb, h⟩ := chk_inv h
        obtain ⟨h0, h1⟩ := inB_spec hb
        refine ⟨_, h, fun e c ci w hr hri hh => ?_⟩
        rw [hri.int_inv]
        rcases hr.msl_inv with ⟨a, cap, hd, rfl, hl⟩ | ⟨a, l, h2, _, _⟩ | ⟨b, ob, cap, hm, rfl, hl, _⟩
        · exact ⟨_, run_indexAt hu hJ _ _ _ _ n h0 h1 w, .ptrDead hd⟩
        · omega
        · refine ⟨_, run_indexAt hu hJ _ _ _ _ n h0 h1 w, ?_⟩
          rw [add_none, hsz, show ob + lo * sz + n.toNat * sz = ob + (lo + n.toNat) * sz + 0 by rw [Nat.add_mul]; omega]
          exact .ptr hm
      · cases h
    · obtain ⟨t', xs, hx0, h2⟩ := bslK_inv h
      subst hx0
      clear h
      split at h2
      · rename_i hsz
        have hsz := Nat.eq_of_beq_eq_true hsz
        obtain ⟨x, hx, h⟩ := bind_inv h2
        obtain ⟨h0, hx⟩ := ix_spec hx
        have hlt : n.toNat < xs.length := (List.getElem?_eq_some_iff.1 hx).1
        refine ⟨_, h, fun e c ci w hr hri hh => ?_⟩
        rw [hri.int_inv]
        rcases hr.bsl_inv with ⟨_, _, _, hnil⟩ | ⟨b, ob, cap, rfl, hIb, hl, hc⟩
        · rw [hnil] at hx; cases hx
        refine ⟨_, run_indexAt hu hJ _ _ _ _ n h0 (by omega) w, ?_⟩
        rw [add_none, hsz]
        exact Rel.mk_bptr (o := 0) hIb (hc _ x hx)
      · cases h2
  · rename_i m el kd n hk
    have hu := hI.und_array hk
    split at h
    · cases h
    rename_i j hj
    have hJ := hti el j hj
    split at h
    · cases h
    rename_i hb
    obtain ⟨h0, h1⟩ := inB_spec hb
    split at h
    · rename_i kk sz ii o
      refine ⟨_, h, fun e c ci w hr hri hh => ?_⟩
      rw [hri.int_inv]
      rcases hr.ptr_inv with ⟨hd, a, rfl⟩ | ⟨b, ob, hm, rfl⟩
      · exact ⟨_, run_indexArr hu hJ _ _ n h0 h1 w, .ptrDead hd⟩
      · refine ⟨_, run_indexArr hu hJ _ _ n h0 h1 w, ?_⟩
        rw [add_none, Nat.add_assoc]
        exact .ptr hm
    · rename_i cs o
      refine ⟨_, h, fun e c ci w hr hri hh => ?_⟩
      rw [hri.int_inv]
      cases hr with
      | fptr hI hc hr' =>
        refine ⟨_, run_indexArr hu hJ _ _ n h0 h1 w, ?_⟩
        rw [add_none, Nat.add_assoc]
        exact .fptr hI hc hr'
    · cases h
  · cases h

theorem indexK_sound (hti : TIs P G) {t : TypeId} {x ind : AV U} {k : AV U → Option R} {r : R} (h : indexK G t x ind k = some r) :
    ∃ v, k v = some r ∧ ∀ (e : En) (c ci : Value) (w : World), Rel e x c → Rel e ind ci → ∃ u, (Instr.index t c ci).run P w = .ok u w ∧ Rel e v u := by
  unfold indexK at h
  split at h
  · cases h
  rename_i i hi
  have hI := hti t i hi
  split at h
  · rename_i s kd n hk
    have hu := hI.und_str hk
    obtain ⟨b, hb, h⟩ := bind_inv h
    obtain ⟨h0, hb⟩ := ix_spec hb
    refine ⟨_, h, fun e c ci w hr hri => ?_⟩
    rw [hri.int_inv, hr.str_inv]
    refine ⟨.int .u8 b.toNat, ?_, .int⟩
    have : (({ data := ⟨s⟩ } : ByteArray)[n.toNat]? : Option UInt8) = some b := by
      have hlt : n.toNat < s.length := (List.getElem?_eq_some_iff.1 hb).1
      have hlt' : n.toNat < ({ data := ⟨s⟩ } : ByteArray).size := by simpa [ByteArray.size] using hlt
      rw [getElem?_pos ({ data := ⟨s⟩ } : ByteArray) n.toNat hlt']
      rw [List.getElem?_eq_getElem hlt] at hb
      rw [← hb]; rfl
    simp [Instr.index, run_underlying hu, asIntOf, h0, this]
  · rename_i m el cs kd n hk
    have hu := hI.und_array hk
    split at h
    · cases h
    rename_i j hj
    have hJ := hti el j hj
    split at h
    · cases h
    rename_i hb
    obtain ⟨h0, h1⟩ := inB_spec hb
    obtain ⟨v, hv, hc⟩ := partK_inv h
    refine ⟨v, hv, fun e c ci w hr hri => ?_⟩
    rw [hri.int_inv]
    obtain ⟨va, rfl, hra⟩ := hr.agg_inv
    obtain ⟨u, hu1, hu2⟩ := part_value hJ hra hc w
    refine ⟨u, ?_, hu2⟩
    simp [Instr.index, run_underlying hu, asIntOf, h0, h1, hJ.run_sizeOf, hu1]
  · cases h

end Am
