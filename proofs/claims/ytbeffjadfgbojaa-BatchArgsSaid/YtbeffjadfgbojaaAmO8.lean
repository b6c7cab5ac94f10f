/- Conversions, make, append. -/
import Derived.Test.YtbeffjadfgbojaaAmO7
import Derived.Laws.IdiomStrings
namespace Am
open Go
variable {U : TyU} {R : Type} {P : Program} {G : Env U}

/-- what an operation that makes one block of cells must show -/
def Makes (P : Program) (H : Heap U) (s : Sem Value) (e : En) (v : AV U) (b : Blk U) : Prop := ∃ (c : Value) (w' : World) (ob : Obj) (len : Nat),
  s.run P e.w = .ok c w' ∧ PushW e.w w' ob ∧ (e.m H.length = none → Rel (e.push w' H.length len) v c ∧ BlkOK (e.push w' H.length len) H.length b)

theorem push_row {e : En} {w' : World} {k len sz cap : Nat} {arr : Array Value} {el : TypeId} {fz : Nat × Nat} (hh : w'.heap = e.w.heap.push (.cells arr el fz)) (hl : len ≤ cap) (hs : cap * sz ≤ arr.size) :
    Rel (U := U) (e.push w' k len) (.mrow k sz) (.slice (some ⟨e.w.heap.size, 0, none⟩) len cap) := by
  have hm : (e.push w' k len).m k = some (.at e.w.heap.size 0) := by simp [En.push]
  have hn : (e.push w' k len).n k = len := by simp [En.push]
  have := Rel.mrow (U := U) (e := e.push w' k len) (k := k) (sz := sz) (cap := cap) hm (by rw [hn]; exact hl) ⟨arr, el, fz, by show w'.heap[e.w.heap.size]? = _; rw [hh]; simp, by omega⟩
  rw [hn] at this
  exact this

theorem dec_byte {t : U.T} {k : IntKind} {m : Int} {z : U.den t} (h : dec t [.int k m] = some z) (n : Int) : ∃ x, dec t [.int k n] = some x := by
  have key : ∀ (sh : List (Cell U.T)) (y : Tup U.toTyU0 sh), decT sh [.int k m] = some y → ∃ x, decT (U := U) sh [.int k n] = some x := by
    intro sh y hy
    match sh with
    | [] => simp [decT] at hy
    | .int k' :: r =>
      unfold decT at hy ⊢
      simp only [decC] at hy ⊢
      cases hs : IntKind.same k' k with
      | false => rw [hs] at hy; cases hy
      | true =>
        rw [hs] at hy
        dsimp only at hy ⊢
        split at hy
        · exact ⟨_, rfl⟩
        · cases hy
    | .bool :: r => simp [decT, decC] at hy
    | .str :: r => simp [decT, decC] at hy
    | .sl _ :: r => simp [decT, decC] at hy
  unfold dec at h ⊢
  split at h
  · rename_i y hy
    obtain ⟨x, hx⟩ := key _ y hy
    rw [hx]; exact ⟨_, rfl⟩
  · cases h

theorem convertK_sound (hti : TIs P G) {src dst : TypeId} {x : AV U} {H : Heap U} {k : AV U → Heap U → Option R} {r : R} (h : convertK G src dst x H k = some r) :
    (∃ v, k v H = some r ∧ ∀ (e : En) (c : Value) (w : World), Rel e x c → ∃ u, (convert src dst c).run P w = .ok u w ∧ Rel e v u) ∨
    ∃ v b, k v (H ++ [some b]) = some r ∧ ∀ (e : En) (c : Value), WF e → Rel e x c → Makes P H (convert src dst c) e v b := by
  unfold convertK at h
  split at h
  case h_2 => cases h
  rename_i i j hi hj
  have hI := hti src i hi
  have hJ := hti dst j hj
  split at h
  · rename_i ki kd kk n h1 h2
    left
    refine ⟨_, h, fun e c w hx => ?_⟩
    rw [hx.int_inv]
    exact ⟨_, by simp [convert, run_underlying (hI.und_int h1), run_underlying (hJ.und_int h2), Conv.intToInt], .int⟩
  · rename_i s h1 h2
    left
    refine ⟨_, h, fun e c w hx => ?_⟩
    rw [hx.str_inv]
    exact ⟨_, by simp [convert, run_underlying (hI.und_str h1), run_underlying (hJ.und_str h2)], .str⟩
  · rename_i el s h1 h2
    split at h
    · rename_i bytes zero ty flat he
      split at h
      case h_2 => cases h
      rename_i z hz
      right
      have hshape : (U.shape ty).length = 1 := ((hti el _ he).ty ty rfl).2
      refine ⟨_, _, h, fun e c hw hx => ?_⟩
      rw [hx.str_inv]
      have hE := (hti el _ he).und_int rfl
      have hsz : (ByteArray.mk ⟨s⟩).size = s.length := rfl
      obtain ⟨cap, hcap⟩ : ∃ cap, cap = grownCap e.w (ByteArray.mk ⟨s⟩).size 0 el := ⟨_, rfl⟩
      have hle : s.length ≤ cap := by
        rw [hcap]; unfold grownCap Question.cut; rw [hsz]; simp
      obtain ⟨arr, harr⟩ : ∃ arr, arr = bytesRow (ByteArray.mk ⟨s⟩) cap := ⟨_, rfl⟩
      have hrun := run_bytes_of_string e.w src dst el (ByteArray.mk ⟨s⟩) (hI.und_str h1) (hJ.und_slice h2) hE
      rw [← hcap, ← harr, hsz] at hrun
      have hasz : arr.size = cap := by
        rw [harr]; unfold bytesRow; rw [hsz]; simp; omega
      refine ⟨_, _, _, s.length, hrun, ⟨rfl, rfl, rfl⟩, fun hm => ⟨push_row rfl hle (by omega), ?_⟩⟩
      have hmm : (e.push (e.w.drew.alloc (.cells arr el (arr.size, arr.size + 1))) H.length s.length).m H.length = some (.at e.w.heap.size 0) := by simp [En.push]
      have hnn : (e.push (e.w.drew.alloc (.cells arr el (arr.size, arr.size + 1))) H.length s.length).n H.length = s.length := by simp [En.push]
      refine ⟨by rw [hnn]; simp, .inr ⟨e.w.heap.size, 0, arr, el, (arr.size, arr.size + 1), hmm, ?_, by rw [hshape]; simp; omega, ?_, fun m y hy => ?_⟩⟩
      · show (e.w.heap.push _)[e.w.heap.size]? = _; simp
      · intro q _ hq; simp; omega
      · rw [List.getElem?_map, Option.map_eq_some_iff] at hy
        obtain ⟨b, hb, rfl⟩ := hy
        obtain ⟨x, hx⟩ := dec_byte hz b.toNat
        rw [hx]
        refine dec_cells hx (fun q c hq => ?_)
        cases q with
        | succ q => simp at hq
        | zero =>
          simp at hq; subst hq
          refine ⟨.int .u8 b.toNat, ?_, .int⟩
          rw [harr, hshape]; unfold bytesRow
          have hmlt : m < s.length := (List.getElem?_eq_some_iff.1 hb).1
          rw [Array.getElem?_append_left (by simp; omega)]
          simp [hb]
    · cases h
  · cases h

theorem makeSliceK_sound (hti : TIs P G) {t : TypeId} {l c : AV U} {H : Heap U} {k : AV U → Heap U → Option R} {r : R} (h : makeSliceK G t l c H k = some r) :
    ∃ v b, k v (H ++ [some b]) = some r ∧ ∀ (e : En) (cl cc : Value), WF e → Rel e l cl → Rel e c cc → Makes P H (Instr.makeSlice t cl cc) e v b := by
  unfold makeSliceK at h
  split at h
  case h_2 => cases h
  rename_i el _ _ _ n c hi
  have hu := (hti t _ hi).und_slice rfl
  split at h
  · cases h
  rename_i j hj
  have hJ := hti el j hj
  split at h
  · cases h
  rename_i hsb
  rw [Bool.or_eq_false_iff] at hsb
  have h0b : j.bytes ≠ 0 := fun hh => by rw [hh] at hsb; cases hsb.2
  obtain ⟨hc, h⟩ := chk_inv h
  simp only [Bool.and_eq_true] at hc
  obtain ⟨⟨hn, hnc⟩, hroom⟩ := hc
  have hn : 0 ≤ n := by simpa [leI] using hn
  have hnc : n ≤ c := by simpa [leI] using hnc
  have hroom : c.toNat * j.bytes ≤ 281474976710656 := roomy_le hroom
  -- the run, for whichever row
  have key : ∀ (e : En) (blk : Blk U), WF e → (∃ es : List (List (AV U)), es = List.replicate n.toNat j.zero ∧ rowOf j es = some blk) → c ≤ 9223372036854775807 →
      Makes P H (Instr.makeSlice t (.int .i64 n) (.int .i64 c)) e (.mrow H.length j.size) blk := by
    rintro e blk hw ⟨es, hes, hblk⟩ h63
    obtain ⟨inf, hi1, hi2, hi3, z, hi4, hi5, hi6, hi7⟩ := hJ.info
    obtain ⟨z', hz1, hz2⟩ := hJ.zero_rel e e.w
    have hzz : z' = z := by
      have : (zeroValue el).run P e.w = .ok z e.w := by simp [zeroValue, typeInfo, hi1, hi4]
      rw [this] at hz1; cases hz1; rfl
    subst hzz
    have hzs : z'.cells.size = j.size := by have := hz2.1; rw [hJ.zero_len] at this; simpa using this.symm
    have hb : (inf.bytes : Int) * c ≤ 281474976710656 := by
      rw [hi3]
      have h1 : (c.toNat : Int) = c := by omega
      have h2 : ((c.toNat * j.bytes : Nat) : Int) ≤ 281474976710656 := by omega
      rw [Int.natCast_mul, h1, Int.mul_comm] at h2
      omega
    have hrun := run_make (P := P) e.w t el inf z' hu hi1 hi4 .i64 .i64 n c hn hnc hb h63
    rw [hi2] at hrun
    refine ⟨_, _, _, n.toNat, hrun, ⟨rfl, rfl, rfl⟩, fun hm => ⟨push_row rfl (by omega) (by rw [size_madeCells]; exact Nat.le_refl _), ?_⟩⟩
    have hE := En.push_evo (k := H.length) (len := n.toNat) (w' := e.w.alloc (.cells (madeCells z'.cells (c.toNat * j.size)) el)) (fun _ => True) ⟨rfl, rfl, rfl⟩ hm
    refine row_ok (b := e.w.heap.size) (ob := 0) (arr := madeCells z'.cells (c.toNat * j.size)) (el := el) (fz := (0, 0)) hblk (by simp [En.push]) (by show (e.w.heap.push _)[e.w.heap.size]? = _; simp) ?_ (unfrozen_zero _ _) (by simp [En.push, hes]) (fun m x hx => ?_)
    · rw [size_madeCells, hes]
      have : n.toNat * j.size ≤ c.toNat * j.size := Nat.mul_le_mul_right _ (by omega)
      simpa using this
    · rw [hes, List.getElem?_replicate] at hx
      split at hx
      · rename_i hm'
        cases hx
        refine ⟨hJ.zero_len, hJ.zero_ok, fun i y hy => ?_⟩
        have hilt : i < j.size := by rw [← hJ.zero_len]; exact (List.getElem?_eq_some_iff.1 hy).1
        obtain ⟨v, hv1, hv2⟩ := hz2.get hy
        refine ⟨v, ?_, hv2.mono hE hw⟩
        have hidx := idx_le (sz := j.size) hm'
        have hle : n.toNat * j.size ≤ c.toNat * j.size := Nat.mul_le_mul_right _ (by omega)
        have hlt' : m * j.size + i < c.toNat * j.size := by omega
        have hmod : (m * j.size + i) % z'.cells.size = i := by rw [hzs, Nat.mul_comm, Nat.mul_add_mod]; exact Nat.mod_eq_of_lt hilt
        have hiz : i < z'.cells.size := by omega
        simp [madeCells, hlt', hmod]
        have : z'.cells[i]? = some v := by simpa using hv1
        rw [Array.getElem?_eq_getElem hiz] at this
        cases this
        simp [hiz]
      · cases hx
  have h63 : c ≤ 9223372036854775807 := by
    have : c.toNat * 1 ≤ c.toNat * j.bytes := Nat.mul_le_mul_left _ (by omega)
    omega
  split at h
  · rename_i ty hty
    split at h
    · rename_i hsz
      split at h
      · rename_i z hz
        refine ⟨_, _, h, fun e cl cc hw hl hc => ?_⟩
        rw [hl.int_inv, hc.int_inv]
        refine key e _ hw ⟨_, rfl, ?_⟩ h63
        unfold rowOf
        rw [hty]
        have hall : ∀ m, decAll ty (List.replicate m j.zero) = some (List.replicate m z) := by
          intro m
          induction m with
          | zero => rfl
          | succ m ih => simp [List.replicate_succ, decAll, hz, ih]
        simp [hsz, hall]
      · cases h
    · cases h
  · rename_i hty
    refine ⟨_, _, h, fun e cl cc hw hl hc => ?_⟩
    rw [hl.int_inv, hc.int_inv]
    refine key e _ hw ⟨_, rfl, ?_⟩ h63
    unfold rowOf
    rw [hty]

end Am
