/- The builder's two functions that are not run: its check, and its text. -/
import Derived.Test.YtlogoccciaopnaaGreatDoorAmQ6
import Derived.Calls
namespace Am
open Go
variable {U : TyU} {P : Program}

theorem heap_setCell {w : World} {b : Nat} {arr : Array Value} {el : TypeId} {fz : Nat × Nat} (h : w.heap[b]? = some (.cells arr el fz)) (v : Value) (o : Nat) :
    (w.setCell ⟨b, o, none⟩ v).heap.size = w.heap.size ∧ (∀ b', b' ≠ b → (w.setCell ⟨b, o, none⟩ v).heap[b']? = w.heap[b']?) ∧ (w.setCell ⟨b, o, none⟩ v).heap[b]? = some (.cells (arr.setIfInBounds o v) el fz) ∧ sameIO w (w.setCell ⟨b, o, none⟩ v) := by
  refine ⟨by simp [World.setCell], fun b' hb' => ?_, ?_, ⟨rfl, rfl⟩⟩
  · simp only [World.setCell, Array.getElem?_modify]
    rw [if_neg (fun hh => hb' hh.symm)]
  · simp only [World.setCell, Array.getElem?_modify, if_true, h, Option.map_some, Option.isSome_none, Bool.false_eq_true, if_false]

theorem one_arg {e : En} {v : AV U} {vs : Array Value} (h : RelL e [v] vs.toList) : ∃ c, vs = #[c] ∧ Rel e v c := by
  obtain ⟨c, rest, h1, h2, h3⟩ := h.cons_inv
  have h3 := h3.nil_inv
  subst h3
  exact ⟨c, by cases vs; simp at h1; simp [h1], h2⟩

/-- a pointer to a builder, where the builder is -/
theorem tptr_live {e : En} {H : Heap U} (hh : HeapRel e H.get) {k : Nat} {el : TypeId} {c0 c1 : AV U} (hb : H.get k = some (.box [c0, c1])) {c : Value} (hr : Rel (U := U) e (.tptr k el) c) :
    ∃ (b : Nat) (v0 v1 : Value) (arr : Array Value) (fz : Nat × Nat), e.m k = some (.at b 0) ∧ c = .pointer (some ⟨b, 0, none⟩) ∧ e.w.heap[b]? = some (.cells arr el fz) ∧ arr.size = 2 ∧ unfrozen fz 0 2 ∧
      arr[0]? = some v0 ∧ arr[1]? = some v1 ∧ Rel e c0 v0 ∧ Rel e c1 v1 := by
  obtain ⟨b, ob, arr, el', fz, h1, h2, h3, h4, h5⟩ := hh k _ hb
  cases hr with
  | tptr hp hx =>
    obtain ⟨rfl, arr', fz', h6, h7⟩ := hx b ob h1
    rw [h2] at h6; cases h6
    rcases hp.ptr_inv with ⟨hd, _⟩ | ⟨b', ob', hm, rfl⟩
    · rw [h1] at hd; cases hd
    rw [h1] at hm; cases hm
    obtain ⟨v0, g1, g2⟩ := h5 0 c0 rfl
    obtain ⟨v1, g3, g4⟩ := h5 1 c1 rfl
    exact ⟨b, v0, v1, arr, fz, h1, by simp, h2, h7, by rw [← h7]; exact h4, by simpa using g1, by simpa using g3, g2, g4⟩

theorem cell_of {w : World} {b : Nat} {arr : Array Value} {el : TypeId} {fz : Nat × Nat} (h : w.heap[b]? = some (.cells arr el fz)) (j : Nat) : w.cell? ⟨b, j, none⟩ = arr[j]? := by
  rw [cell_eq, h]

theorem copyCheck_spec {f tb : TypeId} (hen : Enters P f)
    (hused : ∀ (b : Nat) (w : World), w.cell? ⟨b, 0, none⟩ = some (.pointer (some ⟨b, 0, none⟩)) → Calls P f #[.pointer (some ⟨b, 0, none⟩)] w fun e w' => e = .returned (.tuple #[]) ∧ w' = w)
    (hfresh : ∀ (b : Nat) (w : World), w.cell? ⟨b, 0, none⟩ = some (.pointer none) → w.shape? b = some (tb, 2) → w.frozen? ⟨b, 0, none⟩ = false →
      Calls P f #[.pointer (some ⟨b, 0, none⟩)] w fun e w' => e = .returned (.tuple #[]) ∧ w' = w.setCell ⟨b, 0, none⟩ (.pointer (some ⟨b, 0, none⟩))) :
    SpecOK (U := U) P f (copyCheckS tb) := by
  intro args H v H' h
  unfold copyCheckS at h
  split at h
  case h_2 => cases h
  rename_i k el
  split at h
  case h_2 => cases h
  rename_i c0 c1 hel hb
  have hel := Nat.eq_of_beq_eq_true hel
  subst hel
  split at h
  · -- the first call
    cases h
    refine ⟨by simp, hen, fun e vs hw hh hr hf Post hP => ?_⟩
    obtain ⟨c, rfl, hr1⟩ := one_arg hr
    obtain ⟨b, v0, v1, arr, fz, h1, rfl, h2, h3, h4, h5, h6, h7, h8⟩ := tptr_live hh hb hr1
    cases h7
    refine (hfresh b e.w (by rw [cell_of h2, h5]) (by simp [World.shape?, h2, h3]) ?_).mono (fun x w' hx => ?_)
    · obtain ⟨lo, hi⟩ := fz
      simp only [World.frozen?, h2]
      have := h4 0 (Nat.le_refl _) (by omega)
      simp at this ⊢
      exact this
    · obtain ⟨rfl, rfl⟩ := hx
      obtain ⟨s1, s2, s3, s4⟩ := heap_setCell h2 (.pointer (some ⟨b, 0, none⟩)) 0
      have hE := store_evo h1 h2 s1 s2 s3 (by simp) s4
      refine hP (.tuple #[]) { e with w := e.w.setCell ⟨b, 0, none⟩ (.pointer (some ⟨b, 0, none⟩)) } (store_wf hw s1) hE.all (Rel.of_tup RelL.nil) ?_ (fun q hq => hf q (by simpa using hq))
      refine heap_after hw hh hb hE ⟨b, 0, _, el, fz, h1, s3, by simp [h3], by simp only [Array.size_setIfInBounds, h3]; exact h4, fun j x hj => ?_⟩
      match j with
      | 0 =>
        cases hj
        refine ⟨.pointer (some ⟨b, 0, none⟩), by simp [h3], ?_⟩
        have := Rel.ptr (U := U) (e := { e with w := e.w.setCell ⟨b, 0, none⟩ (.pointer (some ⟨b, 0, none⟩)) }) (sz := 2) (i := 0) (o := 0) h1
        simpa using this
      | 1 =>
        cases hj
        exact ⟨v1, by simp [h6], h8.mono hE hw⟩
      | _ + 2 => simp at hj
  · -- a later one
    rename_i k' sz' i' o'
    split at h
    case h_2 => cases h
    rename_i hc
    cases h
    simp only [Bool.and_eq_true] at hc
    obtain ⟨⟨⟨hk, hz⟩, hi⟩, ho⟩ := hc
    have hk := Nat.eq_of_beq_eq_true hk; have hz := Nat.eq_of_beq_eq_true hz; have hi := Nat.eq_of_beq_eq_true hi; have ho := Nat.eq_of_beq_eq_true ho
    subst hk; subst hz; subst hi; subst ho
    refine ⟨Nat.le_refl _, hen, fun e vs hw hh hr hf Post hP => ?_⟩
    obtain ⟨c, rfl, hr1⟩ := one_arg hr
    obtain ⟨b, v0, v1, arr, fz, h1, rfl, h2, h3, h4, h5, h6, h7, h8⟩ := tptr_live hh hb hr1
    rcases h7.ptr_inv with ⟨hd, _⟩ | ⟨b', ob', hm, rfl⟩
    · rw [h1] at hd; cases hd
    rw [h1] at hm; cases hm
    refine (hused b e.w (by rw [cell_of h2, h5]; try simp)).mono (fun x w' hx => ?_)
    obtain ⟨rfl, rfl⟩ := hx
    exact hP (.tuple #[]) e hw (.refl _ _) (Rel.of_tup RelL.nil) hh hf
  · cases h

theorem drew_io (w : World) : w.drew.heap = w.heap ∧ sameIO w w.drew := ⟨rfl, rfl, rfl⟩

theorem heap_freeze {w : World} {g : Nat} {arr : Array Value} {el : TypeId} {fz : Nat × Nat} (h : w.heap[g]? = some (.cells arr el fz)) (n : Nat) :
    (w.freeze ⟨g, 0, none⟩ n).heap.size = w.heap.size ∧ (∀ b', b' ≠ g → (w.freeze ⟨g, 0, none⟩ n).heap[b']? = w.heap[b']?) ∧ (∃ fz', (w.freeze ⟨g, 0, none⟩ n).heap[g]? = some (.cells arr el fz')) ∧ sameIO w (w.freeze ⟨g, 0, none⟩ n) := by
  unfold World.freeze
  split
  · exact ⟨rfl, fun _ _ => rfl, ⟨fz, h⟩, ⟨rfl, rfl⟩⟩
  · refine ⟨by simp, fun b' hb' => ?_, ?_, ⟨rfl, rfl⟩⟩
    · simp only [Array.getElem?_modify]
      rw [if_neg (fun hh => hb' hh.symm)]
    · obtain ⟨lo, hi⟩ := fz
      simp only [Array.getElem?_modify, if_true, h, Option.map_some]
      exact ⟨_, rfl⟩

theorem bldString_spec {f tb tc : TypeId} (hen : Enters P f)
    (hnil : ∀ (b : Nat) (w : World), w.cell? ⟨b, 1, none⟩ = some (.slice none 0 0) → Calls P f #[.pointer (some ⟨b, 0, none⟩)] w fun e w' => e = .returned (.string ⟨#[]⟩) ∧ w' = w.drew)
    (hrow : ∀ (b g cap cells : Nat) (l : List UInt8) (w : World), l ≠ [] → l.length ≤ 140737488355328 → w.cell? ⟨b, 1, none⟩ = some (.slice (some ⟨g, 0, none⟩) l.length cap) → cap ≠ 0 → w.shape? g = some (tc, cells) → l.length ≤ cells →
      (∀ (j : Nat) (x : UInt8), l[j]? = some x → w.cell? ⟨g, j, none⟩ = some (.int .u8 x.toNat)) →
      Calls P f #[.pointer (some ⟨b, 0, none⟩)] w fun e w' => e = .returned (.string ⟨l.toArray⟩) ∧ w' = w.drew.freeze ⟨g, 0, none⟩ l.length) :
    SpecOK (U := U) P f (bldStringS tb tc) := by
  intro args H v H' h
  unfold bldStringS at h
  split at h
  case h_2 => cases h
  rename_i k el
  split at h
  case h_2 => cases h
  rename_i c0 c1 hel hb
  split at h
  · cases h
    refine ⟨Nat.le_refl _, hen, fun e vs hw hh hr hf Post hP => ?_⟩
    obtain ⟨c, rfl, hr1⟩ := one_arg hr
    obtain ⟨b, v0, v1, arr, fz, h1, rfl, h2, h3, h4, h5, h6, h7, h8⟩ := tptr_live hh hb hr1
    cases h8
    refine (hnil b e.w (by rw [cell_of h2, h6])).mono (fun x w' hx => ?_)
    obtain ⟨rfl, rfl⟩ := hx
    have hE : Evo (fun _ => False) e { e with w := e.w.drew } := ⟨Nat.le_refl _, fun _ _ _ => rfl, fun _ arr _ fz h => ⟨arr, fz, h, rfl⟩, fun _ _ h => .inl h, fun _ _ _ => rfl, fun _ _ _ h => .inl h, fun _ h => h, fun _ h => .inl h, ⟨rfl, rfl⟩⟩
    refine hP (.string ⟨#[]⟩) { e with w := e.w.drew } ⟨hw.iLt, hw.mLt, hw.mI, hw.inj⟩ hE.all ?_ (fun q blk hq => (hh q blk hq).mono hE hw id) hf
    exact .str (s := [])
  · rename_i r el'
    split at h
    case h_2 => cases h
    rename_i b0 s hel' hs
    split at h
    case h_2 => cases h
    rename_i hlen
    cases h
    have hel' := Nat.eq_of_beq_eq_true hel'
    subst hel'
    have hlen := Nat.le_of_ble_eq_true hlen
    refine ⟨by simp, hen, fun e vs hw hh hr hf Post hP => ?_⟩
    obtain ⟨c, rfl, hr1⟩ := one_arg hr
    obtain ⟨b, v0, v1, arr, fz, h1, rfl, h2, h3, h4, h5, h6, h7, h8⟩ := tptr_live hh hb hr1
    obtain ⟨g1, g2⟩ := rowBytes_spec hs hh
    obtain ⟨q1, q2⟩ := h8.brow_inv
    rcases mrow_live g1 hh q1 with ⟨a, l', hn, _, _⟩ | ⟨g, ob, cap, hm, rfl, hc, _⟩
    · simp at hn
    obtain ⟨rfl, arr', fz', q3⟩ := q2 g ob hm
    have hsz : (b0 :: s).length ≤ arr'.size := by
      have hj : (b0 :: s).length - 1 < (b0 :: s).length := by simp
      have := g2 g 0 hm ((b0 :: s).length - 1) hj
      rw [cell_of q3] at this
      have := (Array.getElem?_eq_some_iff.1 this).1
      simp at this ⊢; omega
    refine (hrow b g cap arr'.size (b0 :: s) e.w (by simp) hlen (by rw [cell_of h2, h6]) (by have : (b0 :: s).length ≤ cap := hc; simp at this; omega) (by simp [World.shape?, q3]) hsz (fun j x hx => ?_)).mono (fun x w' hx => ?_)
    · obtain ⟨hj, rfl⟩ := List.getElem?_eq_some_iff.1 hx
      have := g2 g 0 hm j hj
      rw [Nat.zero_add] at this; exact this
    · obtain ⟨rfl, rfl⟩ := hx
      obtain ⟨s1, s2, ⟨fz2, s3⟩, s4⟩ := heap_freeze (w := e.w.drew) (g := g) q3 (b0 :: s).length
      have hrl : H.get r ≠ none := by
        intro hn
        unfold rowLen at g1
        rw [hn] at g1; cases g1
      obtain ⟨blk, hblk⟩ := Option.ne_none_iff_exists'.1 hrl
      let e1 : En := { w := e.w.drew.freeze ⟨g, 0, none⟩ (b0 :: s).length, m := fun j => if j = r then some .dead else e.m j, n := e.n, I := e.I }
      have hE : Evo (fun j => j = r) e e1 := by
        refine ⟨by show e.w.heap.size ≤ _; rw [s1]; exact Nat.le_refl _, fun b' hb' hk => ?_, fun b' a2 el2 f2 hh2 => ?_, fun j l hj => ?_, fun _ _ _ => rfl, fun j b' o hj => ?_, fun _ h => h, fun _ h => .inl h, ⟨s4.1, s4.2⟩⟩
        · exact s2 b' (by rintro rfl; exact hk r 0 rfl hm)
        · by_cases hbb : b' = g
          · subst hbb
            rw [q3] at hh2; cases hh2
            exact ⟨arr', fz2, s3, rfl⟩
          · exact ⟨a2, f2, by rw [← hh2]; exact s2 b' hbb, rfl⟩
        · by_cases hjr : j = r
          · exact .inr ⟨hjr, by simp [e1, hjr]⟩
          · exact .inl (by simp [e1, hjr]; exact hj)
        · have hj : (if j = r then some Loc.dead else e.m j) = some (.at b' o) := hj
          split at hj
          · cases hj
          · exact .inl hj
      have hwf : WF e1 := by
        have hmm : ∀ {j b' o}, e1.m j = some (.at b' o) → e.m j = some (.at b' o) := fun {j b' o} hj => by
          have hj : (if j = r then some Loc.dead else e.m j) = some (.at b' o) := hj
          split at hj
          · cases hj
          · exact hj
        exact ⟨fun b' hb' => by show b' < (e.w.drew.freeze ⟨g, 0, none⟩ (b0 :: s).length).heap.size; rw [s1]; exact hw.iLt b' hb', fun j b' o hj => by show b' < (e.w.drew.freeze ⟨g, 0, none⟩ (b0 :: s).length).heap.size; rw [s1]; exact hw.mLt j b' o (hmm hj),
          fun j b' o hj => hw.mI j b' o (hmm hj), fun j j' b' o o' hj hj' => hw.inj j j' b' o o' (hmm hj) (hmm hj')⟩
      refine hP (.string ⟨(b0 :: s).toArray⟩) e1 hwf hE.all ?_ (fun q blk' hq => ?_) (fun q hq => ?_)
      · exact .str (s := b0 :: s)
      · rw [Heap.get_set hblk] at hq
        split at hq
        · cases hq
        · rename_i hne
          exact (hh q blk' hq).mono hE hw hne
      · have hq : H.length ≤ q := by simpa using hq
        have hrlt := Heap.get_lt hblk
        show (if q = r then some Loc.dead else e.m q) = none
        rw [if_neg (by omega)]
        exact hf q hq
  · cases h

end Am
