/- Calls in regions whose order is drawn: what is not named stays out of the call's sight. -/
import Derived.Test.YtlogoccciaopnaaGreatDoorAmQ4
namespace Am
open Go
variable {U : TyU} {R : Type} {P : Program} {G : Env U}

theorem memL_iff {k : Nat} : ∀ {l : List Nat}, mem k l = true ↔ k ∈ l
  | [] => by simp [mem]
  | j :: l => by
    unfold mem
    split
    · rename_i hb
      have := Nat.eq_of_beq_eq_true hb
      subst this; simp
    · rename_i hb
      have : ¬ k = j := by rintro rfl; rw [Nat.beq_refl] at hb; cases hb
      simp [this, memL_iff]

theorem allIn_spec {f : Nat → Bool} : ∀ {l : List Nat}, allIn f l = true → ∀ k ∈ l, f k = true
  | [], _, k, hk => by cases hk
  | j :: l, h, k, hk => by
    unfold allIn at h
    split at h
    · rename_i hj
      rcases List.mem_cons.1 hk with rfl | hk
      · exact hj
      · exact allIn_spec h k hk
    · cases h

theorem refsL_in {l : List (AV U)} {j : Nat} {x : AV U} (hx : l[j]? = some x) {k : Nat} (hk : k ∈ refs x) : k ∈ refsL l := by
  induction l generalizing j with
  | nil => simp at hx
  | cons v l ih =>
    unfold refsL
    cases j with
    | zero => simp at hx; subst hx; exact List.mem_append_left _ hk
    | succ j => exact List.mem_append_right _ (ih (by simpa using hx))

theorem refsLL_in {es : List (List (AV U))} {i : Nat} {x : List (AV U)} (hx : es[i]? = some x) {k : Nat} (hk : k ∈ refsL x) : k ∈ refsLL es := by
  induction es generalizing i with
  | nil => simp at hx
  | cons v l ih =>
    unfold refsLL
    cases i with
    | zero => simp at hx; subst hx; exact List.mem_append_left _ hk
    | succ j => exact List.mem_append_right _ (ih (by simpa using hx))

/-- a value depends on the blocks that it names, and on the frozen ones -/
theorem Rel.on {S : Nat → Prop} {e e' : En} (hw : e'.w = e.w) (hI : ∀ b, e.I b → e'.I b) (hm : ∀ k, S k → e'.m k = e.m k) (hn : ∀ k, S k → e'.n k = e.n k) (hS : ¬ S 1000000)
    {v : AV U} {c : Value} (hr : Rel e v c) : (∀ k ∈ refs v, S k) → Rel e' v c := by
  induction hr with
  | junk => intro _; exact .junk
  | bool => intro _; exact .bool
  | int => intro _; exact .int
  | str => intro _; exact .str
  | nilp => intro _; exact .nilp
  | ptrDead h => intro hs; exact .ptrDead (by rw [hm _ (hs _ (by simp [refs]))]; exact h)
  | ptr h => intro hs; exact .ptr (by rw [hm _ (hs _ (by simp [refs]))]; exact h)
  | fptr hI' hcs _ ih =>
    intro hs
    exact .fptr (hI _ hI') (fun j c hj => by rw [hw]; exact hcs j c hj) (fun j c hj => ih j c hj (fun k hk => hs k (by simpa [refs] using refsL_in hj hk)))
  | nilsl => intro _; exact .nilsl
  | fslE ha => intro _; exact .fslE ha
  | fsl hI' hl hcs _ ih =>
    intro _
    exact .fsl (hI _ hI') hl (fun i x hx j c hj => by rw [hw]; exact hcs i x hx j c hj) (fun i x hx j c hj => ih i x hx j c hj (fun k hk => by rw [refs_enc _ x j c hj] at hk; cases hk))
  | bptr _ _ _ _ => intro hs; exact absurd (hs _ (by simp [refs])) hS
  | bslE => intro hs; exact absurd (hs _ (by simp [refs])) hS
  | bsl _ _ _ _ _ => intro hs; exact absurd (hs _ (by simp [refs])) hS
  | nsl _ ih => intro _; exact .nsl (ih (by simp [refs]))
  | mrowDead h => intro hs; exact .mrowDead (by rw [hm _ (hs _ (by simp [refs]))]; exact h)
  | mrowE h h0 => intro hs; exact .mrowE (by rw [hm _ (hs _ (by simp [refs]))]; exact h) (by rw [hn _ (hs _ (by simp [refs]))]; exact h0)
  | @mrow k sz cap b ob h hl hr =>
    intro hs
    have h2 := hn k (hs k (by simp [refs]))
    rw [← h2]
    exact .mrow (by rw [hm k (hs k (by simp [refs]))]; exact h) (by rw [h2]; exact hl) (by rw [hw]; exact hr)
  | @brow k el c _ hx ih =>
    intro hs
    refine .brow (ih (by simpa [refs] using hs)) fun b o hb => ?_
    rw [hm _ (hs _ (by simp [refs]))] at hb
    rw [hw]; exact hx b o hb
  | @tptr k el c _ hx ih =>
    intro hs
    refine .tptr (ih (by simpa [refs] using hs)) fun b o hb => ?_
    rw [hm _ (hs _ (by simp [refs]))] at hb
    rw [hw]; exact hx b o hb
  | mslDead h hl => intro hs; exact .mslDead (by rw [hm _ (hs _ (by simp [refs]))]; exact h) hl
  | mslE h => intro hs; exact .mslE (by rw [hm _ (hs _ (by simp [refs]))]; exact h)
  | msl h hl hr => intro hs; exact .msl (by rw [hm _ (hs _ (by simp [refs]))]; exact h) hl (by rw [hw]; exact hr)
  | nilmap => intro _; exact .nilmap
  | mapDead h => intro hs; exact .mapDead (by rw [hm _ (hs _ (by simp [refs]))]; exact h)
  | map h => intro hs; exact .map (by rw [hm _ (hs _ (by simp [refs]))]; exact h)
  | fn ha hb _ _ iha ihb =>
    intro hs
    exact .fn ha hb (fun j x v hx hv => iha j x v hx hv (fun k hk => hs k (by simp only [refs]; exact List.mem_append_left _ (refsL_in hx hk))))
      (fun j x v hx hv => ihb j x v hx hv (fun k hk => hs k (by simp only [refs]; exact List.mem_append_right _ (refsL_in hx hk))))
  | nilfn => intro _; exact .nilfn
  | iface _ ih => intro hs; exact .iface (ih (by simpa [refs] using hs))
  | nilif => intro _; exact .nilif
  | agg hl _ ih => intro hs; exact .agg hl (fun j x v hx hv => ih j x v hx hv (fun k hk => hs k (by simpa [refs] using refsL_in hx hk)))
  | tup hl _ ih => intro hs; exact .tup hl (fun j x v hx hv => ih j x v hx hv (fun k hk => hs k (by simpa [refs] using refsL_in hx hk)))

theorem refs_encV (t : U.T) (x : U.den t) : refs (encV t x) = [] := by
  unfold encV
  split
  · have : ∀ l : List (AV U), (∀ (j : Nat) (y : AV U), l[j]? = some y → refs y = []) → refsL l = [] := by
      intro l
      induction l with
      | nil => intro _; rfl
      | cons v l ih =>
        intro h
        unfold refsL
        rw [h 0 v rfl, ih (fun j y hy => h (j + 1) y (by simpa using hy))]; rfl
    simp only [refs]
    exact this _ (fun j y hy => refs_enc t x j y hy)
  · cases h : enc t x with
    | nil => rfl
    | cons y l => exact refs_enc t x 0 y (by rw [h]; rfl)

theorem BlkOK.on {S : Nat → Prop} {e e' : En} (hw : e'.w = e.w) (hI : ∀ b, e.I b → e'.I b) (hm : ∀ k, S k → e'.m k = e.m k) (hn : ∀ k, S k → e'.n k = e.n k) (hS : ¬ S 1000000)
    {k : Nat} {b : Blk U} (hk : S k) (hb : BlkOK e k b) (hr : ∀ j ∈ refsB b, S j) : BlkOK e' k b := by
  have cells : ∀ {arr : Array Value} {ob : Nat} {cs : List (AV U)}, (∀ j ∈ refsL cs, S j) → CellsAt e arr ob cs → CellsAt e' arr ob cs := fun hcs h j c hj =>
    let ⟨v, v1, v2⟩ := h j c hj
    ⟨v, v1, v2.on hw hI hm hn hS (fun q hq => hcs q (refsL_in hj hq))⟩
  have none0 : ∀ {t : U.T} {x : U.den t}, ∀ j ∈ refsL (enc t x), S j := by
    intro t x j hj
    have : ∀ l : List (AV U), (∀ (i : Nat) (y : AV U), l[i]? = some y → refs y = []) → j ∈ refsL l → False := by
      intro l
      induction l with
      | nil => intro _ h; cases h
      | cons v l ih =>
        intro h h2
        unfold refsL at h2
        rw [h 0 v rfl] at h2
        exact ih (fun i y hy => h (i + 1) y (by simpa using hy)) (by simpa using h2)
    exact absurd hj (this _ (fun i y hy => refs_enc t x i y hy))
  cases b with
  | box cs =>
    obtain ⟨b, ob, arr, el, fz, h1, h2, h3, h4, h5⟩ := hb
    exact ⟨b, ob, arr, el, fz, by rw [hm k hk]; exact h1, by rw [hw]; exact h2, h3, h4, cells hr h5⟩
  | row t xs =>
    obtain ⟨h0, hb⟩ := hb
    refine ⟨by rw [hn k hk]; exact h0, ?_⟩
    rw [hm k hk]
    rcases hb with hb | ⟨b, ob, arr, el, fz, h1, h2, h3, h4, h5⟩
    · exact .inl hb
    · exact .inr ⟨b, ob, arr, el, fz, h1, by rw [hw]; exact h2, h3, h4, fun i x hx => cells none0 (h5 i x hx)⟩
  | urow sz es =>
    obtain ⟨h0, hb⟩ := hb
    refine ⟨by rw [hn k hk]; exact h0, ?_⟩
    rw [hm k hk]
    rcases hb with hb | ⟨b, ob, arr, el, fz, h1, h2, h3, h4, h5⟩
    · exact .inl hb
    · exact .inr ⟨b, ob, arr, el, fz, h1, by rw [hw]; exact h2, h3, h4, fun i x hx => ⟨(h5 i x hx).1, (h5 i x hx).2.1, cells (fun j hj => hr j (refsLL_in hx hj)) (h5 i x hx).2.2⟩⟩
  | tm kt vt es =>
    obtain ⟨b, ob, ents, clock, h1, h2, h3, h4⟩ := hb
    exact ⟨b, ob, ents, clock, by rw [hm k hk]; exact h1, by rw [hw]; exact h2, h3, fun i p hp => let ⟨en, a, r1, r2⟩ := h4 i p hp
      ⟨en, a, r1.on hw hI hm hn hS (fun q hq => by rw [refs_encV] at hq; cases hq), r2.on hw hI hm hn hS (fun q hq => by rw [refs_encV] at hq; cases hq)⟩⟩

theorem closedAt_spec {H : Heap U} {ids : List Nat} : ∀ {l : List Nat}, closedAt H ids l = true → ∀ k ∈ l, ∃ b, H.get k = some b ∧ ∀ j ∈ refsB b, mem j ids = true
  | [], _, k, hk => by cases hk
  | i :: l, h, k, hk => by
    unfold closedAt at h
    split at h
    · rename_i b hb
      split at h
      · rename_i ha
        rcases List.mem_cons.1 hk with rfl | hk
        · exact ⟨b, hb, allIn_spec ha⟩
        · exact closedAt_spec h k hk
      · cases h
    · cases h

theorem closedFrom_spec {f : Nat → Bool} : ∀ {H : Heap U} {i : Nat}, closedFrom f H i = true → ∀ k b, H.get k = some b → f (i + k) = true ∧ ∀ j ∈ refsB b, f j = true
  | [], i, _, k, b, hb => by simp [Heap.get] at hb
  | none :: l, i, h, k, b, hb => by
    cases k with
    | zero => simp [Heap.get] at hb
    | succ k =>
      have := closedFrom_spec (H := l) (i := i + 1) h k b (by simpa [Heap.get] using hb)
      rw [show i + (k + 1) = i + 1 + k by omega]; exact this
  | some b0 :: l, i, h, k, b, hb => by
    unfold closedFrom at h
    split at h
    · rename_i h0
      rw [Bool.and_eq_true] at h0
      cases k with
      | zero => simp [Heap.get] at hb; subst hb; exact ⟨h0.1, allIn_spec h0.2⟩
      | succ k =>
        have := closedFrom_spec (H := l) (i := i + 1) h k b (by simpa [Heap.get] using hb)
        rw [show i + (k + 1) = i + 1 + k by omega]; exact this
    · cases h

theorem callFoot_spec {op : Op} {fr : List (AV U)} {H : Heap U} {ids : List Nat} (h : callFoot op fr H = some ids) :
    (∀ k, mem k ids = true → ∃ b, H.get k = some b ∧ ∀ j ∈ refsB b, mem j ids = true) ∧ ∀ k ∈ refsL fr, mem k ids = true := by
  unfold callFoot at h
  split at h
  · dsimp only at h
    split at h
    · rename_i hc
      cases h
      rw [Bool.and_eq_true] at hc
      exact ⟨fun k hk => closedAt_spec hc.1 k (memL_iff.1 hk), allIn_spec hc.2⟩
    · cases h
  · cases h

/-- the caller's view, cut down to the blocks of the call -/
def En.cut (e : En) (S : Nat → Bool) : En := { w := e.w, m := fun k => if S k = true then e.m k else none, n := e.n, I := e.I }

theorem En.cut_wf {e : En} (hw : WF e) (S : Nat → Bool) : WF (e.cut S) := by
  have hm : ∀ {k b o}, (e.cut S).m k = some (.at b o) → e.m k = some (.at b o) := fun {k b o} h => by
    simp only [En.cut] at h
    split at h
    · exact h
    · cases h
  exact ⟨hw.iLt, fun k b o h => hw.mLt k b o (hm h), fun k b o h => hw.mI k b o (hm h), fun k k' b o o' h h' => hw.inj k k' b o o' (hm h) (hm h')⟩

/-- the caller's view behind the call -/
def En.back (e e1 : En) (S : Nat → Bool) : En := { w := e1.w, m := fun k => if S k = true then e1.m k else e.m k, n := fun k => if S k = true then e1.n k else e.n k, I := e1.I }

theorem En.back_ok {e e1 : En} {S T : Nat → Bool} (hw : WF e) (hw1 : WF e1) (hE : Evo allD (e.cut S) e1) (hST : ∀ k, S k = true → T k = true) (hT : ∀ k, T k = true → S k = true ∨ e.m k = none) :
    WF (e.back e1 T) ∧ Evo (fun k => S k = true) e (e.back e1 T) := by
  have hsz : e.w.heap.size ≤ e1.w.heap.size := hE.size
  have hcut : ∀ {k b o}, (e.cut S).m k = some (.at b o) → S k = true ∧ e.m k = some (.at b o) := fun {k b o} h => by
    simp only [En.cut] at h
    split at h
    · rename_i hs; exact ⟨hs, h⟩
    · cases h
  -- a block of the call's behind it is one of the call's ahead of it, or new
  have src : ∀ {k b o}, e1.m k = some (.at b o) → (∃ k2 o2, S k2 = true ∧ e.m k2 = some (.at b o2)) ∨ e.w.heap.size ≤ b := fun {k b o} h => by
    rcases hE.new k b o h with h1 | h1 | ⟨k2, o2, _, h1⟩
    · exact .inl ⟨k, o, hcut h1⟩
    · exact .inr h1
    · exact .inl ⟨k2, o2, hcut h1⟩
  have out : ∀ {k b o}, T k ≠ true → e.m k = some (.at b o) → ∀ {k2 o2}, e1.m k2 = some (.at b o2) → False := fun {k b o} hk h {k2 o2} h2 => by
    rcases src h2 with ⟨k3, o3, h3, h4⟩ | h3
    · have := hw.inj k k3 b o o3 h h4
      subst this; exact hk (hST _ h3)
    · have := hw.mLt k b o h; omega
  constructor
  · refine ⟨hw1.iLt, fun k b o h => ?_, fun k b o h hb => ?_, fun k k' b o o' h h' => ?_⟩
    · simp only [En.back] at h
      split at h
      · exact hw1.mLt k b o h
      · exact Nat.lt_of_lt_of_le (hw.mLt k b o h) hsz
    · simp only [En.back] at h hb
      split at h
      · exact hw1.mI k b o h hb
      · rename_i hk
        rcases hE.iNew b hb with h1 | h1 | ⟨k2, o2, _, h1⟩
        · exact hw.mI k b o h h1
        · have := hw.mLt k b o h
          have h1 : e.w.heap.size ≤ b := h1
          omega
        · obtain ⟨h2, h3⟩ := hcut h1
          have := hw.inj k k2 b o o2 h h3
          subst this; exact hk (hST _ h2)
    · simp only [En.back] at h h'
      split at h
      · split at h'
        · exact hw1.inj k k' b o o' h h'
        · rename_i hk'; exact (out hk' h' h).elim
      · rename_i hk
        split at h'
        · exact (out hk h h').elim
        · exact hw.inj k k' b o o' h h'
  · refine ⟨hsz, fun b hb hk => ?_, hE.shape, fun k l hl => ?_, fun k l hl => ?_, fun k b o h => ?_, fun b hb => hE.iOld b hb, fun b hb => ?_, hE.io⟩
    · exact hE.keep b hb (fun k o _ hm => let ⟨h1, h2⟩ := hcut hm; hk k o h1 h2)
    · simp only [En.back]
      split
      · rename_i hk
        rcases hT k hk with hs | hs
        · have h0 : (e.cut S).m k = some l := by simp only [En.cut, hs, if_true]; exact hl
          rcases hE.old k l h0 with h1 | ⟨_, h1⟩
          · exact .inl h1
          · exact .inr ⟨hs, h1⟩
        · rw [hs] at hl; cases hl
      · exact .inl hl
    · simp only [En.back]
      split
      · rename_i hk
        rcases hT k hk with hs | hs
        · exact hE.len k l (by simp only [En.cut, hs, if_true]; exact hl)
        · rw [hs] at hl; cases hl
      · rfl
    · simp only [En.back] at h
      split at h
      · rcases src h with ⟨k2, o2, h1, h2⟩ | h1
        · exact .inr (.inr ⟨k2, o2, h1, h2⟩)
        · exact .inr (.inl h1)
      · exact .inl h
    · rcases hE.iNew b hb with h1 | h1 | ⟨k2, o2, _, h1⟩
      · exact .inl h1
      · exact .inr (.inl h1)
      · exact .inr (.inr ⟨k2, o2, hcut h1⟩)

end Am
