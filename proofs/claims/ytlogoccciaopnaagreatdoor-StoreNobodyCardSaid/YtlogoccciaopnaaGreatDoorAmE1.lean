/- Descriptors: the laws. -/
import Derived.Test.YtlogoccciaopnaaGreatDoorAmD
import Derived.Test.YtlogoccciaopnaaGreatDoorAmQ6
namespace Am
open Go
variable {U : TyU} {R : Type} {P : Program} {G : Env U}

/-- worlds, whatever the blocks are called -/
structure WEvo (e e' : En) : Prop where
  size : e.w.heap.size ≤ e'.w.heap.size
  keep : ∀ b, b < e.w.heap.size → (∀ k o, e.m k ≠ some (.at b o)) → e'.w.heap[b]? = e.w.heap[b]?
  shape : ∀ (b : Nat) (arr : Array Value) (el : TypeId) (fz : Nat × Nat), e.w.heap[b]? = some (.cells arr el fz) → ∃ (arr' : Array Value) (fz' : Nat × Nat), e'.w.heap[b]? = some (.cells arr' el fz') ∧ arr'.size = arr.size
  new : ∀ k b o, e'.m k = some (.at b o) → e.w.heap.size ≤ b ∨ ∃ k2 o2, e.m k2 = some (.at b o2)
  iOld : ∀ b, e.I b → e'.I b
  iNew : ∀ b, e'.I b → e.I b ∨ e.w.heap.size ≤ b ∨ ∃ k2 o2, e.m k2 = some (.at b o2)
  io : sameIO e.w e'.w

theorem Evo.toW {e e' : En} (h : Evo allD e e') : WEvo e e' :=
  ⟨h.size, fun b hb hk => h.keep b hb (fun k o _ => hk k o), h.shape, fun k b o hm => by
    rcases h.new k b o hm with h1 | h1 | ⟨k2, o2, _, h1⟩
    · exact .inr ⟨k, o, h1⟩
    · exact .inl h1
    · exact .inr ⟨k2, o2, h1⟩, h.iOld, fun b hb => (h.iNew b hb).imp id (Or.imp id fun ⟨k2, o2, _, h1⟩ => ⟨k2, o2, h1⟩), h.io⟩

theorem WEvo.trans {e e1 e2 : En} (h : WEvo e e1) (h' : WEvo e1 e2) : WEvo e e2 where
  size := Nat.le_trans h.size h'.size
  keep b hb hk := by
    rw [h'.keep b (Nat.lt_of_lt_of_le hb h.size) ?_, h.keep b hb hk]
    intro k o hm
    rcases h.new k b o hm with h1 | ⟨k2, o2, h1⟩
    · omega
    · exact hk k2 o2 h1
  shape b arr el fz hh := by
    obtain ⟨a1, f1, h1, s1⟩ := h.shape b arr el fz hh
    obtain ⟨a2, f2, h2, s2⟩ := h'.shape b a1 el f1 h1
    exact ⟨a2, f2, h2, s2.trans s1⟩
  new k b o hm := by
    rcases h'.new k b o hm with h1 | ⟨k2, o2, h1⟩
    · exact .inl (Nat.le_trans h.size h1)
    · exact h.new k2 b o2 h1
  iOld b hb := h'.iOld b (h.iOld b hb)
  iNew b hb := by
    rcases h'.iNew b hb with h1 | h1 | ⟨k2, o2, h1⟩
    · exact h.iNew b h1
    · exact .inr (.inl (Nat.le_trans h.size h1))
    · exact .inr (h.new k2 b o2 h1)
  io := h.io.trans h'.io

def En.pull (e : En) (ρ : List (Option Nat)) : En :=
  { w := e.w
    m := fun j => match ρ[j]? with | some (some k) => e.m k | some none => some .virt | none => none
    n := fun j => match ρ[j]? with | some (some k) => e.n k | _ => 0
    I := e.I }

theorem pull_wevo (e : En) (ρ : List (Option Nat)) : WEvo e (e.pull ρ) :=
  ⟨Nat.le_refl _, fun _ _ _ => rfl, fun b arr el fz h => ⟨arr, fz, h, rfl⟩, (by
    intro k b o hm
    simp only [En.pull] at hm
    split at hm
    · rename_i k2 _; exact .inr ⟨k2, o, hm⟩
    · cases hm
    · cases hm), fun _ h => h, fun _ h => .inl h, ⟨rfl, rfl⟩⟩

theorem somes_mem {k : Nat} : ∀ {ρ : List (Option Nat)}, mem k (somes ρ) = true ↔ ∃ j : Nat, ρ[j]? = some (some k)
  | [] => by simp [somes, mem]
  | some k' :: l => by
    unfold somes
    rw [mem_iff, List.mem_cons, ← mem_iff, somes_mem]
    constructor
    · rintro (rfl | ⟨j, hj⟩)
      · exact ⟨0, rfl⟩
      · exact ⟨j + 1, by simpa using hj⟩
    · rintro ⟨j, hj⟩
      cases j with
      | zero => simp at hj; exact .inl hj.symm
      | succ j => exact .inr ⟨j, by simpa using hj⟩
  | none :: l => by
    unfold somes
    rw [somes_mem]
    constructor
    · rintro ⟨j, hj⟩; exact ⟨j + 1, by simpa using hj⟩
    · rintro ⟨j, hj⟩
      cases j with
      | zero => simp at hj
      | succ j => exact ⟨j, by simpa using hj⟩

theorem distinct_inj : ∀ {ρ : List (Option Nat)}, distinct (somes ρ) = true → ∀ (i j k : Nat), ρ[i]? = some (some k) → ρ[j]? = some (some k) → i = j
  | [], _, i, j, k, hi, _ => by simp at hi
  | none :: l, h, i, j, k, hi, hj => by
    unfold somes at h
    cases i with
    | zero => simp at hi
    | succ i =>
      cases j with
      | zero => simp at hj
      | succ j => rw [distinct_inj h i j k (by simpa using hi) (by simpa using hj)]
  | some k' :: l, h, i, j, k, hi, hj => by
    unfold somes at h
    unfold distinct at h
    split at h
    · cases h
    rename_i hm
    have no : ∀ q : Nat, l[q]? ≠ some (some k') := fun q hq => by rw [somes_mem.2 ⟨q, hq⟩] at hm; cases hm
    cases i with
    | zero =>
      simp at hi; subst hi
      cases j with
      | zero => rfl
      | succ j => exact absurd (by simpa using hj) (no j)
    | succ i =>
      cases j with
      | zero => simp at hj; subst hj; exact absurd (by simpa using hi) (no i)
      | succ j => rw [distinct_inj h i j k (by simpa using hi) (by simpa using hj)]

theorem pull_wf {e : En} {ρ : List (Option Nat)} (hw : WF e) (hd : distinct (somes ρ) = true) : WF (e.pull ρ) where
  iLt := hw.iLt
  mLt k b o hm := by
    simp only [En.pull] at hm
    split at hm
    · rename_i k2 _; exact hw.mLt k2 b o hm
    · cases hm
    · cases hm
  mI k b o hm := by
    simp only [En.pull] at hm
    split at hm
    · rename_i k2 _; exact hw.mI k2 b o hm
    · cases hm
    · cases hm
  inj i j b o o' hi hj := by
    simp only [En.pull] at hi hj
    split at hi
    · rename_i k1 h1
      split at hj
      · rename_i k2 h2
        have := hw.inj k1 k2 b o o' hi hj
        subst this
        exact distinct_inj hd i j k1 h1 h2
      · cases hj
      · cases hj
    · cases hi
    · cases hi

theorem unitIf_inv {b : Bool} {u : Unit} (h : unitIf b = some u) : b = true := by
  cases b
  · cases h
  · rfl

theorem isAt_inv {ρ : List (Option Nat)} {j k : Nat} (h : isAt ρ j k = true) : ρ[j]? = some (some k) := by
  unfold isAt at h
  split at h
  · rename_i k' hk
    rw [hk, Nat.eq_of_beq_eq_true h]
  · cases h

theorem isVirt_inv {ρ : List (Option Nat)} {j : Nat} (h : isVirt ρ j = true) : ρ[j]? = some none := by
  unfold isVirt at h
  split at h
  · rename_i hk; exact hk
  · cases h

theorem encC_refs (c : Cell U.T) (x : c.den U.toTyU0) : refs (encC c x) = [] := refs_encC c x

theorem refsL_of {l : List (AV U)} (h : ∀ (j : Nat) (x : AV U), l[j]? = some x → refs x = []) : refsL l = [] := by
  induction l with
  | nil => rfl
  | cons v l ih => unfold refsL; rw [h 0 v rfl, ih (fun j x hx => h (j + 1) x (by simpa using hx))]; rfl

theorem encV_refs (t : U.T) (x : U.den t) : refs (encV t x) = [] := by
  unfold encV
  split
  · unfold refs; exact refsL_of (fun j y hy => refs_enc t x j y hy)
  · cases hh : enc t x with
    | nil => rfl
    | cons y l => exact refs_enc t x 0 y (by rw [hh]; rfl)

theorem ptr_pull {e : En} {ρ : List (Option Nat)} {j k sz i o : Nat} (h : isAt ρ j k = true) {c : Value} (hr : Rel (U := U) e (.ptr k sz i o) c) : Rel (U := U) (e.pull ρ) (.ptr j sz i o) c := by
  have hm : (e.pull ρ).m j = e.m k := by simp [En.pull, isAt_inv h]
  cases hr with
  | ptrDead hd => exact .ptrDead (by rw [hm]; exact hd)
  | ptr hd => exact .ptr (by rw [hm]; exact hd)

theorem matchPs_rel {e : En} {ρ : List (Option Nat)} : ∀ {ps : List (Nat × Nat × Nat × Nat)} {cs : List (AV U)} {vs : List Value}, matchPs ρ ps cs = true → RelL e cs vs → RelL (U := U) (e.pull ρ) (encPs ps) vs
  | [], [], vs, _, hr => by rw [hr.nil_inv]; exact RelL.nil
  | [], _ :: _, _, h, _ => by simp [matchPs] at h
  | (j, sz, i, o) :: l, cs, vs, h, hr => by
    unfold matchPs at h
    split at h
    · rename_i heq; cases heq
    · rename_i j' sz' i' o' l' k sz2 i2 o2 r heq
      cases heq
      simp only [Bool.and_eq_true] at h
      obtain ⟨⟨⟨⟨h1, h2⟩, h3⟩, h4⟩, h5⟩ := h
      have h2 := Nat.eq_of_beq_eq_true h2; have h3 := Nat.eq_of_beq_eq_true h3; have h4 := Nat.eq_of_beq_eq_true h4
      subst h2; subst h3; subst h4
      obtain ⟨v, rest, rfl, g1, g2⟩ := hr.cons_inv
      exact RelL.cons (ptr_pull h1 g1) (matchPs_rel h5 g2)
    · cases h

theorem fpull {e : En} {ρ : List (Option Nat)} {v : AV U} {c : Value} (hr : Rel e v c) (hn : refs v = []) : Rel (e.pull ρ) v c := hr.still (e := e) (e' := e.pull ρ) (fun _ h => h) (fun _ _ => rfl) hn

theorem matchFPs_rel {e : En} {ρ : List (Option Nat)} : ∀ {l : List (U.T × Nat)} {cs : List (AV U)} {x : FPs l} {vs : List Value}, matchFPs l cs = some x → RelL e cs vs → RelL (U := U) (e.pull ρ) (encFPs l x) vs
  | [], [], _, vs, _, hr => by rw [hr.nil_inv]; exact RelL.nil
  | [], _ :: _, _, _, h, _ => by simp [matchFPs] at h
  | d :: l, cs, x, vs, h, hr => by
    cases cs with
    | nil => cases h
    | cons a r =>
    cases a <;> first | (exfalso; have h : (none : Option (FPs (d :: l))) = some x := h; cases h; done) | skip
    · rename_i cs' o
      have h : (match Nat.beq d.2 o with
        | true => match dec d.1 cs' with
          | some x => match matchFPs l r with
            | some y => (some (x, y) : Option (FPs (d :: l)))
            | none => none
          | none => none
        | false => none) = some x := h
      split at h
      · rename_i ho
        split at h
        · rename_i y hy
          split at h
          · rename_i z hz
            cases h
            have ho : d.2 = o := Nat.eq_of_beq_eq_true ho
            obtain ⟨v, rest, rfl, g1, g2⟩ := hr.cons_inv
            refine RelL.cons (fpull ?_ (refsL_of fun j c hc => refs_enc _ _ j c hc)) (matchFPs_rel hz g2)
            rw [ho]
            obtain ⟨b, ob, rfl, hI, hc⟩ := g1.fptr_inv
            obtain ⟨q1, q2⟩ := dec_sound hy
            refine Rel.mk_fptr hI (fun j c hj => ?_)
            have hj2 : j < cs'.length := by rw [q1, ← enc_length d.1 y]; exact (List.getElem?_eq_some_iff.1 hj).1
            obtain ⟨v, v1, v2⟩ := hc j cs'[j] (by simp [hj2])
            exact ⟨v, v1, q2 e j c cs'[j] v hj (by simp [hj2]) v2⟩
          · cases h
        · cases h
      · cases h

/-- a value of a descriptor's -/
theorem matchVD_rel {e : En} {ρ : List (Option Nat)} {d : VD U} {v : AV U} {x : d.den} (h : matchVD ρ d v = some x) {c : Value} (hr : Rel e v c) : Rel (e.pull ρ) (encVD d x) c := by
  have still : ∀ {v : AV U}, Rel e v c → refs v = [] → Rel (e.pull ρ) v c := fun hr hn => hr.still (e := e) (e' := e.pull ρ) (fun _ h => h) (fun _ _ => rfl) hn
  have still' : ∀ {v : AV U} {c : Value}, Rel e v c → refs v = [] → Rel (e.pull ρ) v c := fun hr hn => hr.still (e := e) (e' := e.pull ρ) (fun _ h => h) (fun _ _ => rfl) hn
  have pm : ∀ {j k : Nat}, ρ[j]? = some (some k) → (e.pull ρ).m j = e.m k ∧ (e.pull ρ).n j = e.n k := fun hj => by simp [En.pull, hj]
  cases d with
  | ty t => exact still (decV_sound (show decV t v = some x from h) hr) (encV_refs _ _)
  | cell cc => exact still (decC_sound (show decC cc v = some x from h) hr) (encC_refs _ _)
  | ptr j sz i o =>
    cases v <;> first | (exfalso; have h : (none : Option Unit) = some x := h; cases h; done) | skip
    rename_i k sz' i' o'
    have hb := unitIf_inv (show unitIf (isAt ρ j k && Nat.beq sz sz' && Nat.beq i i' && Nat.beq o o') = some x from h)
    simp only [Bool.and_eq_true] at hb
    obtain ⟨⟨⟨h1, h2⟩, h3⟩, h4⟩ := hb
    have h2 := Nat.eq_of_beq_eq_true h2; have h3 := Nat.eq_of_beq_eq_true h3; have h4 := Nat.eq_of_beq_eq_true h4
    subst h2; subst h3; subst h4
    have hm := pm (isAt_inv h1)
    show Rel (e.pull ρ) (.ptr _ _ _ _) c
    cases hr with
    | ptrDead hd => exact .ptrDead (by rw [hm.1]; exact hd)
    | ptr hd => exact .ptr (by rw [hm.1]; exact hd)
  | row j sz =>
    cases v <;> first | (exfalso; have h : (none : Option Unit) = some x := h; cases h; done) | skip
    · have hv := isVirt_inv (unitIf_inv (show unitIf (isVirt ρ j) = some x from h))
      cases hr
      show Rel (e.pull ρ) (.mrow _ _) _
      exact .mrowE (l := .virt) (by simp [En.pull, hv]) (by simp [En.pull, hv])
    · rename_i k sz'
      have hb := unitIf_inv (show unitIf (isAt ρ j k && Nat.beq sz sz') = some x from h)
      simp only [Bool.and_eq_true] at hb
      obtain ⟨h1, h2⟩ := hb
      have h2 := Nat.eq_of_beq_eq_true h2
      subst h2
      have hm := pm (isAt_inv h1)
      show Rel (e.pull ρ) (.mrow _ _) c
      cases hr with
      | mrowDead hd => exact .mrowDead (by rw [hm.1]; exact hd)
      | mrowE hd hn => exact .mrowE (by rw [hm.1]; exact hd) (by rw [hm.2]; exact hn)
      | mrow hd hl hf =>
        rw [← hm.2]
        exact .mrow (by rw [hm.1]; exact hd) (by rw [hm.2]; exact hl) hf
  | map j =>
    cases v <;> first | (exfalso; have h : (none : Option Unit) = some x := h; cases h; done) | skip
    rename_i k
    have hm := pm (isAt_inv (unitIf_inv (show unitIf (isAt ρ j k) = some x from h)))
    show Rel (e.pull ρ) (.map _) c
    cases hr with
    | mapDead hd => exact .mapDead (by rw [hm.1]; exact hd)
    | map hd => exact .map (by rw [hm.1]; exact hd)
  | nilp =>
    cases v <;> first | (exfalso; have h : (none : Option Unit) = some x := h; cases h; done) | skip
    cases hr; exact .nilp
  | fn g ps =>
    cases v <;> first | (exfalso; have h : (none : Option Unit) = some x := h; cases h; done) | skip
    rename_i f a cs
    cases f <;> first | (exfalso; have h : (none : Option Unit) = some x := h; cases h; done) | skip
    rename_i g'
    cases a <;> first | (exfalso; have h : (none : Option Unit) = some x := h; cases h; done) | skip
    have hb := unitIf_inv (show unitIf (Nat.beq g g' && matchPs ρ ps cs) = some x from h)
    rw [Bool.and_eq_true] at hb
    obtain ⟨h1, h2⟩ := hb
    have h1 := Nat.eq_of_beq_eq_true h1
    subst h1
    obtain ⟨va, vb, rfl, ha, hb⟩ := hr.fn_inv
    exact RelL.mk_fn ⟨ha.1, fun j y v hy => by simp at hy⟩ (matchPs_rel h2 hb)
  | fnt g l =>
    cases v <;> first | (exfalso; have h : (none : Option (FPs l)) = some x := h; cases h; done) | skip
    rename_i f a cs
    cases f <;> first | (exfalso; have h : (none : Option (FPs l)) = some x := h; cases h; done) | skip
    rename_i g'
    cases a <;> first | (exfalso; have h : (none : Option (FPs l)) = some x := h; cases h; done) | skip
    have h2 : (match Nat.beq g g' with | true => matchFPs l cs | false => none) = some x := h
    clear h
    split at h2
    · rename_i h1
      have h1 := Nat.eq_of_beq_eq_true h1
      subst h1
      obtain ⟨va, vb, rfl, ha, hb⟩ := hr.fn_inv
      exact RelL.mk_fn ⟨ha.1, fun j y v hy => by simp at hy⟩ (matchFPs_rel h2 hb)
    · cases h2
  | bor t =>
    cases v <;> first | (exfalso; have h : (none : Option (List (U.den t))) = some x := h; cases h; done) | skip
    rename_i t' xs
    have h2 : (match U.deq t' t with | .isTrue h => some (h ▸ xs) | .isFalse _ => (none : Option (List (U.den t)))) = some x := h
    clear h
    split at h2
    · rename_i ht _
      subst ht
      cases h2
      show Rel (e.pull ρ) (.bsl t' xs) c
      cases hr with
      | bslE => exact .bslE
      | bsl hq hl hc hr' =>
        refine .bsl ⟨hq.1, fun k o hm => ?_⟩ hl hc (fun i y hy j z hz => still' (hr' i y hy j z hz) (refs_enc _ _ j z hz))
        simp only [En.pull] at hm
        split at hm
        · exact hq.2 _ _ hm
        · cases hm
        · cases hm
    · cases h2

theorem matchVDs_rel {e : En} {ρ : List (Option Nat)} : ∀ {l : List (VD U)} {vs : List (AV U)} {x : VDs l}, matchVDs ρ l vs = some x →
    (encVDs l x).length = vs.length ∧ ∀ (j : Nat) (y : AV U), (encVDs l x)[j]? = some y → ∃ v, vs[j]? = some v ∧ ∀ c, Rel e v c → Rel (e.pull ρ) y c
  | [], [], _, _ => ⟨rfl, by simp [encVDs]⟩
  | [], _ :: _, _, h => by simp [matchVDs] at h
  | _ :: _, [], _, h => by simp [matchVDs] at h
  | d :: l, v :: vs, x, h => by
    unfold matchVDs at h
    split at h
    · rename_i a ha
      split at h
      · rename_i b hb
        cases h
        obtain ⟨h1, h2⟩ := matchVDs_rel hb
        refine ⟨by simp [encVDs, h1], fun j y hy => ?_⟩
        cases j with
        | zero => simp [encVDs] at hy; subst hy; exact ⟨v, rfl, fun c hc => matchVD_rel ha hc⟩
        | succ j => obtain ⟨v', g1, g2⟩ := h2 j y (by simpa [encVDs] using hy); exact ⟨v', by simpa using g1, g2⟩
      · cases h
    · cases h

theorem matchSlots_rel {e : En} {ρ : List (Option Nat)} {fr : List (AV U)} {t : Array Value} (hf : FrRel e fr t) : ∀ (l : List (Nat × VD U)) (x : Slots l) (fr0 : List (AV U)), matchSlots ρ fr l = some x → FrRel (e.pull ρ) fr0 t →
    FrRel (e.pull ρ) (encSlots l x fr0) t
  | [], _, fr0, _, h0 => h0
  | d :: l, x, fr0, h, h0 => by
    unfold matchSlots at h
    split at h
    · rename_i a ha
      split at h
      · rename_i b hb
        cases h
        refine matchSlots_rel hf l b _ hb (h0.set (fun c hc => ?_))
        refine matchVD_rel ha ?_
        rw [List.getD_eq_getElem?_getD]
        cases hx : fr[d.1]? with
        | none => exact .junk
        | some v =>
          obtain ⟨c', g1, g2⟩ := RelL.get hf hx
          have g1 : t[d.1]? = some c' := by simpa using g1
          rw [hc] at g1; cases g1
          exact g2
      · cases h
    · cases h

theorem junk_fr {e : En} {t : Array Value} {n : Nat} (h : n = t.size) : FrRel (U := U) e (List.replicate n .junk) t := by
  refine ⟨by simp [h], fun j x v hx hv => ?_⟩
  rw [List.getElem?_replicate] at hx
  split at hx
  · cases hx; exact .junk
  · cases hx

theorem matchBD_ok {e : En} {ρ : List (Option Nat)} {H : Heap U} (hh : HeapRel e H.get) {j : Nat} {d : BD U} {o : Option Nat} (hj : ρ[j]? = some o) {x : d.den} (h : matchBD ρ H d o = some x) :
    BlkOK (e.pull ρ) j (encBD d x) := by
  have pm : ∀ {j k : Nat}, ρ[j]? = some (some k) → (e.pull ρ).m j = e.m k ∧ (e.pull ρ).n j = e.n k := fun hj => by simp [En.pull, hj]
  have still : ∀ {v : AV U} {c : Value}, Rel e v c → refs v = [] → Rel (e.pull ρ) v c := fun hr hn => hr.still (e := e) (e' := e.pull ρ) (fun _ h => h) (fun _ _ => rfl) hn
  cases d with
  | tbox t =>
    cases o with
    | none => exfalso; have h : (none : Option (U.den t)) = some x := h; cases h
    | some k =>
      have h : (match H.get k with | some (.box cs) => dec t cs | _ => none) = some x := h
      cases hb : H.get k with
      | none => rw [hb] at h; cases h
      | some blk =>
        rw [hb] at h
        cases blk with
        | box cs =>
          have h : dec t cs = some x := h
          have hm := pm hj
          obtain ⟨b, ob, arr, el, fz, h1, h2, h3, h4, h5⟩ := hh _ _ hb
          obtain ⟨hl, hs⟩ := dec_sound h
          refine ⟨b, ob, arr, el, fz, by rw [hm.1]; exact h1, h2, Nat.le_trans (Nat.le_of_eq (congrArg (ob + ·) ((enc_length t x).trans hl.symm))) h3, h4, fun i c hc => ?_⟩
          obtain ⟨v, v1, v2⟩ := dec_cells h h5 i c hc
          exact ⟨v, v1, still v2 (refs_enc t x i c hc)⟩
        | _ => cases h
  | cells l =>
    cases o with
    | none => exfalso; have h : (none : Option (VDs l)) = some x := h; cases h
    | some k =>
      have h : (match H.get k with | some (.box cs) => matchVDs ρ l cs | _ => none) = some x := h
      cases hb : H.get k with
      | none => rw [hb] at h; cases h
      | some blk =>
        rw [hb] at h
        cases blk with
        | box cs =>
          have h : matchVDs ρ l cs = some x := h
          have hm := pm hj
          obtain ⟨b, ob, arr, el, fz, h1, h2, h3, h4, h5⟩ := hh _ _ hb
          obtain ⟨g1, g2⟩ := matchVDs_rel (e := e) h
          refine ⟨b, ob, arr, el, fz, by rw [hm.1]; exact h1, h2, by show ob + (encVDs _ x).length ≤ _; rw [g1]; exact h3, h4, fun i c hc => ?_⟩
          obtain ⟨v, v1, v2⟩ := g2 i c hc
          obtain ⟨u, u1, u2⟩ := h5 i v v1
          exact ⟨u, u1, v2 u u2⟩
        | _ => cases h
  | row t =>
    cases o with
    | none =>
      have h : some [] = some x := h
      cases h
      exact ⟨by simp [En.pull, hj], .inl ⟨by simp [En.pull, hj], rfl⟩⟩
    | some k =>
      have h : (match H.get k with | some (.row t' xs) => (match U.deq t' t with | .isTrue h => some (h ▸ xs) | .isFalse _ => none) | _ => none) = some x := h
      cases hb : H.get k with
      | none => rw [hb] at h; cases h
      | some blk =>
        rw [hb] at h
        cases blk with
        | row t' xs =>
          dsimp only at h
          split at h
          · rename_i ht _
            subst ht
            cases h
            have hm := pm hj
            obtain ⟨hn, hbb⟩ := hh _ _ hb
            refine ⟨by rw [hm.2]; exact hn, ?_⟩
            rcases hbb with ⟨h1, h2⟩ | ⟨b, ob, arr, el, fz, h1, h2, h3, h4, h5⟩
            · exact .inl ⟨by rw [hm.1]; exact h1, h2⟩
            · refine .inr ⟨b, ob, arr, el, fz, by rw [hm.1]; exact h1, h2, h3, h4, fun i x hx q c hq => ?_⟩
              obtain ⟨v, v1, v2⟩ := h5 i x hx q c hq
              exact ⟨v, v1, still v2 (refs_enc _ x q c hq)⟩
          · cases h
        | _ => cases h
  | tm kt vt =>
    cases o with
    | none => exfalso; have h : (none : Option (List (U.den kt × U.den vt))) = some x := h; cases h
    | some k =>
      have h : (match H.get k with | some (.tm a b es) => (match U.deq a kt, U.deq b vt with | .isTrue h, .isTrue h' => some (h ▸ h' ▸ es) | _, _ => none) | _ => none) = some x := h
      cases hb : H.get k with
      | none => rw [hb] at h; cases h
      | some blk =>
        rw [hb] at h
        cases blk with
        | tm a b es =>
          dsimp only at h
          split at h
          · rename_i h1 h2 _ _
            subst h1; subst h2
            cases h
            have hm := pm hj
            obtain ⟨b, ob, ents, clock, g1, g2, g3, g4⟩ := hh _ _ hb
            refine ⟨b, ob, ents, clock, by rw [hm.1]; exact g1, g2, g3, fun i p hp => ?_⟩
            obtain ⟨en, q1, q2, q3⟩ := g4 i p hp
            exact ⟨en, q1, still q2 (encV_refs _ _), still q3 (encV_refs _ _)⟩
          · cases h
        | _ => cases h

theorem matchBDs_ok {e : En} {ρ : List (Option Nat)} {H : Heap U} (hh : HeapRel e H.get) : ∀ (l : List (BD U)) (ks : List (Option Nat)) (i : Nat) (x : BDs l), ρ.drop i = ks → matchBDs ρ H l ks = some x →
    (encBDs l x).length = ks.length ∧ ∀ (j : Nat) (b : Blk U), (encBDs l x).get j = some b → BlkOK (e.pull ρ) (i + j) b
  | [], [], i, x, _, _ => ⟨rfl, fun j b hb => by simp [encBDs, Heap.get] at hb⟩
  | [], _ :: _, i, x, _, h => by simp [matchBDs] at h
  | _ :: _, [], i, x, _, h => by simp [matchBDs] at h
  | d :: l, k :: ks, i, x, hd, h => by
    have hk : ρ[i]? = some k := by
      have : (ρ.drop i)[0]? = some k := by rw [hd]; rfl
      rw [List.getElem?_drop] at this; simpa using this
    have hd' : ρ.drop (i + 1) = ks := by
      have : ρ.drop (i + 1) = (ρ.drop i).drop 1 := by rw [List.drop_drop]
      rw [this, hd]; rfl
    unfold matchBDs at h
    split at h
    · rename_i a ha
      split at h
      · rename_i b hb
        cases h
        obtain ⟨h1, h2⟩ := matchBDs_ok hh l ks (i + 1) b hd' hb
        refine ⟨by simp [encBDs, h1], fun j y hy => ?_⟩
        cases j with
        | zero =>
          simp [encBDs, Heap.get] at hy
          subst hy
          exact matchBD_ok hh hk ha
        | succ j =>
          have := h2 j y (by simpa [encBDs, Heap.get] using hy)
          rw [show i + (j + 1) = i + 1 + j by omega]
          exact this
      · cases h
    · cases h

theorem encSlots_length : ∀ (l : List (Nat × VD U)) (x : Slots l) (fr : List (AV U)), (encSlots l x fr).length = fr.length
  | [], _, _ => rfl
  | d :: l, x, fr => by simp [encSlots, encSlots_length l]

theorem check_inv {D : Desc U} {ρ : List (Option Nat)} {st : St U} {x : D.X} (h : D.check ρ st = some x) :
    st.fr.length = D.n ∧ distinct (somes ρ) = true ∧ matchSlots ρ st.fr D.slots = some x.1 ∧ matchBDs ρ st.H D.blocks ρ = some x.2 := by
  unfold Desc.check at h
  split at h
  · rename_i hc
    rw [Bool.and_eq_true] at hc
    split at h
    · rename_i a ha
      split at h
      · rename_i b hb
        cases h
        exact ⟨Nat.eq_of_beq_eq_true hc.1, hc.2, ha, hb⟩
      · cases h
    · cases h
  · cases h

theorem check_rel {D : Desc U} {ρ : List (Option Nat)} {st : St U} {x : D.X} (h : D.check ρ st = some x) {e : En} {a : Act} (hst : StRel e st a) : StRel (e.pull ρ) (D.enc x) a := by
  obtain ⟨h1, h2, h3, h4⟩ := check_inv h
  obtain ⟨g1, g2⟩ := matchBDs_ok hst.heap D.blocks ρ 0 x.2 rfl h4
  refine ⟨matchSlots_rel hst.fr D.slots x.1 _ h3 (junk_fr (by rw [← h1]; simpa using hst.fr.1)), fun j b hb => ?_, pull_wf hst.wf h2, fun k hk => ?_, hst.defers⟩
  · have := g2 j b hb
    rw [Nat.zero_add] at this
    exact this
  · have hk : (encBDs D.blocks x.2).length ≤ k := hk
    rw [g1] at hk
    simp [En.pull, List.getElem?_eq_none hk]

/-! ## Back -/
def En.push2 (e e1 : En) (L : Nat) (ids : List Nat) : En :=
  { w := e1.w
    m := fun k => if k < L then (if mem k ids = true then (match e.m k with | some _ => some .dead | none => none) else e.m k) else e1.m (k - L)
    n := fun k => if k < L then e.n k else e1.n (k - L)
    I := e1.I }

theorem shiftL_get (n : Nat) : ∀ (l : List (AV U)) (j : Nat), (shiftL n l)[j]? = l[j]?.map (shift n)
  | [], j => by simp [shiftL]
  | v :: l, 0 => by simp [shiftL]
  | v :: l, j + 1 => by simp [shiftL]; exact shiftL_get n l j

theorem shiftL_length (n : Nat) : ∀ (l : List (AV U)), (shiftL n l).length = l.length
  | [] => rfl
  | v :: l => by simp [shiftL, shiftL_length n l]

theorem shiftH_get (n : Nat) : ∀ (H : Heap U) (j : Nat), (shiftH n H).get j = (H.get j).map (shiftB n)
  | [], j => by simp [shiftH, Heap.get]
  | none :: l, 0 => by simp [shiftH, Heap.get]
  | some b :: l, 0 => by simp [shiftH, Heap.get]
  | none :: l, j + 1 => by have := shiftH_get n l j; simpa [shiftH, Heap.get] using this
  | some b :: l, j + 1 => by have := shiftH_get n l j; simpa [shiftH, Heap.get] using this

theorem shiftH_length (n : Nat) : ∀ (H : Heap U), (shiftH n H).length = H.length
  | [] => rfl
  | none :: l => by simp [shiftH, shiftH_length n l]
  | some b :: l => by simp [shiftH, shiftH_length n l]

theorem okCell_shift (n : Nat) (v : AV U) : okCell (shift n v) = okCell v := by cases v <;> rfl

theorem okCells_shift (n : Nat) : ∀ (l : List (AV U)), okCells (shiftL n l) = okCells l
  | [] => rfl
  | v :: l => by simp only [shiftL, okCells, okCell_shift, okCells_shift n l]

theorem shiftL_enc (n : Nat) (t : U.T) (x : U.den t) (j : Nat) (c : AV U) (h : (enc t x)[j]? = some c) : shift n c = c := by
  have : ∀ (sh : List (Cell U.T)) (x : Tup U.toTyU0 sh) (j : Nat) (y : AV U), (encT sh x)[j]? = some y → shift n y = y := by
    intro sh
    induction sh with
    | nil => intro x j y h; simp [encT] at h
    | cons c sh ih =>
      intro x j y h
      cases j with
      | zero => simp [encT] at h; subst h; cases c <;> rfl
      | succ j => exact ih _ j y (by simpa [encT] using h)
  exact this _ _ j c h

section
variable {e e1 : En} {L : Nat} {ids : List Nat}

theorem push2_m {k : Nat} : (e.push2 e1 L ids).m (L + k) = e1.m k ∧ (e.push2 e1 L ids).n (L + k) = e1.n k := by
  have h1 : ¬ (L + k < L) := by omega
  have h2 : L + k - L = k := by omega
  constructor
  · simp only [En.push2]; rw [if_neg h1, h2]
  · simp only [En.push2]; rw [if_neg h1, h2]

theorem shift_rel {v : AV U} {c : Value} (hr : Rel e1 v c) : Rel (e.push2 e1 L ids) (shift L v) c := by
  induction hr with
  | junk => simp only [shift]; exact .junk
  | bool => simp only [shift]; exact .bool
  | int => simp only [shift]; exact .int
  | str => simp only [shift]; exact .str
  | nilp => simp only [shift]; exact .nilp
  | ptrDead hm => simp only [shift]; exact .ptrDead (by rw [push2_m.1]; exact hm)
  | ptr hm => simp only [shift]; exact .ptr (by rw [push2_m.1]; exact hm)
  | @fptr cs o b ob vals hI hc _ ih =>
    simp only [shift]
    refine .fptr (vals := vals) hI (fun j c hj => ?_) (fun j c hj => ?_)
    · rw [shiftL_get, Option.map_eq_some_iff] at hj
      obtain ⟨y, hy, rfl⟩ := hj
      exact hc j y hy
    · rw [shiftL_get, Option.map_eq_some_iff] at hj
      obtain ⟨y, hy, rfl⟩ := hj
      exact ih j y hy
  | nilsl => simp only [shift]; exact .nilsl
  | fslE ha => simp only [shift]; exact .fslE ha
  | fsl hI hl hc _ ih =>
    simp only [shift]
    exact .fsl hI hl hc (fun i x hx j c hj => by have := ih i x hx j c hj; rw [shiftL_enc L _ x j c hj] at this; exact this)
  | bptr _ _ _ _ => simp only [shift]; exact .junk
  | bslE => simp only [shift]; exact .junk
  | brow _ hx ih =>
    simp only [shift] at ih ⊢
    exact .brow ih fun b o hm => hx b o (by rw [push2_m.1] at hm; exact hm)
  | tptr _ hx ih =>
    simp only [shift] at ih ⊢
    exact .tptr ih fun b o hm => hx b o (by rw [push2_m.1] at hm; exact hm)
  | bsl _ _ _ _ _ => simp only [shift]; exact .junk
  | nsl _ ih => simp only [shift] at ih ⊢; exact .nsl ih
  | mrowDead hm => simp only [shift]; exact .mrowDead (by rw [push2_m.1]; exact hm)
  | mrowE hm hn => simp only [shift]; exact .mrowE (by rw [push2_m.1]; exact hm) (by rw [push2_m.2]; exact hn)
  | @mrow k sz cap b ob hm hl hf =>
    simp only [shift]
    rw [← (push2_m (e := e) (e1 := e1) (L := L) (ids := ids) (k := k)).2]
    exact .mrow (by rw [push2_m.1]; exact hm) (by rw [push2_m.2]; exact hl) hf
  | mslDead hm hl => simp only [shift]; exact .mslDead (by rw [push2_m.1]; exact hm) hl
  | mslE hm => simp only [shift]; exact .mslE (by rw [push2_m.1]; exact hm)
  | msl hm hl hf => simp only [shift]; exact .msl (by rw [push2_m.1]; exact hm) hl hf
  | nilmap => simp only [shift]; exact .nilmap
  | mapDead hm => simp only [shift]; exact .mapDead (by rw [push2_m.1]; exact hm)
  | map hm => simp only [shift]; exact .map (by rw [push2_m.1]; exact hm)
  | fn ha hb _ _ iha ihb =>
    simp only [shift]
    refine .fn ((shiftL_length _ _).trans ha) ((shiftL_length _ _).trans hb) (fun j x v hx hv => ?_) (fun j x v hx hv => ?_)
    · rw [shiftL_get, Option.map_eq_some_iff] at hx
      obtain ⟨y, hy, rfl⟩ := hx
      exact iha j y v hy hv
    · rw [shiftL_get, Option.map_eq_some_iff] at hx
      obtain ⟨y, hy, rfl⟩ := hx
      exact ihb j y v hy hv
  | nilfn => simp only [shift]; exact .nilfn
  | iface _ ih => simp only [shift]; exact .iface ih
  | nilif => simp only [shift]; exact .nilif
  | agg hl _ ih =>
    simp only [shift]
    refine .agg ((shiftL_length _ _).trans hl) (fun j x v hx hv => ?_)
    rw [shiftL_get, Option.map_eq_some_iff] at hx
    obtain ⟨y, hy, rfl⟩ := hx
    exact ih j y v hy hv
  | tup hl _ ih =>
    simp only [shift]
    refine .tup ((shiftL_length _ _).trans hl) (fun j x v hx hv => ?_)
    rw [shiftL_get, Option.map_eq_some_iff] at hx
    obtain ⟨y, hy, rfl⟩ := hx
    exact ih j y v hy hv

theorem shift_encV (t : U.T) (x : U.den t) : shift (U := U) L (encV t x) = encV t x := by
  unfold encV
  split
  · unfold shift
    congr 1
    refine List.ext_getElem? (fun j => ?_)
    rw [shiftL_get]
    cases h : (enc t x)[j]? with
    | none => rfl
    | some c => rw [Option.map_some, shiftL_enc L t x j c h]
  · cases hh : enc t x with
    | nil => rfl
    | cons y l => exact shiftL_enc L t x 0 y (by rw [hh]; rfl)

theorem shift_cells {arr : Array Value} {ob : Nat} {cs : List (AV U)} (h : CellsAt e1 arr ob cs) : CellsAt (e.push2 e1 L ids) arr ob (shiftL L cs) := by
  intro j c hj
  rw [shiftL_get, Option.map_eq_some_iff] at hj
  obtain ⟨y, hy, rfl⟩ := hj
  obtain ⟨v, v1, v2⟩ := h j y hy
  exact ⟨v, v1, shift_rel v2⟩

theorem shift_blk {k : Nat} {b : Blk U} (h : BlkOK e1 k b) : BlkOK (e.push2 e1 L ids) (L + k) (shiftB L b) := by
  have hm := push2_m (e := e) (e1 := e1) (L := L) (ids := ids) (k := k)
  cases b with
  | box cs =>
    obtain ⟨b, ob, arr, el, fz, h1, h2, h3, h4, h5⟩ := h
    exact ⟨b, ob, arr, el, fz, by rw [hm.1]; exact h1, h2, by rw [shiftL_length]; exact h3, h4, shift_cells h5⟩
  | row t xs =>
    obtain ⟨hn, hb⟩ := h
    refine ⟨by rw [hm.2]; exact hn, ?_⟩
    rcases hb with ⟨h1, h2⟩ | ⟨b, ob, arr, el, fz, h1, h2, h3, h4, h5⟩
    · exact .inl ⟨by rw [hm.1]; exact h1, h2⟩
    · refine .inr ⟨b, ob, arr, el, fz, by rw [hm.1]; exact h1, h2, h3, h4, fun i x hx j c hj => ?_⟩
      obtain ⟨v, v1, v2⟩ := h5 i x hx j c hj
      have := shift_rel (e := e) (L := L) (ids := ids) v2
      rw [shiftL_enc L t x j c hj] at this
      exact ⟨v, v1, this⟩
  | urow sz es =>
    obtain ⟨hn, hb⟩ := h
    refine ⟨by rw [hm.2]; simpa using hn, ?_⟩
    rcases hb with ⟨h1, h2⟩ | ⟨b, ob, arr, el, fz, h1, h2, h3, h4, h5⟩
    · exact .inl ⟨by rw [hm.1]; exact h1, by rw [h2]; rfl⟩
    · refine .inr ⟨b, ob, arr, el, fz, by rw [hm.1]; exact h1, h2, by simpa using h3, h4, fun i x hx => ?_⟩
      rw [List.getElem?_map, Option.map_eq_some_iff] at hx
      obtain ⟨y, hy, rfl⟩ := hx
      obtain ⟨g1, g2, g3⟩ := h5 i y hy
      exact ⟨by rw [shiftL_length]; exact g1, by rw [okCells_shift]; exact g2, shift_cells g3⟩
  | tm kt vt es =>
    obtain ⟨b, ob, ents, clock, h1, h2, h3, h4⟩ := h
    refine ⟨b, ob, ents, clock, by rw [hm.1]; exact h1, h2, h3, fun i p hp => ?_⟩
    obtain ⟨en, q1, q2, q3⟩ := h4 i p hp
    have r2 := shift_rel (e := e) (L := L) (ids := ids) q2
    have r3 := shift_rel (e := e) (L := L) (ids := ids) q3
    rw [shift_encV] at r2 r3
    exact ⟨en, q1, r2, r3⟩
end

theorem push2_ok {ρ : List (Option Nat)} {st st1 : St U} {e e1 : En} {a a1 : Act} (hst : StRel e st a) (h1 : StRel e1 st1 a1) (hE : WEvo (e.pull ρ) e1) :
    StRel (e.push2 e1 st.H.length (somes ρ)) (pushSt (killH (somes ρ) st.H) st1) a1 ∧ Evo allD e (e.push2 e1 st.H.length (somes ρ)) := by
  obtain ⟨L, hL⟩ : ∃ L, L = st.H.length := ⟨_, rfl⟩
  rw [← hL]
  have hlt : ∀ k l, e.m k = some l → k < L := fun k l hk => by
    rcases Nat.lt_or_ge k L with h | h
    · exact h
    · rw [hst.fresh k (by omega)] at hk; cases hk
  -- what the part of its own knows, the whole knows
  have img : ∀ j b o, (e.pull ρ).m j = some (.at b o) → ∃ k, mem k (somes ρ) = true ∧ e.m k = some (.at b o) := by
    intro j b o hj
    simp only [En.pull] at hj
    split at hj
    · rename_i k hk; exact ⟨k, somes_mem.2 ⟨j, hk⟩, hj⟩
    · cases hj
    · cases hj
  have hm : ∀ k l, (e.push2 e1 L (somes ρ)).m k = some l → (k < L ∧ mem k (somes ρ) = true ∧ l = .dead) ∨ (k < L ∧ mem k (somes ρ) ≠ true ∧ e.m k = some l) ∨ (L ≤ k ∧ e1.m (k - L) = some l) := by
    intro k l hk
    simp only [En.push2] at hk
    split at hk
    · rename_i hlt
      split at hk
      · rename_i hid
        split at hk
        · cases hk; exact .inl ⟨hlt, hid, rfl⟩
        · cases hk
      · rename_i hid; exact .inr (.inl ⟨hlt, hid, hk⟩)
    · rename_i hge; exact .inr (.inr ⟨by omega, hk⟩)
  have hEvo : Evo (fun k => mem k (somes ρ) = true) e (e.push2 e1 L (somes ρ)) := by
    refine ⟨hE.size, fun b hb hk => hE.keep b hb (fun j o hj => ?_), hE.shape, fun k l hl => ?_, fun k l hl => ?_, fun k b o hk => ?_, hE.iOld, fun b hb => ?_, hE.io⟩
    · obtain ⟨k, h2, h3⟩ := img j b o hj
      exact hk k o h2 h3
    · have hk := hlt k l hl
      simp only [En.push2]
      rw [if_pos hk]
      by_cases hid : mem k (somes ρ) = true
      · rw [if_pos hid, hl]; exact .inr ⟨hid, rfl⟩
      · rw [if_neg hid]; exact .inl hl
    · simp only [En.push2]; rw [if_pos (hlt k l hl)]
    · rcases hm k _ hk with ⟨_, _, h2⟩ | ⟨_, _, h2⟩ | ⟨_, h2⟩
      · cases h2
      · exact .inl h2
      · rcases hE.new _ b o h2 with h3 | ⟨j, o2, h3⟩
        · exact .inr (.inl h3)
        · obtain ⟨k2, h4, h5⟩ := img j b o2 h3
          exact .inr (.inr ⟨k2, o2, h4, h5⟩)
    · rcases hE.iNew b hb with h2 | h2 | ⟨j, o2, h3⟩
      · exact .inl h2
      · exact .inr (.inl h2)
      · obtain ⟨k2, h4, h5⟩ := img j b o2 h3
        exact .inr (.inr ⟨k2, o2, h4, h5⟩)
  have hkl : (killH (somes ρ) st.H).length = L := by rw [killH_length, hL]
  refine ⟨⟨?_, fun k b hb => ?_, ⟨h1.wf.iLt, fun k b o hk => ?_, fun k b o hk hI => ?_, fun k k' b o o' hk hk' => ?_⟩, fun k hk => ?_, h1.defers⟩, hEvo.all⟩
  · show RelL _ (shiftL (killH (somes ρ) st.H).length st1.fr) _
    rw [hkl]
    refine ⟨(shiftL_length _ _).trans h1.fr.1, fun j x v hx hv => ?_⟩
    rw [shiftL_get, Option.map_eq_some_iff] at hx
    obtain ⟨y, hy, rfl⟩ := hx
    exact shift_rel (h1.fr.2 j y v hy hv)
  · have hb : Heap.get (killH (somes ρ) st.H ++ shiftH (killH (somes ρ) st.H).length st1.H) k = some b := hb
    rw [hkl] at hb
    by_cases hk : k < L
    · have : Heap.get (killH (somes ρ) st.H ++ shiftH L st1.H) k = (killH (somes ρ) st.H).get k := by
        unfold Heap.get; rw [List.getElem?_append_left (by omega)]
      rw [this, killH_get] at hb
      split at hb
      · cases hb
      · rename_i hid
        exact (hst.heap k b hb).mono hEvo hst.wf hid
    · have : Heap.get (killH (somes ρ) st.H ++ shiftH L st1.H) k = (shiftH L st1.H).get (k - L) := by
        unfold Heap.get; rw [List.getElem?_append_right (by omega), hkl]
      rw [this, shiftH_get, Option.map_eq_some_iff] at hb
      obtain ⟨b', hb', rfl⟩ := hb
      have := shift_blk (e := e) (L := L) (ids := somes ρ) (h1.heap _ b' hb')
      rw [show L + (k - L) = k by omega] at this
      exact this
  · show b < e1.w.heap.size
    rcases hm k _ hk with ⟨_, _, h2⟩ | ⟨_, _, h2⟩ | ⟨_, h2⟩
    · cases h2
    · exact Nat.lt_of_lt_of_le (hst.wf.mLt k b o h2) hE.size
    · exact h1.wf.mLt _ b o h2
  · have hI : e1.I b := hI
    rcases hm k _ hk with ⟨_, _, h2⟩ | ⟨_, hid, h2⟩ | ⟨_, h2⟩
    · cases h2
    · rcases hE.iNew b hI with h3 | h3 | ⟨j, o2, h3⟩
      · exact hst.wf.mI k b o h2 h3
      · have := hst.wf.mLt k b o h2
        have h3 : e.w.heap.size ≤ b := h3
        omega
      · obtain ⟨k2, h4, h5⟩ := img j b o2 h3
        have := hst.wf.inj k k2 b o o2 h2 h5
        subst this
        exact hid h4
    · exact h1.wf.mI _ b o h2 hI
  · have cross : ∀ k k' b o o', mem k (somes ρ) ≠ true → e.m k = some (.at b o) → e1.m k' = some (.at b o') → False := by
      intro k k' b o o' hid h2 h3
      rcases hE.new _ b o' h3 with h4 | ⟨j, o2, h4⟩
      · have := hst.wf.mLt k b o h2
        have h4 : e.w.heap.size ≤ b := h4
        omega
      · obtain ⟨k2, h5, h6⟩ := img j b o2 h4
        have := hst.wf.inj k k2 b o o2 h2 h6
        subst this
        exact hid h5
    rcases hm k _ hk with ⟨_, _, h2⟩ | ⟨_, hid, h2⟩ | ⟨g2, h2⟩
    · cases h2
    · rcases hm k' _ hk' with ⟨_, _, h3⟩ | ⟨_, _, h3⟩ | ⟨_, h3⟩
      · cases h3
      · exact hst.wf.inj k k' b o o' h2 h3
      · exact absurd (cross k _ b o o' hid h2 h3) id
    · rcases hm k' _ hk' with ⟨_, _, h3⟩ | ⟨_, hid, h3⟩ | ⟨g3, h3⟩
      · cases h3
      · exact absurd (cross k' _ b o' o hid h3 h2) id
      · have := h1.wf.inj _ _ b o o' h2 h3
        omega
  · have hk : (killH (somes ρ) st.H ++ shiftH (killH (somes ρ) st.H).length st1.H).length ≤ k := hk
    rw [List.length_append, shiftH_length, hkl] at hk
    have hge : ¬ k < L := by omega
    simp only [En.push2]
    rw [if_neg hge]
    exact h1.fresh _ (by omega)

end Am
