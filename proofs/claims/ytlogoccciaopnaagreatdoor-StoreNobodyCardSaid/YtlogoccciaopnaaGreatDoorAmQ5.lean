/- Regions whose order is drawn: out of the evaluator. -/
import Derived.Test.YtlogoccciaopnaaGreatDoorAmQ0
namespace Am
open Go
variable {U : TyU} {R : Type} {P : Program} {G : Env U}

theorem maskFr_get (l : List Nat) : ∀ (fr : List (AV U)) (i j : Nat), (maskFr l fr i)[j]? = (fr[j]?).map (fun v => if mem (i + j) l = true then v else .junk)
  | [], i, j => by simp [maskFr]
  | v :: fr, i, 0 => by
    simp only [maskFr, List.getElem?_cons_zero, Option.map_some, Nat.add_zero]
    cases mem i l <;> simp
  | v :: fr, i, j + 1 => by
    simp only [maskFr, List.getElem?_cons_succ]
    rw [maskFr_get l fr (i + 1) j, show i + 1 + j = i + (j + 1) by omega]

theorem restr_length (ids : List Nat) : ∀ (H : Heap U) (i : Nat), (restr ids H i).length = H.length
  | [], _ => rfl
  | b :: l, i => by simp [restr, restr_length ids l]

theorem restr_get (ids : List Nat) : ∀ (H : Heap U) (i k : Nat), (restr ids H i).get k = if mem (i + k) ids = true then H.get k else none
  | [], i, k => by simp [restr, Heap.get]
  | b :: l, i, 0 => by
    simp only [restr, Heap.get, List.getElem?_cons_zero, Nat.add_zero]
    cases mem i ids <;> simp
  | b :: l, i, k + 1 => by
    have := restr_get ids l (i + 1) k
    simp only [restr, Heap.get, List.getElem?_cons_succ] at this ⊢
    rw [this, show i + 1 + k = i + (k + 1) by omega]

theorem merge_get (ids : List Nat) : ∀ (H H' : Heap U) (i k : Nat), (merge ids H H' i).get k = if k < H.length then (if mem (i + k) ids = true then H'.get k else H.get k) else H'.get k
  | [], H', i, k => by simp [merge]
  | b :: l, [], i, 0 => by
    simp only [merge, Heap.get, List.getElem?_cons_zero, List.length_cons, Nat.zero_lt_succ, if_true, Nat.add_zero, List.getElem?_nil]
    cases mem i ids <;> simp
  | b :: l, b' :: l', i, 0 => by
    simp only [merge, Heap.get, List.getElem?_cons_zero, List.length_cons, Nat.zero_lt_succ, if_true, Nat.add_zero]
    cases mem i ids <;> simp
  | b :: l, [], i, k + 1 => by
    have := merge_get ids l [] (i + 1) k
    simp only [merge, Heap.get, List.getElem?_cons_succ, List.length_cons, Nat.add_lt_add_iff_right, List.getElem?_nil] at this ⊢
    rw [this, show i + 1 + k = i + (k + 1) by omega]
  | b :: l, b' :: l', i, k + 1 => by
    have := merge_get ids l l' (i + 1) k
    simp only [merge, Heap.get, List.getElem?_cons_succ, List.length_cons, Nat.add_lt_add_iff_right] at this ⊢
    rw [this, show i + 1 + k = i + (k + 1) by omega]

theorem merge_length (ids : List Nat) : ∀ (H H' : Heap U) (i : Nat), H.length ≤ H'.length → (merge ids H H' i).length = H'.length
  | [], H', i, _ => by simp [merge]
  | b :: l, [], i, h => by simp at h
  | b :: l, b' :: l', i, h => by simp [merge, merge_length ids l l' (i + 1) (by simpa using h)]

theorem Heap.get_ge {H : Heap U} {k : Nat} (h : H.length ≤ k) : H.get k = none := by
  unfold Heap.get; rw [List.getElem?_eq_none h]

theorem mergeD_get (wr : Bool) (ids : List Nat) (H H' : Heap U) (hl : H.length ≤ H'.length) (k : Nat) :
    (mergeD wr ids H H').get k = if (wr = true ∧ mem k ids = true) ∨ H.length ≤ k then H'.get k else H.get k := by
  unfold mergeD
  cases wr with
  | true =>
    simp only [merge_get, Nat.zero_add, true_and]
    by_cases h1 : k < H.length
    · have : ¬ H.length ≤ k := by omega
      simp [h1, this]
    · have : H.length ≤ k := by omega
      simp [h1, this]
  | false =>
    simp only [Bool.false_eq_true, false_and, false_or]
    show Heap.get (H ++ H'.drop H.length) k = _
    unfold Heap.get
    by_cases h1 : k < H.length
    · rw [List.getElem?_append_left h1, if_neg (by omega)]
    · rw [List.getElem?_append_right (by omega), List.getElem?_drop, if_pos (by omega), show H.length + (k - H.length) = k by omega]

theorem mergeD_length (wr : Bool) (ids : List Nat) (H H' : Heap U) (hl : H.length ≤ H'.length) : (mergeD wr ids H H').length = H'.length := by
  unfold mergeD
  cases wr with
  | true => exact merge_length ids H H' 0 hl
  | false => simp; omega

theorem mem_iff {k : Nat} : ∀ {l : List Nat}, mem k l = true ↔ k ∈ l
  | [] => by simp [mem]
  | j :: l => by
    unfold mem
    split
    · rename_i hb
      have := Nat.eq_of_beq_eq_true hb
      subst this; simp
    · rename_i hb
      have : ¬ k = j := by rintro rfl; rw [Nat.beq_refl] at hb; cases hb
      simp [this, mem_iff]

theorem put_get (fr : List (AV U)) (d : Option Tmp) (v : AV U) (x : Nat) : (put fr d v)[x]? = updF (fun d => fr[d]?) d v x := by
  cases d with
  | none => simp [put, updF]
  | some d =>
    simp only [put, updF]
    by_cases hd : d = x
    · subst hd
      rw [if_pos rfl, List.getElem?_set, if_pos rfl]
      by_cases hl : d < fr.length
      · rw [if_pos hl, List.getElem?_eq_getElem hl]; rfl
      · have hn : fr[d]? = none := List.getElem?_eq_none (Nat.le_of_not_lt hl)
        rw [if_neg hl, hn]; rfl
    · rw [List.getElem?_set_ne hd, if_neg (fun h => hd (by cases h; rfl))]

/-- a guard, as its slot says -/
theorem guardK_spec {ops : Array Oper} {o : Oper} {st : St U} {yes no : St U → Option R} {r : R} (h : guardK ops.toList o st yes no = some r) :
    (yes st = some r ∧ ∀ (e : En) (a : Act), (∀ d, mem d (guardLooks ops.toList o) = true → SlotRel e st.fr[d]? a.tmps[d]?) → Region.wanted o (yielded ops a.tmps) = true) ∨
    (no st = some r ∧ ∀ (e : En) (a : Act), (∀ d, mem d (guardLooks ops.toList o) = true → SlotRel e st.fr[d]? a.tmps[d]?) → Region.wanted o (yielded ops a.tmps) = false) := by
  unfold guardK at h
  split at h
  · rename_i hg
    exact .inl ⟨h, fun e a _ => by simp [Region.wanted, hg]⟩
  · rename_i j want hg
    split at h
    · cases h
    rename_i d hd
    have hd' : (ops[j]?).bind (·.dst) = some d := by
      unfold guardSlot at hd
      rw [Array.getElem?_toList] at hd
      cases ho : ops[j]? with
      | none => rw [ho] at hd; cases hd
      | some o' => rw [ho] at hd; exact hd
    have hlook : mem d (guardLooks ops.toList o) = true := by
      rw [mem_iff]; simp [guardLooks, hg, hd]
    have slot : ∀ (v : AV U), st.fr.getD d undefA = v → v ≠ undefA → st.fr[d]? = some v := by
      intro v hv hne
      rw [List.getD_eq_getElem?_getD] at hv
      cases hx : st.fr[d]? with
      | none => rw [hx] at hv; exact absurd hv.symm hne
      | some x => rw [hx] at hv; simp at hv; rw [hv]
    have hy : ∀ (e : En) (a : Act) (b : Bool), st.fr.getD d undefA = .bool b → (∀ d, mem d (guardLooks ops.toList o) = true → SlotRel e st.fr[d]? a.tmps[d]?) → yielded ops a.tmps j = some b := by
      intro e a b hb hf
      have h1 := hf d hlook
      rw [slot _ hb (by unfold undefA; simp)] at h1
      cases hc : a.tmps[d]? with
      | none => rw [hc] at h1; exact absurd h1 id
      | some c =>
        rw [hc] at h1
        have h1 : Rel (U := U) e (.bool b) c := h1
        rw [h1.bool_inv] at hc
        simp [yielded, hd', hc]
    have hset : ∀ (b : Bool), st.fr.getD d undefA = .bool b → ({ st with fr := st.fr.set d (.bool b) } : St U) = st := by
      intro b hb
      have := slot _ hb (by unfold undefA; simp)
      obtain ⟨h1, h2⟩ := List.getElem?_eq_some_iff.1 this
      cases st
      simp only [St.mk.injEq, and_true]
      rw [← h2, List.set_getElem_self]
    split at h
    · rename_i b hb
      split at h
      · rw [hset _ hb] at h
        split at h
        · exact .inl ⟨h, fun e a hf => by simp [Region.wanted, hg, hy e a _ hb hf]⟩
        · exact .inr ⟨h, fun e a hf => by simp [Region.wanted, hg, hy e a _ hb hf]⟩
      · rw [hset _ hb] at h
        split at h
        · exact .inr ⟨h, fun e a hf => by simp [Region.wanted, hg, hy e a _ hb hf]⟩
        · exact .inl ⟨h, fun e a hf => by simp [Region.wanted, hg, hy e a _ hb hf]⟩
    · rename_i hb
      refine .inr ⟨h, fun e a hf => ?_⟩
      have h1 := hf d hlook
      have : yielded ops a.tmps j = none := by
        simp only [yielded, hd', Option.bind_some]
        cases hdd : a.tmps[d]? with
        | none => rfl
        | some c =>
          cases hx : st.fr[d]? with
          | none => rw [hx, hdd] at h1; exact absurd h1 id
          | some x =>
            rw [List.getD_eq_getElem?_getD, hx] at hb
            simp at hb; subst hb
            rw [hx, hdd] at h1
            obtain ⟨va, rfl, _⟩ := Rel.tup_inv h1
            rfl
      simp [Region.wanted, hg, this]
    · cases h

section
variable {call : FuncId → List (AV U) → Heap U → (AV U → Heap U → Option R) → Option R}

theorem mask_ev {l : List Nat} {fr : List (AV U)} {e : En} {a : Act} (h : ∀ d, mem d l = true → SlotRel e fr[d]? a.tmps[d]?) (x : Operand) : Rel e (ev (maskFr l fr 0) x) (a.eval x) := by
  cases x with
  | tmp t =>
    simp only [Am.ev, Act.eval, List.getD_eq_getElem?_getD, maskFr_get, Nat.zero_add]
    cases hx : fr[t]? with
    | none => exact .junk
    | some v =>
      simp only [Option.map_some, Option.getD_some]
      split
      · rename_i hm
        have := h t hm
        rw [hx] at this
        cases hc : a.tmps[t]? with
        | none => rw [hc] at this; exact absurd this id
        | some c => rw [hc] at this; have this : Rel e v c := this; simpa [hc] using this
      · exact .junk
  | const v => exact rel_ofVal e v
  | func f => exact .fn rfl rfl (by simp) (by simp)
  | global g => exact .junk

theorem mem_append {k : Nat} {a b : List Nat} : mem k (a ++ b) = true ↔ mem k a = true ∨ mem k b = true := by
  rw [mem_iff, mem_iff, mem_iff, List.mem_append]

theorem sp_yes (hG : EnvOK P G) (hcall : CallS P call) {ops : Array Oper} {o : Oper} {i : Nat} (ho : ops[i]? = some o) {st : St U} {ids0 ids : List Nat} (hft : foot G o.op (maskFr (looks ops.toList o) st.fr 0) = some ids0)
    {k : AV U → Heap U → Option R} {r : R} (h : opK G call o.op (maskFr (looks ops.toList o) st.fr 0) (restr ids st.H 0) k = some r)
    (hwant : ∀ (e : En) (a : Act), (∀ d, mem d (guardLooks ops.toList o) = true → SlotRel e st.fr[d]? a.tmps[d]?) → Region.wanted o (yielded ops a.tmps) = true) :
    ∃ v H', k v H' = some r ∧ st.H.length ≤ H'.length ∧ ∀ pre, Sp P ops i (effOf ops.toList (o, ⟨ids, writes o.op, pre, st.H.length, H'.length⟩) v H'.get) (fun d => st.fr[d]?) st.H.get := by
  obtain ⟨v, H', hk, hl, hs⟩ := opK_sound hG hcall h
  rw [restr_length] at hl
  obtain ⟨hs, hwr⟩ := hs.resolve_right (fun hh => by rw [hft] at hh; cases hh.1)
  refine ⟨v, H', hk, hl, fun pre e a K Q hw hsl hbl hfr hK => ?_⟩
  have hlooks : ∀ d, mem d (looks ops.toList o) = true → SlotRel e st.fr[d]? a.tmps[d]? := hsl
  have hwanted := hwant e a (fun d hd => hlooks d (by unfold looks; exact mem_append.2 (.inr hd)))
  unfold wpOp
  rw [ho]
  simp only [hwanted, if_true]
  refine .inl (hs e a K Q hw (fun x => mask_ev hlooks x) (fun q b hb => ?_) (fun q h1 h2 => hfr q (by rw [restr_length] at h1; exact h1) h2) (fun c e' hw' hE hv hh' hn => ?_))
  · rw [restr_get, Nat.zero_add] at hb
    split at hb
    · rename_i hm; exact hbl q b hm hb
    · cases hb
  · refine hK c e' hw' (hE.weaken fun q hq => ?_) hv (fun q b hq hb => ?_) (fun q h1 h2 => by have := hn q h1 h2; rw [restr_length] at this; exact this)
    · have hq : (restr ids st.H 0).get q ≠ none := hq
      rw [restr_get, Nat.zero_add] at hq
      show mem q ids = true
      cases hm : mem q ids with
      | true => rfl
      | false => rw [hm] at hq; simp at hq
    · by_cases hW : (effOf ops.toList (o, ⟨ids, writes o.op, pre, st.H.length, H'.length⟩) v H'.get).W q
      · simp only [updH, if_pos hW] at hb
        exact hh' q b hb
      · simp only [updH, if_neg hW] at hb
        have hqr : mem q ids = true := hq.resolve_right (fun hr => hW (.inr hr))
        have hnw : writes o.op ≠ true := fun hw => hW (.inl ⟨hw, hqr⟩)
        have hlt := Heap.get_lt hb
        refine hh' q b ?_
        rcases hwr with hwr | rfl | ⟨b', rfl⟩
        · exact absurd hwr hnw
        · rw [restr_get, Nat.zero_add, if_pos hqr]; exact hb
        · rw [Heap.get_snoc, restr_length, if_neg (by omega), restr_get, Nat.zero_add, if_pos hqr]; exact hb

theorem mask_refs {l : List Nat} {fr : List (AV U)} (x : Operand) : ∀ k ∈ refs (ev (maskFr l fr 0) x), k ∈ refsL (maskFr l fr 0) := by
  intro k hk
  cases x with
  | tmp t =>
    simp only [Am.ev, List.getD_eq_getElem?_getD] at hk
    cases hx : (maskFr l fr 0)[t]? with
    | none => rw [hx] at hk; simp [refs] at hk
    | some v => rw [hx] at hk; exact refsL_in hx (by simpa using hk)
  | const v =>
    exfalso
    simp only [Am.ev] at hk
    unfold ofVal at hk
    split at hk <;> simp [refs] at hk
  | func f => simp [Am.ev, refs, refsL] at hk
  | global g => simp [Am.ev, refs] at hk

/-- a call, over the blocks that its arguments reach -/
theorem sp_call (hG : EnvOK P G) (hcall : CallS P call) {ops : Array Oper} {o : Oper} {i : Nat} (ho : ops[i]? = some o) {st : St U} {ids : List Nat} (hft : callFoot o.op (maskFr (looks ops.toList o) st.fr 0) st.H = some ids)
    {k : AV U → Heap U → Option R} {r : R} (h : opK G call o.op (maskFr (looks ops.toList o) st.fr 0) (restr ids st.H 0) k = some r)
    (hwant : ∀ (e : En) (a : Act), (∀ d, mem d (guardLooks ops.toList o) = true → SlotRel e st.fr[d]? a.tmps[d]?) → Region.wanted o (yielded ops a.tmps) = true) :
    ∃ v H', k v H' = some r ∧ st.H.length ≤ H'.length ∧ (closedPost ids st.H.length v H' = true → ∀ pre, Sp P ops i (effOf ops.toList (o, ⟨ids, true, pre, st.H.length, H'.length⟩) v H'.get) (fun d => st.fr[d]?) st.H.get) := by
  obtain ⟨v, H', hk, hl, hs⟩ := opK_sound hG hcall h
  have hF : OpF P o (maskFr (looks ops.toList o) st.fr 0) (restr ids st.H 0) v H' := hs.elim (fun h => h.1.toF hl) (·.2)
  rw [restr_length] at hl
  obtain ⟨hids, hfrm⟩ := callFoot_spec hft
  refine ⟨v, H', hk, hl, fun hpost pre e a K Q hw hsl hbl hfr hK => ?_⟩
  unfold closedPost at hpost
  simp only [Bool.and_eq_true] at hpost
  obtain ⟨hp0, hp1, hp2⟩ := hpost
  have hp0 := Nat.le_of_ble_eq_true hp0
  have hlive : ∀ {q}, mem q ids = true → q < st.H.length := fun {q} hq => let ⟨_, hb, _⟩ := hids q hq; Heap.get_lt hb
  have hlooks : ∀ d, mem d (looks ops.toList o) = true → SlotRel e st.fr[d]? a.tmps[d]? := hsl
  have hwanted := hwant e a (fun d hd => hlooks d (by unfold looks; exact mem_append.2 (.inr hd)))
  unfold wpOp
  rw [ho]
  simp only [hwanted, if_true]
  -- what the call sees
  have hS1 : ¬ (mem 1000000 ids = true) := fun hq => by have := hlive hq; omega
  have hcm : ∀ q, mem q ids = true → (e.cut fun q => mem q ids).m q = e.m q := fun q hq => by simp only [En.cut, hq, if_true]
  have hrel : ∀ x, Rel (e.cut fun q => mem q ids) (ev (maskFr (looks ops.toList o) st.fr 0) x) (a.eval x) := fun x =>
    (mask_ev hlooks x).on (S := fun q => mem q ids = true) (e := e) (e' := e.cut fun q => mem q ids) rfl (fun _ h => h) hcm (fun _ _ => rfl) hS1 (fun q hq => hfrm q (mask_refs x q hq))
  have hheap : HeapRel (e.cut fun q => mem q ids) (restr ids st.H 0).get := fun q b hb => by
    rw [restr_get, Nat.zero_add] at hb
    split at hb
    · rename_i hm
      obtain ⟨b', hb', hr⟩ := hids q hm
      rw [hb] at hb'; cases hb'
      exact (hbl q b hm hb).on (S := fun q => mem q ids = true) (e := e) (e' := e.cut fun q => mem q ids) rfl (fun _ h => h) hcm (fun _ _ => rfl) hS1 hm hr
    · cases hb
  have hfresh : ∀ q, (restr ids st.H 0).length ≤ q → (e.cut fun q => mem q ids).m q = none := fun q hq => by
    rw [restr_length] at hq
    simp only [En.cut]
    split
    · rename_i hm; have := hlive hm; omega
    · rfl
  refine .inl (hF (e.cut fun q => mem q ids) a K Q (En.cut_wf hw _) hrel hheap hfresh (fun c e1 hw1 hE hv hh1 hf1 => ?_))
  -- and what the caller sees behind it
  have hT0 : ∀ q, insideB ids st.H.length H'.length q = true ↔ mem q ids = true ∨ (st.H.length ≤ q ∧ q < H'.length) := fun q => by
    unfold insideB
    rw [Bool.or_eq_true, Bool.and_eq_true, Nat.ble_eq, Nat.blt_eq]
  obtain ⟨hwf, hEvo⟩ := En.back_ok (S := fun q => mem q ids) (T := insideB ids st.H.length H'.length) hw hw1 hE (fun q hq => (hT0 q).2 (.inl hq)) (fun q hq => (hT0 q).1 hq |>.imp id (fun h => hfr q h.1 h.2))
  have hbm : ∀ q, insideB ids st.H.length H'.length q = true → (e.back e1 (insideB ids st.H.length H'.length)).m q = e1.m q := fun q hq => by simp only [En.back, hq, if_true]
  have hbn : ∀ q, insideB ids st.H.length H'.length q = true → (e.back e1 (insideB ids st.H.length H'.length)).n q = e1.n q := fun q hq => by simp only [En.back, hq, if_true]
  have hS2 : ¬ (insideB ids st.H.length H'.length 1000000 = true) := fun hq => by
    rcases (hT0 _).1 hq with h1 | h1
    · exact hS1 h1
    · omega
  refine hK c (e.back e1 (insideB ids st.H.length H'.length)) hwf hEvo (hv.on (S := fun q => insideB ids st.H.length H'.length q = true) (e := e1) (e' := e.back e1 (insideB ids st.H.length H'.length)) rfl (fun _ h => h) hbm hbn hS2 (allIn_spec hp1)) (fun q b hq hb => ?_) (fun q h1 h2 => ?_)
  · have hin : insideB ids st.H.length H'.length q = true := (hT0 q).2 hq
    have hW : (effOf ops.toList (o, ⟨ids, true, pre, st.H.length, H'.length⟩) v H'.get).W q := hq.imp (fun h => ⟨rfl, h⟩) id
    simp only [updH, if_pos hW] at hb
    have hb : H'.get q = some b := hb
    obtain ⟨_, hr⟩ := closedFrom_spec hp2 q b hb
    exact (hh1 q b hb).on (S := fun q => insideB ids st.H.length H'.length q = true) (e := e1) (e' := e.back e1 (insideB ids st.H.length H'.length)) rfl (fun _ h => h) hbm hbn hS2 hin hr
  · show st.H.length ≤ q ∧ q < H'.length
    by_cases hq : insideB ids st.H.length H'.length q = true
    · rcases (hT0 q).1 hq with h3 | h3
      · obtain ⟨b, hb, _⟩ := hids q h3
        have hbo := hbl q b h3 hb
        exact absurd h1 (by
          cases b with
          | box cs => obtain ⟨b, ob, arr, el, fz, g1, _⟩ := hbo; rw [g1]; simp
          | row t xs =>
            obtain ⟨_, g | ⟨b, ob, arr, el, fz, g1, _⟩⟩ := hbo
            · rw [g.1]; simp
            · rw [g1]; simp
          | urow sz es =>
            obtain ⟨_, g | ⟨b, ob, arr, el, fz, g1, _⟩⟩ := hbo
            · rw [g.1]; simp
            · rw [g1]; simp
          | tm kt vt es => obtain ⟨b, ob, ents, clock, g1, _⟩ := hbo; rw [g1]; simp)
      · exact h3
    · have : (e.back e1 (insideB ids st.H.length H'.length)).m q = e.m q := by simp only [En.back, if_neg hq]
      rw [this] at h2; exact absurd h1 h2

theorem sp_no {ops : Array Oper} {o : Oper} {i : Nat} (ho : ops[i]? = some o) {st : St U}
    (hwant : ∀ (e : En) (a : Act), (∀ d, mem d (guardLooks ops.toList o) = true → SlotRel e st.fr[d]? a.tmps[d]?) → Region.wanted o (yielded ops a.tmps) = false) (pre : Nat) :
    Sp P ops i (effOf ops.toList (o, ⟨[], false, pre, st.H.length, st.H.length⟩) undefA (fun _ => none)) (fun d => st.fr[d]?) st.H.get := by
  intro e a K Q hw hsl hbl hfr hK
  have hlooks : ∀ d, mem d (looks ops.toList o) = true → SlotRel e st.fr[d]? a.tmps[d]? := hsl
  have hwanted := hwant e a (fun d hd => hlooks d (by unfold looks; exact mem_append.2 (.inr hd)))
  unfold wpOp
  rw [ho]
  simp only [hwanted, Bool.false_eq_true, if_false]
  refine hK undef e hw (.refl _ _) (.tup rfl (by simp)) (fun q b hq hb => ?_) (fun q h1 h2 => absurd h1 h2)
  rcases hq with hq | ⟨h1, h2⟩
  · have hq : mem q [] = true := hq
    simp [mem] at hq
  · have h1 : st.H.length ≤ q := h1
    have h2 : q < st.H.length := h2
    omega
/-- the operations so far, and what they did -/
def Matches (ops : List Oper) (acc : List (Oper × Rec)) (accE : List (Eff U)) : Prop :=
  accE.length = acc.length ∧ ∀ (j : Nat) (E : Eff U), accE[j]? = some E → ∃ x v b, acc[j]? = some x ∧ E = effOf ops x v b

theorem Matches.snoc {ops : List Oper} {acc : List (Oper × Rec)} {accE : List (Eff U)} (h : Matches ops acc accE) (x : Oper × Rec) (v : AV U) (b : Nat → Option (Blk U)) : Matches ops (acc ++ [x]) (accE ++ [effOf ops x v b]) := by
  refine ⟨by simp [h.1], fun j E hj => ?_⟩
  rw [List.getElem?_append] at hj ⊢
  split at hj
  · rename_i hl
    rw [if_pos (by rw [← h.1]; exact hl)]
    exact h.2 j E hj
  · rename_i hl
    rw [if_neg (by rw [← h.1]; exact hl)]
    have hj0 : j - accE.length = 0 := by
      rcases Nat.eq_zero_or_pos (j - accE.length) with h0 | h0
      · exact h0
      · rw [List.getElem?_eq_none (by simp; omega)] at hj; cases hj
    rw [hj0] at hj
    simp at hj
    rw [← h.1, hj0]
    exact ⟨x, v, b, rfl, hj.symm⟩

structure Well (ops : Array Oper) (T : List (Eff U)) (i : Nat) (E : Eff U) : Prop where
  dst : ∀ o, ops[i]? = some o → o.dst = E.dst
  apart : ∀ (j : Nat) (E' : Eff U), j < i → T[j]? = some E' → E.pre.testBit j = true ∨ Apart E' E
  pre : ∀ (o : Oper) (j : Nat), ops[i]? = some o → E.pre.testBit j = true → ∃ x ∈ o.after, Region.binds .any x = true ∧ x.on < i ∧ (j = x.on ∨ ∃ E' : Eff U, T[x.on]? = some E' ∧ E'.pre.testBit j = true)
  after : ∀ o, ops[i]? = some o → ∀ x ∈ o.after, Region.binds .any x = true → x.on < i

theorem drawK_extract (hG : EnvOK P G) (hcall : CallS P call) {ops : Array Oper} : ∀ (rest : List Oper) (acc : List (Oper × Rec)) (accE : List (Eff U)) (st : St U) (k : St U → Option R) (r : R),
    ops.toList.drop acc.length = rest → Matches ops.toList acc accE → drawK G call ops.toList rest acc st k = some r →
    ∃ (es : List (Eff U)) (st' : St U), k st' = some r ∧ st.H.length ≤ st'.H.length ∧ es.length = rest.length ∧ Chain P ops es acc.length st.H.length (fun d => st.fr[d]?) st.H.get ∧
      (∀ d, frA (fun _ => True) es acc.length (fun d => st.fr[d]?) d = st'.fr[d]?) ∧ (∀ q, hpA (fun _ => True) es acc.length st.H.get q = st'.H.get q) ∧ (∀ E ∈ es, E.hi ≤ st'.H.length) ∧
      ∀ (i : Nat) (E : Eff U), acc.length ≤ i → (accE ++ es)[i]? = some E → Well ops (accE ++ es) i E
  | [], acc, accE, st, k, r, hd, hM, h => by
    refine ⟨[], st, h, Nat.le_refl _, rfl, trivial, fun _ => rfl, fun _ => rfl, by simp, fun i E hi hE => ?_⟩
    rw [List.append_nil] at hE
    have := (List.getElem?_eq_some_iff.1 hE).1
    rw [hM.1] at this; omega
  | o :: rest, acc, accE, st, k, r, hd, hM, h => by
    have ho : ops[acc.length]? = some o := by
      have : (ops.toList.drop acc.length)[0]? = some o := by rw [hd]; rfl
      rw [List.getElem?_drop] at this
      simpa using this
    unfold drawK at h
    split at h
    · cases h
    rename_i hpre
    have hafter := preOk_spec o.after.toList hpre
    -- the rest, whichever way the guard goes
    have go : ∀ (x : Rec) (v : AV U) (blk : Nat → Option (Blk U)) (st2 : St U), x.pre = preBits acc o.after.toList → x.lo = st.H.length → x.hi = st2.H.length → st.H.length ≤ st2.H.length →
        apartFrom ops.toList o x acc 0 = true → Sp P ops acc.length (effOf ops.toList (o, x) v blk) (fun d => st.fr[d]?) st.H.get → (∀ d, updF (fun d => st.fr[d]?) o.dst v d = st2.fr[d]?) →
        (∀ q, updH st.H.get (effOf ops.toList (o, x) v blk) q = st2.H.get q) → drawK G call ops.toList rest (acc ++ [(o, x)]) st2 k = some r →
        ∃ (es : List (Eff U)) (st' : St U), k st' = some r ∧ st.H.length ≤ st'.H.length ∧ es.length = (o :: rest).length ∧ Chain P ops es acc.length st.H.length (fun d => st.fr[d]?) st.H.get ∧
          (∀ d, frA (fun _ => True) es acc.length (fun d => st.fr[d]?) d = st'.fr[d]?) ∧ (∀ q, hpA (fun _ => True) es acc.length st.H.get q = st'.H.get q) ∧ (∀ E ∈ es, E.hi ≤ st'.H.length) ∧
          ∀ (i : Nat) (E : Eff U), acc.length ≤ i → (accE ++ es)[i]? = some E → Well ops (accE ++ es) i E := by
      intro x v blk st2 hxp hxl hxh hle hap hsp hfr hhp hdr
      have hd' : ops.toList.drop (acc ++ [(o, x)]).length = rest := by
        have : ops.toList.drop (acc.length + 1) = (ops.toList.drop acc.length).drop 1 := by rw [List.drop_drop]
        rw [List.length_append, List.length_singleton, this, hd]; rfl
      obtain ⟨es, st', g1, g2, g3, g4, g5, g6, g7, g8⟩ := drawK_extract hG hcall rest (acc ++ [(o, x)]) (accE ++ [effOf ops.toList (o, x) v blk]) st2 k r hd' (hM.snoc _ v blk) hdr
      have hl1 : (acc ++ [(o, x)]).length = acc.length + 1 := by simp
      rw [hl1] at g4 g5 g6 g8
      have efr : (fun d => st2.fr[d]?) = updF (fun d => st.fr[d]?) o.dst v := funext fun d => (hfr d).symm
      have ehp : st2.H.get = updH st.H.get (effOf ops.toList (o, x) v blk) := funext fun q => (hhp q).symm
      have hT : accE ++ [effOf ops.toList (o, x) v blk] ++ es = accE ++ effOf ops.toList (o, x) v blk :: es := by simp
      rw [hT] at g8
      refine ⟨effOf ops.toList (o, x) v blk :: es, st', g1, by omega, by simp [g3], ⟨hxl, by show st.H.length ≤ x.hi; omega, hsp, ?_⟩, fun d => ?_, fun q => ?_, fun E hE => ?_, fun i E hi hE => ?_⟩
      · have : (effOf ops.toList (o, x) v blk).hi = st2.H.length := hxh
        rw [this, ← ehp]
        have e2 : updF (fun d => st.fr[d]?) (effOf ops.toList (o, x) v blk).dst (effOf ops.toList (o, x) v blk).v = fun d => st2.fr[d]? := efr.symm
        rw [e2]
        exact g4
      · simp only [frA, if_true]
        have e2 : updF (fun d => st.fr[d]?) (effOf ops.toList (o, x) v blk).dst (effOf ops.toList (o, x) v blk).v = fun d => st2.fr[d]? := efr.symm
        rw [e2]; exact g5 d
      · simp only [hpA, if_true]
        rw [← ehp]; exact g6 q
      · rcases List.mem_cons.1 hE with rfl | hE
        · show x.hi ≤ _; omega
        · exact g7 E hE
      · rcases Nat.lt_or_eq_of_le hi with hi | hi
        · exact g8 i E (by omega) hE
        · subst hi
          have hEe : E = effOf ops.toList (o, x) v blk := by
            rw [List.getElem?_append_right (by rw [hM.1]; exact Nat.le_refl _), hM.1, Nat.sub_self] at hE
            simpa using hE.symm
          subst hEe
          have early : ∀ (j : Nat) (E' : Eff U), j < acc.length → (accE ++ effOf ops.toList (o, x) v blk :: es)[j]? = some E' → ∃ y v b, acc[j]? = some y ∧ E' = effOf ops.toList y v b := by
            intro j E' hj hE'
            rw [List.getElem?_append_left (by rw [hM.1]; exact hj)] at hE'
            exact hM.2 j E' hE'
          refine ⟨fun o' ho' => ?_, fun j E' hj hE' => ?_, fun o' j ho' hj => ?_, fun o' ho' y hy hb => ?_⟩
          · rw [ho] at ho'; cases ho'; rfl
          · obtain ⟨y, v', b', hy, rfl⟩ := early j E' hj hE'
            have := apartFrom_spec acc 0 hap j y hy
            rw [Nat.zero_add] at this
            exact this.imp id (fun hh => apart_of (x := y) (y := (o, x)) hh v' v b' blk)
          · rw [ho] at ho'; cases ho'
            have hj : x.pre.testBit j = true := hj
            rw [hxp] at hj
            obtain ⟨y, hy, hb, hor⟩ := preBits_spec o.after.toList j hj
            have hlt := hafter y hy hb
            refine ⟨y, by simpa using hy, hb, hlt, hor.imp id (fun ⟨z, hz, hzj⟩ => ?_)⟩
            have hlt2 : y.on < accE.length := by rw [hM.1]; exact hlt
            have hg : (accE ++ effOf ops.toList (o, x) v blk :: es)[y.on]? = some accE[y.on] := by rw [List.getElem?_append_left hlt2, List.getElem?_eq_getElem hlt2]
            obtain ⟨z', v', b', hz', he⟩ := early y.on _ hlt hg
            rw [hz] at hz'; cases hz'
            refine ⟨_, hg, ?_⟩
            rw [he]; exact hzj
          · rw [ho] at ho'; cases ho'
            exact hafter y (by simpa using hy) hb
    rcases guardK_spec h with ⟨h1, hw⟩ | ⟨h1, hw⟩
    · split at h1
      · rename_i hft0
        split at h1
        · cases h1
        rename_i ids hft
        obtain ⟨v, H', hk, hl, hsp⟩ := sp_call hG hcall ho hft h1 hw
        dsimp only at hk
        split at hk
        · cases hk
        rename_i hpost
        split at hk
        · cases hk
        rename_i hap
        refine go ⟨ids, true, preBits acc o.after.toList, st.H.length, H'.length⟩ v H'.get _ rfl rfl ?_ ?_ hap (hsp hpost _) (fun d => (put_get st.fr o.dst v d).symm) (fun q => ?_) hk
        · show H'.length = (mergeD true ids st.H H').length
          rw [mergeD_length true ids st.H H' hl]
        · show st.H.length ≤ (mergeD true ids st.H H').length
          rw [mergeD_length true ids st.H H' hl]; exact hl
        · show _ = (mergeD true ids st.H H').get q
          rw [mergeD_get true ids st.H H' hl]
          by_cases hW : (effOf ops.toList (o, ⟨ids, true, preBits acc o.after.toList, st.H.length, H'.length⟩) v H'.get).W q
          · simp only [updH, if_pos hW]
            have : (True ∧ mem q ids = true) ∨ st.H.length ≤ q := hW.imp (fun h => ⟨trivial, h.2⟩) (fun h => h.1)
            rw [if_pos this]; rfl
          · simp only [updH, if_neg hW]
            by_cases hc : (True ∧ mem q ids = true) ∨ st.H.length ≤ q
            · rw [if_pos hc]
              have hge : st.H.length ≤ q := hc.resolve_left (fun hh => hW (.inl ⟨rfl, hh.2⟩))
              have hge2 : H'.length ≤ q := by
                rcases Nat.lt_or_ge q H'.length with hlt | hge2
                · exact absurd (Or.inr ⟨hge, hlt⟩) hW
                · exact hge2
              rw [Heap.get_ge hge, Heap.get_ge hge2]
            · rw [if_neg hc]
      rename_i ids0 hft
      obtain ⟨v, H', hk, hl, hsp⟩ := sp_yes (ids := wide o.op st.H ids0) hG hcall ho hft h1 hw
      dsimp only at hk
      split at hk
      · cases hk
      rename_i hap
      refine go ⟨wide o.op st.H ids0, writes o.op, preBits acc o.after.toList, st.H.length, H'.length⟩ v H'.get _ rfl rfl ?_ ?_ hap (hsp _) (fun d => (put_get st.fr o.dst v d).symm) (fun q => ?_) hk
      · show H'.length = (mergeD _ _ _ _).length
        rw [mergeD_length _ _ _ _ hl]
      · show st.H.length ≤ (mergeD _ _ _ _).length
        rw [mergeD_length _ _ _ _ hl]; exact hl
      · show _ = (mergeD _ _ _ _).get q
        rw [mergeD_get _ _ _ _ hl]
        by_cases hW : (effOf ops.toList (o, ⟨wide o.op st.H ids0, writes o.op, preBits acc o.after.toList, st.H.length, H'.length⟩) v H'.get).W q
        · simp only [updH, if_pos hW]
          have : (writes o.op = true ∧ mem q (wide o.op st.H ids0) = true) ∨ st.H.length ≤ q := hW.imp id (fun h => h.1)
          rw [if_pos this]; rfl
        · simp only [updH, if_neg hW]
          by_cases hc : (writes o.op = true ∧ mem q (wide o.op st.H ids0) = true) ∨ st.H.length ≤ q
          · rw [if_pos hc]
            have hge : st.H.length ≤ q := hc.resolve_left (fun hh => hW (.inl hh))
            have hge2 : H'.length ≤ q := by
              rcases Nat.lt_or_ge q H'.length with hlt | hge2
              · exact absurd (Or.inr ⟨hge, hlt⟩) hW
              · exact hge2
            rw [Heap.get_ge hge, Heap.get_ge hge2]
          · rw [if_neg hc]
    · dsimp only at h1
      split at h1
      · cases h1
      rename_i hap
      refine go ⟨[], false, preBits acc o.after.toList, st.H.length, st.H.length⟩ undefA (fun _ => none) { st with fr := put st.fr o.dst undefA } rfl rfl rfl (Nat.le_refl _) hap (sp_no ho hw _) (fun d => (put_get st.fr o.dst undefA d).symm) (fun q => ?_) h1
      have hW : ¬ (effOf ops.toList (o, ⟨[], false, preBits acc o.after.toList, st.H.length, st.H.length⟩) (undefA : AV U) (fun _ => none)).W q := by
        rintro (⟨hh, _⟩ | ⟨h1, h2⟩)
        · cases hh
        · have h1 : st.H.length ≤ q := h1
          have h2 : q < st.H.length := h2
          omega
      simp only [updH, if_neg hW]

theorem draw_region (hG : EnvOK P G) (hcall : CallS P call) (hm : P.follows .mixedOrders = true) {id : Nat} {ops : Array Oper} {st : St U} {k : St U → Option R} {r : R} (h : drawK G call ops.toList ops.toList [] st k = some r) :
    ∃ st', k st' = some r ∧ st.H.length ≤ st'.H.length ∧ ∀ (e : En) (a : Act) (Q : Exit → Act → World → Prop), StRel e st a →
      (∀ (e' : En) (a' : Act), StRel e' st' a' → Evo allD e e' → Q .normal a' e'.w) → (Code.region id ops true).wp P Q a e.w := by
  obtain ⟨es, st', g1, g2, g3, g4, g5, g6, g7, g8⟩ := drawK_extract hG hcall ops.toList [] [] st k r rfl ⟨rfl, by simp⟩ h
  refine ⟨st', g1, g2, fun e a Q hst hQ => wp_region_any hm ?_⟩
  simp only [List.nil_append, List.length_nil, Nat.zero_le, true_implies] at g8 g4 g5 g6
  have hplan : Plan P ops es st.H.length (fun d => st.fr[d]?) st.H.get := ⟨g4, by simpa using g3, fun i E o hE ho => (g8 i E hE).dst o ho, fun i j E E' hj hE hE' => (g8 i E hE).apart j E' hj hE',
    fun i E o j hE ho hj => (g8 i E hE).pre o j ho hj, fun i o ho x hx hb => by
      have hi : i < es.length := by rw [g3]; simpa using (Array.getElem?_eq_some_iff.1 ho).1
      exact (g8 i es[i] (List.getElem?_eq_getElem hi)).after o ho x hx hb⟩
  obtain ⟨e0, he0⟩ : ∃ e0 : En, e0 = { e with w := { e.w with drawn := e.w.drawn + 1 } } := ⟨_, rfl⟩
  have hw0 : e0.w = { e.w with drawn := e.w.drawn + 1 } := by rw [he0]
  have hE0 : Evo noD e e0 := by
    subst he0
    exact ⟨Nat.le_refl _, fun _ _ _ => rfl, fun b arr el fz h => ⟨arr, fz, h, rfl⟩, fun _ _ h => .inl h, fun _ _ _ => rfl, fun _ _ _ h => .inl h, fun _ h => h, fun _ h => .inl h, ⟨rfl, rfl⟩⟩
  have hwf0 : WF e0 := by subst he0; exact ⟨hst.wf.iLt, hst.wf.mLt, hst.wf.mI, hst.wf.inj⟩
  have hm0 : ∀ k, e0.m k = e.m k := fun k => by rw [he0]
  rw [← hw0]
  have hnone : ∀ j, (Array.replicate ops.size false).getD j false = false := by
    intro j
    simp only [Array.getD_eq_getD_getElem?, Array.getElem?_replicate]
    split <;> rfl
  have hfS : ∀ (es : List (Eff U)) (i : Nat) (f : Fr U), frA (fun j => (Array.replicate ops.size false).getD j false = true) es i f = f := by
    intro es i f
    funext d
    exact frA_same _ d es i f (fun j E _ hS => by rw [hnone] at hS; cases hS)
  have hhS : ∀ (es : List (Eff U)) (i : Nat) (f : Hp U), hpA (fun j => (Array.replicate ops.size false).getD j false = true) es i f = f := by
    intro es i f
    funext d
    exact hpA_same _ d es i f (fun j E _ hS => by rw [hnone] at hS; cases hS)
  refine order_any hplan (fun i E hE => (hplan.chain.get i E hE).1) ops.size _ e0 a (by simp) ?_ (fun i E j hi => by rw [hnone] at hi; cases hi) ⟨hwf0, fun d => ?_, fun q b hb => ?_, fun q hq hne => ?_, hst.defers⟩ (fun e' a' hI hE => ?_)
  · refine Nat.le_trans (List.length_filter_le _ _) (by simp)
  · rw [hfS]
    cases hx : st.fr[d]? with
    | none =>
      have h1 := List.getElem?_eq_none_iff.1 hx
      have h2 : a.tmps[d]? = none := Array.getElem?_eq_none (by have := hst.fr.1; simp at this; omega)
      rw [h2]; trivial
    | some v =>
      obtain ⟨c, h1, h2⟩ := RelL.get hst.fr hx
      have h1 : a.tmps[d]? = some c := by simpa using h1
      rw [h1]
      exact h2.mono hE0 hst.wf
  · rw [hhS] at hb
    exact (hst.heap q b hb).mono hE0 hst.wf (fun h => h)
  · exact absurd (by rw [hm0]; exact hst.fresh q hq) hne
  · refine hQ e' a' ⟨⟨?_, fun j x v hx hv => ?_⟩, fun q b hb => ?_, hI.wf, fun q hq => ?_, hI.defers⟩ (hE0.all.trans hE)
    · -- lengths
      have hs : ∀ d : Nat, (st'.fr[d]?).isSome = (a'.tmps[d]?).isSome := by
        intro d
        have := hI.fr d
        rw [g5] at this
        cases h1 : st'.fr[d]? <;> cases h2 : a'.tmps[d]? <;> rw [h1, h2] at this <;> first | rfl | exact absurd this (fun h => h)
      rcases Nat.lt_trichotomy st'.fr.length a'.tmps.toList.length with hlt | heq | hgt
      · have := hs st'.fr.length
        rw [List.getElem?_eq_none (Nat.le_refl _), Array.getElem?_eq_getElem (by simpa using hlt)] at this
        cases this
      · exact heq
      · have := hs a'.tmps.size
        rw [Array.getElem?_eq_none (Nat.le_refl _), List.getElem?_eq_getElem (by simpa using hgt)] at this
        cases this
    · have := hI.fr j
      rw [g5, hx] at this
      have hv : a'.tmps[j]? = some v := by simpa using hv
      rw [hv] at this
      exact this
    · exact hI.hp q b (by rw [g6]; exact hb)
    · cases hmq : e'.m q with
      | none => rfl
      | some l =>
        obtain ⟨i, E, _, hE', g⟩ := hI.new q (by omega) (by rw [hmq]; simp)
        have := g7 E (List.mem_of_getElem? hE')
        omega
end

end Am
