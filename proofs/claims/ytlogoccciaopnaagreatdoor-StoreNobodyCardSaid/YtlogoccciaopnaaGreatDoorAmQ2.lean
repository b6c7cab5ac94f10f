/- Rows become frozen data. Regions in the text's order. -/
import Derived.Test.YtlogoccciaopnaaGreatDoorAmP5
namespace Am
open Go
variable {U : TyU} {R : Type} {P : Program} {G : Env U}

def isRow (H : Heap U) (k : Nat) : Prop := ∃ t xs, H.get k = some (.row t xs)

open Classical in
noncomputable def En.freeze (e : En) (H : Heap U) (ids : List Nat) : En :=
  { w := e.w, m := fun k => if mem k ids = true ∧ isRow H k then (match e.m k with | some _ => some .dead | none => none) else e.m k, n := e.n, I := fun b => e.I b ∨ ∃ k o, mem k ids = true ∧ isRow H k ∧ e.m k = some (.at b o) }

section
variable {e : En} {H : Heap U} {ids : List Nat}

theorem freeze_m {k : Nat} {l : Loc} (h : (e.freeze H ids).m k = some l) : (e.m k = some l ∧ ¬ (mem k ids = true ∧ isRow H k)) ∨ (l = .dead ∧ mem k ids = true ∧ isRow H k) := by
  simp only [En.freeze] at h
  split at h
  · rename_i hc
    split at h
    · cases h; exact .inr ⟨rfl, hc⟩
    · cases h
  · rename_i hc; exact .inl ⟨h, hc⟩

theorem freeze_dead {k : Nat} (hm : mem k ids = true) (hr : isRow H k) {l : Loc} (h : e.m k = some l) : (e.freeze H ids).m k = some .dead := by
  simp only [En.freeze, h]
  rw [if_pos ⟨hm, hr⟩]

theorem freeze_keep {k : Nat} (hm : ¬ (mem k ids = true ∧ isRow H k)) : (e.freeze H ids).m k = e.m k := by
  simp only [En.freeze]
  rw [if_neg hm]

theorem freeze_wf (hw : WF e) : WF (e.freeze H ids) where
  iLt b hb := by
    rcases hb with hb | ⟨k, o, _, _, hm⟩
    · exact hw.iLt b hb
    · exact hw.mLt k b o hm
  mLt k b o hm := by
    rcases freeze_m hm with ⟨h, _⟩ | ⟨h, _⟩
    · exact hw.mLt k b o h
    · cases h
  mI k b o hm hb := by
    rcases freeze_m hm with ⟨h, hn⟩ | ⟨h, _⟩
    · rcases hb with hb | ⟨k2, o2, h1, h2, h3⟩
      · exact hw.mI k b o h hb
      · have := hw.inj k k2 b o o2 h h3
        subst this
        exact hn ⟨h1, h2⟩
    · cases h
  inj k k' b o o' h h' := by
    rcases freeze_m h with ⟨h1, _⟩ | ⟨h1, _⟩
    · rcases freeze_m h' with ⟨h2, _⟩ | ⟨h2, _⟩
      · exact hw.inj k k' b o o' h1 h2
      · cases h2
    · cases h1

theorem freeze_evo : Evo (fun k => mem k ids = true ∧ isRow H k) e (e.freeze H ids) where
  io := ⟨rfl, rfl⟩
  size := Nat.le_refl _
  keep _ _ _ := rfl
  shape b arr el fz h := ⟨arr, fz, h, rfl⟩
  old k l hl := by
    by_cases hc : mem k ids = true ∧ isRow H k
    · exact .inr ⟨hc, freeze_dead hc.1 hc.2 hl⟩
    · exact .inl (by rw [freeze_keep hc]; exact hl)
  len _ _ _ := rfl
  new k b o hm := by
    rcases freeze_m hm with ⟨h, _⟩ | ⟨h, _⟩
    · exact .inl h
    · cases h
  iOld b hb := .inl hb
  iNew b hb := by
    rcases hb with hb | ⟨k, o, h1, h2, h3⟩
    · exact .inl hb
    · exact .inr (.inr ⟨k, o, ⟨h1, h2⟩, h3⟩)

theorem subL_get : ∀ (l : List (AV U)) (j : Nat), (subL H ids l)[j]? = l[j]?.map (sub H ids)
  | [], j => by simp [subL]
  | v :: l, 0 => by simp [subL]
  | v :: l, j + 1 => by simp [subL]; exact subL_get l j

theorem subL_length : ∀ (l : List (AV U)), (subL H ids l).length = l.length
  | [] => rfl
  | v :: l => by simp [subL, subL_length l]

theorem okCell_sub (v : AV U) : okCell (sub H ids v) = okCell v := by
  cases v <;> simp only [sub] <;> repeat (first | rfl | split)

theorem okCells_sub : ∀ (l : List (AV U)), okCells (subL H ids l) = okCells l
  | [] => rfl
  | v :: l => by simp only [subL, okCells, okCell_sub, okCells_sub l]

theorem sub_rel (hw : WF e) (hh : HeapRel e H.get) {v : AV U} {c : Value} (hr : Rel e v c) : Rel (e.freeze H ids) (sub H ids v) c := by
  have hE := freeze_evo (e := e) (H := H) (ids := ids)
  induction hr with
  | junk => simp only [sub]; exact .junk
  | bool => simp only [sub]; exact .bool
  | int => simp only [sub]; exact .int
  | str => simp only [sub]; exact .str
  | nilp => simp only [sub]; exact .nilp
  | ptrDead hm => simp only [sub]; exact (Rel.ptrDead hm).mono hE hw
  | ptr hm => simp only [sub]; exact (Rel.ptr hm).mono hE hw
  | fptr hI hc hr ih => simp only [sub]; exact (Rel.fptr hI hc hr).mono hE hw
  | nilsl => simp only [sub]; exact .nilsl
  | fslE ha => simp only [sub]; exact .fslE ha
  | fsl hI hl hc hr ih => simp only [sub]; exact (Rel.fsl hI hl hc hr).mono hE hw
  | bptr hI hc hr ih => simp only [sub]; exact (Rel.bptr hI hc hr).mono hE hw
  | bslE => simp only [sub]; exact .bslE
  | brow hr hx ih => simp only [sub]; exact (Rel.brow hr hx).mono hE hw
  | tptr hr hx ih => simp only [sub]; exact (Rel.tptr hr hx).mono hE hw
  | bsl hI hl hc hr ih => simp only [sub]; exact (Rel.bsl hI hl hc hr).mono hE hw
  | nsl hr ih => simp only [sub]; exact (Rel.nsl hr).mono hE hw
  | @mrowDead k sz l cc a hm =>
    simp only [sub]
    split
    · split
      · rename_i t xs hb
        rcases (hh k _ hb).2 with ⟨h1, _⟩ | ⟨_, _, _, _, _, h1, _⟩ <;> rw [hm] at h1 <;> cases h1
      · exact (Rel.mrowDead hm).mono hE hw
    · exact (Rel.mrowDead hm).mono hE hw
  | @mrowE k sz a l hm hn =>
    simp only [sub]
    split
    · split
      · rename_i t xs hb
        split
        · have : xs = [] := List.length_eq_zero_iff.1 (by rw [← (hh k _ hb).1]; exact hn)
          subst this
          exact .fslE (fun _ => rfl)
        · exact (Rel.mrowE hm hn).mono hE hw
      · exact (Rel.mrowE hm hn).mono hE hw
    · exact (Rel.mrowE hm hn).mono hE hw
  | @mrow k sz cap b ob hm hl hfit =>
    simp only [sub]
    split
    · rename_i hid
      split
      · rename_i t xs hb
        split
        · rename_i hsz
          rw [(hh k _ hb).1] at hl ⊢
          refine Rel.mk_fsl (e := e.freeze H ids) (Or.inr ⟨k, ob, hid, ⟨t, xs, hb⟩, hm⟩) hl (fun i x hx j y hy => ?_)
          obtain ⟨_, _, h3⟩ := row_elems hb hh hm i (enc t x) (by simp [hx])
          obtain ⟨v, v1, v2⟩ := h3 j y hy
          exact ⟨v, v1, v2.mono hE hw⟩
        · exact (Rel.mrow hm hl hfit).mono hE hw
      · exact (Rel.mrow hm hl hfit).mono hE hw
    · exact (Rel.mrow hm hl hfit).mono hE hw
  | @mslDead k sz lo len cap a hm hl =>
    simp only [sub]
    split
    · split
      · rename_i t xs hb
        rcases (hh k _ hb).2 with ⟨h1, _⟩ | ⟨_, _, _, _, _, h1, _⟩ <;> rw [hm] at h1 <;> cases h1
      · exact (Rel.mslDead hm hl).mono hE hw
    · exact (Rel.mslDead hm hl).mono hE hw
  | @mslE k sz lo a l hm =>
    simp only [sub]
    split
    · split
      · split
        · simp only [List.take_zero]; exact .fslE (fun _ => rfl)
        · exact (Rel.mslE hm).mono hE hw
      · exact (Rel.mslE hm).mono hE hw
    · exact (Rel.mslE hm).mono hE hw
  | @msl k sz lo len cap b ob hm hl hfit =>
    simp only [sub]
    split
    · rename_i hid
      split
      · rename_i t xs hb
        split
        · rename_i hsz
          rw [Bool.and_eq_true] at hsz
          have hsz1 : sz = (U.shape t).length := Nat.eq_of_beq_eq_true hsz.1
          have hle : lo + len ≤ xs.length := Nat.le_of_ble_eq_true hsz.2
          obtain ⟨g1, g2⟩ := part_elems (lo := lo) (len := len) (es := xs.map (enc t)) (by simpa using hle) (row_elems hb hh hm)
          have hlen : ((xs.drop lo).take len).length = len := by simp; omega
          have := Rel.mk_fsl (e := e.freeze H ids) (t := t) (xs := (xs.drop lo).take len) (b := b) (ob := ob + lo * sz) (cap := cap) (Or.inr ⟨k, ob, hid, ⟨t, xs, hb⟩, hm⟩) (by omega) (fun i x hx j y hy => by
            have hx' : ((List.map (enc t) xs).drop lo |>.take len)[i]? = some (enc t x) := by
              rw [← List.map_drop, ← List.map_take, List.getElem?_map, hx]; rfl
            obtain ⟨_, _, h3⟩ := g2 i (enc t x) hx'
            obtain ⟨v, v1, v2⟩ := h3 j y hy
            exact ⟨v, by rw [hsz1]; exact v1, v2.mono hE hw⟩)
          rw [hlen] at this
          exact this
        · exact (Rel.msl hm hl hfit).mono hE hw
      · exact (Rel.msl hm hl hfit).mono hE hw
    · exact (Rel.msl hm hl hfit).mono hE hw
  | nilmap => simp only [sub]; exact .nilmap
  | mapDead hm => simp only [sub]; exact (Rel.mapDead hm).mono hE hw
  | map hm => simp only [sub]; exact (Rel.map hm).mono hE hw
  | fn ha hb _ _ iha ihb =>
    simp only [sub]
    refine .fn ((subL_length _).trans ha) ((subL_length _).trans hb) (fun j x v hx hv => ?_) (fun j x v hx hv => ?_)
    · rw [subL_get, Option.map_eq_some_iff] at hx
      obtain ⟨y, hy, rfl⟩ := hx
      exact iha j y v hy hv
    · rw [subL_get, Option.map_eq_some_iff] at hx
      obtain ⟨y, hy, rfl⟩ := hx
      exact ihb j y v hy hv
  | nilfn => simp only [sub]; exact .nilfn
  | iface _ ih => simp only [sub]; exact .iface ih
  | nilif => simp only [sub]; exact .nilif
  | agg hl _ ih =>
    simp only [sub]
    refine .agg ((subL_length _).trans hl) (fun j x v hx hv => ?_)
    rw [subL_get, Option.map_eq_some_iff] at hx
    obtain ⟨y, hy, rfl⟩ := hx
    exact ih j y v hy hv
  | tup hl _ ih =>
    simp only [sub]
    refine .tup ((subL_length _).trans hl) (fun j x v hx hv => ?_)
    rw [subL_get, Option.map_eq_some_iff] at hx
    obtain ⟨y, hy, rfl⟩ := hx
    exact ih j y v hy hv

theorem subL_rel (hw : WF e) (hh : HeapRel e H.get) {l : List (AV U)} {vs : List Value} (hr : RelL e l vs) : RelL (e.freeze H ids) (subL H ids l) vs := by
  refine ⟨(subL_length _).trans hr.1, fun j x v hx hv => ?_⟩
  rw [subL_get, Option.map_eq_some_iff] at hx
  obtain ⟨y, hy, rfl⟩ := hx
  exact sub_rel hw hh (hr.2 j y v hy hv)

theorem killH_length : ∀ (ids : List Nat) (H : Heap U), (killH ids H).length = H.length
  | [], _ => rfl
  | k :: l, H => by simp [killH, killH_length l]

theorem killH_get : ∀ (ids : List Nat) (H : Heap U) (j : Nat), (killH ids H).get j = if mem j ids = true then none else H.get j
  | [], H, j => by simp [killH, mem]
  | k :: l, H, j => by
    simp only [killH, mem]
    rw [killH_get l, Heap.get_set']
    by_cases hj : j = k
    · subst hj
      have : Nat.beq j j = true := Nat.beq_refl j
      simp [this]
    · have : Nat.beq k j = false := by
        cases hh : Nat.beq k j with
        | false => rfl
        | true => exact absurd (Nat.eq_of_beq_eq_true hh).symm hj
      simp [this, hj]

theorem subH_length : ∀ (H' : Heap U), (subH H ids H').length = H'.length
  | [] => rfl
  | none :: l => by simp [subH, subH_length l]
  | some b :: l => by simp [subH, subH_length l]

theorem subH_get : ∀ (H' : Heap U) (j : Nat), (subH H ids H').get j = (H'.get j).map (subB H ids)
  | [], j => by simp [subH, Heap.get]
  | none :: l, 0 => by simp [subH, Heap.get]
  | some b :: l, 0 => by simp [subH, Heap.get]
  | none :: l, j + 1 => by
    have := subH_get l j
    simpa [subH, Heap.get] using this
  | some b :: l, j + 1 => by
    have := subH_get l j
    simpa [subH, Heap.get] using this

theorem sub_blk (hw : WF e) (hh : HeapRel e H.get) {k : Nat} {b : Blk U} (hk : mem k ids ≠ true) (hb : BlkOK e k b) : BlkOK (e.freeze H ids) k (subB H ids b) := by
  have hn : ¬ (mem k ids = true ∧ isRow H k) := fun h => hk h.1
  have hm := freeze_keep (e := e) hn
  cases b with
  | box cs =>
    obtain ⟨b, ob, arr, el, fz, h1, h2, h3, h4, h5⟩ := hb
    refine ⟨b, ob, arr, el, fz, by rw [hm]; exact h1, h2, by rw [subL_length]; exact h3, h4, fun j c hj => ?_⟩
    rw [subL_get, Option.map_eq_some_iff] at hj
    obtain ⟨y, hy, rfl⟩ := hj
    obtain ⟨v, v1, v2⟩ := h5 j y hy
    exact ⟨v, v1, sub_rel hw hh v2⟩
  | row t xs => exact hb.mono freeze_evo hw hn
  | tm kt vt es => exact hb.mono freeze_evo hw hn
  | urow sz es =>
    obtain ⟨hl, hb⟩ := hb
    refine ⟨by simpa [En.freeze] using hl, ?_⟩
    rcases hb with ⟨h1, h2⟩ | ⟨b, ob, arr, el, fz, h1, h2, h3, h4, h5⟩
    · exact .inl ⟨by rw [hm]; exact h1, by rw [h2]; rfl⟩
    · refine .inr ⟨b, ob, arr, el, fz, by rw [hm]; exact h1, h2, by simpa using h3, h4, fun i x hx => ?_⟩
      rw [List.getElem?_map, Option.map_eq_some_iff] at hx
      obtain ⟨y, hy, rfl⟩ := hx
      obtain ⟨g1, g2, g3⟩ := h5 i y hy
      refine ⟨by rw [subL_length]; exact g1, by rw [okCells_sub]; exact g2, fun j c hj => ?_⟩
      rw [subL_get, Option.map_eq_some_iff] at hj
      obtain ⟨z, hz, rfl⟩ := hj
      obtain ⟨v, v1, v2⟩ := g3 j z hz
      exact ⟨v, v1, sub_rel hw hh v2⟩
end

theorem freezeSt_sound (ids : List Nat) {e : En} {st : St U} {a : Act} (h : StRel e st a) : ∃ e', StRel e' (freezeSt ids st) a ∧ e'.w = e.w ∧ Evo (dom st.H.get) e e' := by
  cases ids with
  | nil => exact ⟨e, h, rfl, .refl _ _⟩
  | cons k l =>
    refine ⟨e.freeze st.H (k :: l), ⟨subL_rel h.wf h.heap h.fr, fun j b hb => ?_, freeze_wf h.wf, fun j hj => ?_, h.defers⟩, rfl, freeze_evo.weaken ?_⟩
    · simp only [freezeSt] at hb
      rw [killH_get] at hb
      split at hb
      · cases hb
      · rename_i hn
        rw [subH_get, Option.map_eq_some_iff] at hb
        obtain ⟨b', hb', rfl⟩ := hb
        exact sub_blk h.wf h.heap hn (h.heap j b' hb')
    · simp only [freezeSt] at hj
      rw [killH_length, subH_length] at hj
      have := h.fresh j hj
      cases hm : (e.freeze st.H (k :: l)).m j with
      | none => rfl
      | some lo =>
        rcases freeze_m hm with ⟨h1, _⟩ | ⟨_, _, t, xs, hb⟩
        · rw [this] at h1; cases h1
        · have := Heap.get_lt hb; omega
    · rintro j ⟨_, t, xs, hb⟩
      show st.H.get j ≠ none
      rw [hb]; simp

end Am

namespace Am
open Go
variable {U : TyU} {R : Type} {P : Program} {G : Env U}

theorem StRel.evo_step {e e' : En} {st : St U} {a : Act} (h : StRel e st a) (hE : Evo allD e e') {v : AV U} {c : Value} (hw : WF e') (hv : Rel e' v c) {H' : Heap U} (hh : HeapRel e' H'.get) (hf : ∀ k, H'.length ≤ k → e'.m k = none) (d : Option Tmp) :
    StRel e' { fr := put st.fr d v, H := H' } (a.put d c) where
  fr := (FrRel.mono hE h.wf h.fr).put hv d
  heap := hh
  wf := hw
  fresh := hf
  defers := by rw [put_defers]; exact h.defers

section
variable {call : FuncId → List (AV U) → Heap U → (AV U → Heap U → Option R) → Option R}

theorem freezeSt_length (ids : List Nat) (st : St U) : (freezeSt ids st).H.length = st.H.length := by
  cases ids with
  | nil => rfl
  | cons k l => simp only [freezeSt]; rw [killH_length, subH_length]

theorem stepK_sound (hG : EnvOK P G) (hcall : CallS P call) {o : Oper} {st : St U} {k : St U → Option R} {r : R} (h : stepK G call o st k = some r) :
    ∃ st', k st' = some r ∧ st.H.length ≤ st'.H.length ∧ ∀ (e : En) (a : Act) (K : Act → World → Prop) (Q : Exit → Act → World → Prop), StRel e st a →
      (∀ (e' : En) (a' : Act), StRel e' st' a' → Evo allD e e' → K a' e'.w) → o.wp P a e.w K Q := by
  unfold stepK at h
  obtain ⟨v, H', hk, hl, hs⟩ := opK_sound hG hcall h
  have hs : OpF P o (freezeSt (needFreeze G o.op st.fr st.H) st).fr (freezeSt (needFreeze G o.op st.fr st.H) st).H v H' := hs.elim (fun h => h.1.toF hl) (fun h => h.2)
  refine ⟨_, hk, by rw [freezeSt_length] at hl; exact hl, fun e a K Q hst hK => ?_⟩
  obtain ⟨e1, h1, hw1, hE1⟩ := freezeSt_sound (needFreeze G o.op st.fr st.H) hst
  rw [← hw1]
  refine hs e1 a K Q h1.wf (fun x => h1.fr.ev x) h1.heap h1.fresh (fun c e' hw' hE hv hh' hf' => ?_)
  exact hK e' _ (h1.evo_step hE hw' hv hh' hf' o.dst) (hE1.all.trans hE)

theorem FrRel.set {e : En} {fr : List (AV U)} {t : Array Value} (h : FrRel e fr t) {d : Nat} {v : AV U} (hv : ∀ c, t[d]? = some c → Rel e v c) : FrRel e (fr.set d v) t := by
  refine ⟨by simpa using h.1, fun j x u hx hu => ?_⟩
  by_cases hj : d = j
  · subst hj
    rw [List.getElem?_set, if_pos rfl] at hx
    split at hx
    · cases hx; exact hv u (by simpa using hu)
    · cases hx
  · rw [List.getElem?_set_ne hj] at hx
    exact h.2 j x u hx hu

theorem FrRel.slot {e : En} {fr : List (AV U)} {t : Array Value} (h : FrRel e fr t) {d : Nat} {v : AV U} (hv : fr.getD d undefA = v) (hne : v ≠ undefA) : ∃ c, t[d]? = some c ∧ Rel e v c := by
  rw [List.getD_eq_getElem?_getD] at hv
  cases hd : fr[d]? with
  | none => rw [hd] at hv; exact absurd hv.symm hne
  | some x =>
    rw [hd] at hv
    simp at hv; subst hv
    obtain ⟨c, h1, h2⟩ := RelL.get h hd
    exact ⟨c, by simpa using h1, h2⟩

theorem guardK_sound {ops : Array Oper} {o : Oper} {st : St U} {yes no : St U → Option R} {r : R} (h : guardK ops.toList o st yes no = some r) :
    (∃ st', yes st' = some r ∧ st'.H = st.H ∧ ∀ (e : En) (a : Act), FrRel e st.fr a.tmps → FrRel e st'.fr a.tmps ∧ Region.wanted o (yielded ops a.tmps) = true) ∨
    (∃ st', no st' = some r ∧ st'.H = st.H ∧ ∀ (e : En) (a : Act), FrRel e st.fr a.tmps → FrRel e st'.fr a.tmps ∧ Region.wanted o (yielded ops a.tmps) = false) := by
  unfold guardK at h
  split at h
  · rename_i hg
    exact .inl ⟨st, h, rfl, fun e a hf => ⟨hf, by simp [Region.wanted, hg]⟩⟩
  · rename_i j want hg
    split at h
    · cases h
    rename_i d hd
    have hd' : (ops[j]?).bind (·.dst) = some d := by
      unfold guardSlot at hd
      rw [Array.getElem?_toList] at hd
      cases ho : ops[j]? with
      | none => rw [ho] at hd; cases hd
      | some o' => rw [ho] at hd; exact hd
    have hy : ∀ (e : En) (a : Act) (b : Bool), st.fr.getD d undefA = .bool b → FrRel e st.fr a.tmps → a.tmps[d]? = some (.bool b) ∧ yielded ops a.tmps j = some b := by
      intro e a b hb hf
      obtain ⟨c, h1, h2⟩ := hf.slot hb (by unfold undefA; simp)
      rw [h2.bool_inv] at h1
      exact ⟨h1, by simp [yielded, hd', h1]⟩
    have hset : ∀ (e : En) (a : Act) (b : Bool), st.fr.getD d undefA = .bool b → FrRel e st.fr a.tmps → FrRel e (st.fr.set d (.bool b)) a.tmps := by
      intro e a b hb hf
      refine hf.set (fun c hc => ?_)
      rw [(hy e a b hb hf).1] at hc
      cases hc; exact .bool
    split at h
    · rename_i b hb
      split at h
      · split at h
        · exact .inl ⟨_, h, rfl, fun e a hf => ⟨hset e a _ hb hf, by simp [Region.wanted, hg, (hy e a _ hb hf).2]⟩⟩
        · exact .inr ⟨_, h, rfl, fun e a hf => ⟨hset e a _ hb hf, by simp [Region.wanted, hg, (hy e a _ hb hf).2]⟩⟩
      · split at h
        · exact .inr ⟨_, h, rfl, fun e a hf => ⟨hset e a _ hb hf, by simp [Region.wanted, hg, (hy e a _ hb hf).2]⟩⟩
        · exact .inl ⟨_, h, rfl, fun e a hf => ⟨hset e a _ hb hf, by simp [Region.wanted, hg, (hy e a _ hb hf).2]⟩⟩
    · rename_i hb
      refine .inr ⟨_, h, rfl, fun e a hf => ⟨hf, ?_⟩⟩
      have : yielded ops a.tmps j = none := by
        simp only [yielded, hd', Option.bind_some]
        cases hdd : a.tmps[d]? with
        | none => rfl
        | some c =>
          have : st.fr[d]? = some (.tup []) := by
            rw [List.getD_eq_getElem?_getD] at hb
            cases hfd : st.fr[d]? with
            | none =>
              have := hf.1
              have h1 := List.getElem?_eq_none_iff.1 hfd
              have h2 := (Array.getElem?_eq_some_iff.1 hdd).1
              simp at this; omega
            | some x => rw [hfd] at hb; simp at hb; rw [hb]
          have hr := hf.2 d _ c this (by simpa using hdd)
          obtain ⟨va, rfl, _⟩ := hr.tup_inv
          rfl
      simp [Region.wanted, hg, this]
    · cases h

theorem seqK_sound (hG : EnvOK P G) (hcall : CallS P call) {ops : Array Oper} : ∀ (rest : List Oper) (i : Nat) (st : St U) (k : St U → Option R) (r : R), ops.toList.drop i = rest → seqK G call ops.toList rest st k = some r →
    ∃ st', k st' = some r ∧ st.H.length ≤ st'.H.length ∧ ∀ (e : En) (a : Act) (Q : Exit → Act → World → Prop), StRel e st a →
      (∀ (e' : En) (a' : Act), StRel e' st' a' → Evo allD e e' → Q .normal a' e'.w) → wpOps P ops Q (List.range' i rest.length) a e.w
  | [], i, st, k, r, _, h => ⟨st, h, Nat.le_refl _, fun e a Q hst hQ => hQ e a hst (.refl _ _)⟩
  | o :: rest, i, st, k, r, hd, h => by
    have ho : ops[i]? = some o := by
      have : (ops.toList.drop i)[0]? = some o := by rw [hd]; rfl
      rw [List.getElem?_drop] at this
      simpa using this
    have hd' : ops.toList.drop (i + 1) = rest := by
      have : ops.toList.drop (i + 1) = (ops.toList.drop i).drop 1 := by rw [List.drop_drop]
      rw [this, hd]; rfl
    unfold seqK at h
    rcases guardK_sound h with ⟨st1, h1, hH, hg⟩ | ⟨st1, h1, hH, hg⟩
    · obtain ⟨st2, h2, hl2, hs2⟩ := stepK_sound hG hcall h1
      obtain ⟨st3, h3, hl3, hs3⟩ := seqK_sound hG hcall rest (i + 1) st2 k r hd' h2
      refine ⟨st3, h3, by rw [hH] at hl2; omega, fun e a Q hst hQ => ?_⟩
      obtain ⟨g1, g2⟩ := hg e a hst.fr
      have hst1 : StRel e st1 a := ⟨g1, by rw [hH]; exact hst.heap, hst.wf, by rw [hH]; exact hst.fresh, hst.defers⟩
      simp only [List.length_cons, List.range'_succ, wpOps, ho, g2, if_true]
      refine .inl (hs2 e a _ Q hst1 (fun e' a' hst' hE => ?_))
      exact hs3 e' a' Q hst' (fun e2 a2 hst2 hE2 => hQ e2 a2 hst2 (hE.trans hE2))
    · obtain ⟨st3, h3, hl3, hs3⟩ := seqK_sound hG hcall rest (i + 1) _ k r hd' h1
      refine ⟨st3, h3, by rw [hH] at hl3; exact hl3, fun e a Q hst hQ => ?_⟩
      obtain ⟨g1, g2⟩ := hg e a hst.fr
      simp only [List.length_cons, List.range'_succ, wpOps, ho, g2, Bool.false_eq_true, if_false]
      refine hs3 e _ Q ⟨FrRel.put g1 (a := a) (v := undefA) (c := undef) (.tup rfl (by simp)) o.dst, by rw [hH]; exact hst.heap, hst.wf, by rw [hH]; exact hst.fresh, by rw [put_defers]; exact hst.defers⟩ hQ

theorem seq_region (hG : EnvOK P G) (hcall : CallS P call) {id : Nat} {ops : Array Oper} {st : St U} {k : St U → Option R} {r : R} (h : seqK G call ops.toList ops.toList st k = some r) :
    ∃ st', k st' = some r ∧ st.H.length ≤ st'.H.length ∧ ∀ (e : En) (a : Act) (Q : Exit → Act → World → Prop), StRel e st a →
      (∀ (e' : En) (a' : Act), StRel e' st' a' → Evo allD e e' → Q .normal a' e'.w) → (Code.region id ops false).wp P Q a e.w := by
  obtain ⟨st', h1, h2, h3⟩ := seqK_sound hG hcall ops.toList 0 st k r rfl h
  refine ⟨st', h1, h2, fun e a Q hst hQ => wp_region ?_⟩
  have := h3 e a Q hst hQ
  rw [List.range_eq_range']
  simpa using this
end

end Am
