/- Calls by contract. -/
import Derived.Test.YtlogoccciaopnaaGreatDoorAmP3
namespace Am
open Go
variable {U : TyU} {R : Type} {P : Program} {G : Env U}

def noD : Nat → Prop := fun _ => False

/-- a call of a pure function: what it is handed and hands back bears no memory that may change -/
def CallOK (P : Program) (f : FuncId) (args : List (AV U)) (v : AV U) : Prop := ∀ (e : En) (vs : Array Value), WF e → (∀ k, e.m k = none) → RelL e args vs.toList →
  ∀ Post : Ending → World → Prop, (∀ (c : Value) (e' : En), WF e' → Evo noD e e' → Rel e' v c → Post (.returned c) e'.w) → Calls P f vs e.w Post

mutual
/-- no slices, no pointers -/
def flatV : AV U → Bool
  | .bool _ | .int .. | .str _ => true
  | .agg cs => flatL cs
  | .tup cs => flatL cs
  | _ => false
def flatL : List (AV U) → Bool
  | [] => true
  | v :: l => flatV v && flatL l
end

def Enters (P : Program) (f : FuncId) : Prop := ∃ fn, P.funcs[f]? = some fn ∧ fn.body.isNone = false ∧ (fn.name == "runtime.NumGoroutine") = false

def flatC : Cell U.T → Bool
  | .sl _ => false
  | _ => true

def flatSh : List (Cell U.T) → Bool
  | [] => true
  | c :: l => flatC c && flatSh l

theorem flatC_ok {c : Cell U.T} (h : flatC c = true) (x : c.den U.toTyU0) : flatV (encC c x) = true := by cases c <;> first | rfl | cases h

theorem flatSh_ok : ∀ {sh : List (Cell U.T)} (_ : flatSh sh = true) (x : Tup U.toTyU0 sh), flatL (encT sh x) = true
  | [], _, _ => rfl
  | c :: sh, h, x => by
    unfold flatSh at h
    rw [Bool.and_eq_true] at h
    unfold encT flatL
    rw [flatC_ok h.1, flatSh_ok h.2]; rfl

/-- a slice whose row nothing else knows -/
def OwnIn (e : En) (t : U.T) (xs : List (U.den t)) (c : Value) : Prop := ∃ k, (∀ j, j ≠ k → e.m j = none) ∧ Rel (U := U) e (.mrow k (U.shape t).length) c ∧ BlkOK e k (.row t xs)

def CallOwn (P : Program) (f : FuncId) (args : List (AV U)) (t : U.T) (xs : List (U.den t)) : Prop := ∀ (e : En) (vs : Array Value), WF e → (∀ k, e.m k = none) → RelL e args vs.toList →
  ∀ Post : Ending → World → Prop, (∀ (c : Value) (e' : En), WF e' → Evo noD e e' → OwnIn e' t xs c → Post (.returned c) e'.w) → Calls P f vs e.w Post

structure ConOK (P : Program) (f : FuncId) (C : Con U) : Prop where
  call : ∀ args r, C.app args = some r → C.own r = none → CallOK P f args (C.ret r)
  own : ∀ args r o, C.app args = some r → C.own r = some o → CallOwn P f args o.t o.xs
  flatOwn : C.flat = true → ∀ r o, C.own r = some o → flatSh (U.shape o.t) = true
  refs : ∀ r, refs (C.ret r) = []
  flat : C.flat = true → ∀ r, flatV (C.ret r) = true
  enters : Enters P f

theorem refsL_mem {l : List (AV U)} (h : refsL l = []) : ∀ (j : Nat) (x : AV U), l[j]? = some x → refs x = [] := by
  induction l with
  | nil => intro j x hx; simp at hx
  | cons v l ih =>
    unfold refsL at h
    rw [List.append_eq_nil_iff] at h
    intro j x hx
    cases j with
    | zero => simp at hx; subst hx; exact h.1
    | succ j => exact ih h.2 j x (by simpa using hx)

theorem flatL_mem {l : List (AV U)} (h : flatL l = true) : ∀ (j : Nat) (x : AV U), l[j]? = some x → flatV x = true := by
  induction l with
  | nil => intro j x hx; simp at hx
  | cons v l ih =>
    unfold flatL at h
    rw [Bool.and_eq_true] at h
    intro j x hx
    cases j with
    | zero => simp at hx; subst hx; exact h.1
    | succ j => exact ih h.2 j x (by simpa using hx)

theorem refs_encC (c : Cell U.T) (x : c.den U.toTyU0) : refs (encC c x) = [] := by cases c <;> rfl

theorem refs_enc (t : U.T) (x : U.den t) (j : Nat) (y : AV U) (h : (enc t x)[j]? = some y) : refs y = [] := by
  have : ∀ (sh : List (Cell U.T)) (x : Tup U.toTyU0 sh), ∀ (j : Nat) (y : AV U), (encT sh x)[j]? = some y → refs y = [] := by
    intro sh
    induction sh with
    | nil => intro x j y h; simp [encT] at h
    | cons c sh ih =>
      intro x j y h
      cases j with
      | zero => simp [encT] at h; subst h; exact refs_encC c _
      | succ j => exact ih _ j y (by simpa [encT] using h)
  exact this _ _ j y h

/-- values without references depend on the frozen blocks alone -/
theorem Rel.still {e e' : En} (hI : ∀ b, e.I b → e'.I b) (hc : ∀ b, e.I b → e'.w.heap[b]? = e.w.heap[b]?) {v : AV U} {c : Value} (hr : Rel e v c) : refs v = [] → Rel e' v c := by
  induction hr with
  | junk => intro _; exact .junk
  | bool => intro _; exact .bool
  | int => intro _; exact .int
  | str => intro _; exact .str
  | nilp => intro _; exact .nilp
  | ptrDead hm => intro h; simp [refs] at h
  | ptr hm => intro h; simp [refs] at h
  | fptr hI' hcs _ ih =>
    intro h
    exact .fptr (hI _ hI') (fun j c hj => by rw [cell_of_heap (hc _ hI')]; exact hcs j c hj) (fun j c hj => ih j c hj (refsL_mem (by simpa [refs] using h) j c hj))
  | nilsl => intro _; exact .nilsl
  | fslE ha => intro _; exact .fslE ha
  | fsl hI' hl hcs _ ih =>
    intro _
    exact .fsl (hI _ hI') hl (fun i x hx j c hj => by rw [cell_of_heap (hc _ hI')]; exact hcs i x hx j c hj) (fun i x hx j c hj => ih i x hx j c hj (refs_enc _ x j c hj))
  | bptr _ _ _ _ => intro h; simp [refs] at h
  | bslE => intro h; simp [refs] at h
  | brow _ _ _ => intro h; simp [refs] at h
  | tptr _ _ _ => intro h; simp [refs] at h
  | bsl _ _ _ _ _ => intro h; simp [refs] at h
  | nsl _ ih => intro _; exact .nsl (ih rfl)
  | mrowDead hm => intro h; simp [refs] at h
  | mrowE hm hn => intro h; simp [refs] at h
  | mrow hm hl hr => intro h; simp [refs] at h
  | mslDead hm hl => intro h; simp [refs] at h
  | mslE hm => intro h; simp [refs] at h
  | msl hm hl hr => intro h; simp [refs] at h
  | nilmap => intro _; exact .nilmap
  | mapDead hm => intro h; simp [refs] at h
  | map hm => intro h; simp [refs] at h
  | fn ha hb _ _ iha ihb =>
    intro h
    simp only [refs, List.append_eq_nil_iff] at h
    exact .fn ha hb (fun j x v hx hv => iha j x v hx hv (refsL_mem h.1 j x hx)) (fun j x v hx hv => ihb j x v hx hv (refsL_mem h.2 j x hx))
  | nilfn => intro _; exact .nilfn
  | iface _ ih => intro h; exact .iface (ih (by simpa [refs] using h))
  | nilif => intro _; exact .nilif
  | agg hl _ ih => intro h; exact .agg hl (fun j x v hx hv => ih j x v hx hv (refsL_mem (by simpa [refs] using h) j x hx))
  | tup hl _ ih => intro h; exact .tup hl (fun j x v hx hv => ih j x v hx hv (refsL_mem (by simpa [refs] using h) j x hx))

/-- all that is reachable, as frozen data -/
def En.frozen (e : En) : En := { w := e.w, m := fun _ => none, n := e.n, I := fun b => e.I b ∨ ∃ k o, e.m k = some (.at b o) }

theorem En.frozen_wf {e : En} (hw : WF e) : WF e.frozen :=
  ⟨fun b hb => hb.elim (hw.iLt b) (fun ⟨k, o, hb⟩ => hw.mLt k b o hb), fun k b o h => (by cases h), fun k b o h => (by cases h), fun k k' b o o' h => (by cases h)⟩

theorem frzL_get {H : Heap U} : ∀ {l l' : List (AV U)}, frzL H l = some l' → l'.length = l.length ∧ ∀ (j : Nat) (y : AV U), l'[j]? = some y → ∃ x, l[j]? = some x ∧ frz H x = some y
  | [], l', h => by
    unfold frzL at h; cases h; exact ⟨rfl, by simp⟩
  | v :: l, l', h => by
    unfold frzL at h
    split at h
    · rename_i v' hv
      split at h
      · rename_i r hr
        cases h
        obtain ⟨h1, h2⟩ := frzL_get hr
        refine ⟨by simp [h1], fun j y hy => ?_⟩
        cases j with
        | zero => simp at hy; subst hy; exact ⟨v, rfl, hv⟩
        | succ j => exact h2 j y (by simpa using hy)
      · cases h
    · cases h

theorem rel_frozen {e : En} {v : AV U} {c : Value} (hr : Rel e v c) (h : refs v = []) : Rel e.frozen v c := hr.still (e' := e.frozen) (fun b hb => Or.inl hb) (fun _ _ => rfl) h

theorem frz_rel {e : En} {H : Heap U} (hh : HeapRel e H.get) {v : AV U} {c : Value} (hr : Rel e v c) : ∀ v', frz H v = some v' → Rel e.frozen v' c := by
  induction hr with
  | junk => intro v' h; simp [frz] at h
  | bool => intro v' h; simp [frz] at h; subst h; exact .bool
  | int => intro v' h; simp [frz] at h; subst h; exact .int
  | str => intro v' h; simp [frz] at h; subst h; exact .str
  | nilp => intro v' h; simp [frz] at h; subst h; exact .nilp
  | @ptrDead k sz i o a hm =>
    intro v' h
    simp only [frz] at h
    split at h
    · rename_i cs hb
      obtain ⟨_, _, _, _, _, h1, _⟩ := hh k _ hb
      rw [hm] at h1; cases h1
    · cases h
  | @ptr k sz i o b ob hm =>
    intro v' h
    simp only [frz] at h
    split at h
    · rename_i cs hb
      split at h
      · rename_i hre
        split at h
        · rename_i hi
          cases h
          have hi : i = 0 := Nat.eq_of_beq_eq_true hi
          subst hi
          obtain ⟨b', ob', arr, el, fz, h1, h2, h3, h4, h5⟩ := hh k _ hb
          rw [hm] at h1; cases h1
          rw [Nat.zero_mul, Nat.add_zero]
          refine Rel.mk_fptr (e := e.frozen) (Or.inr ⟨k, ob, hm⟩) (fun j x hj => ?_)
          obtain ⟨v, v1, v2⟩ := h5 j x hj
          exact ⟨v, by rw [show e.frozen.w = e.w from rfl, cell_of_arr h2]; exact v1, rel_frozen v2 (refsL_mem hre j x hj)⟩
        · cases h
      · cases h
    · cases h
  | fptr hI hc hr ih =>
    intro v' h
    simp only [frz] at h
    split at h
    · rename_i hre
      cases h
      exact rel_frozen (.fptr hI hc hr) (by simpa [refs] using hre)
    · cases h
  | nilsl => intro v' h; simp [frz] at h; subst h; exact .nilsl
  | fslE ha => intro v' h; simp [frz] at h; subst h; exact .fslE ha
  | fsl hI hl hc hr ih =>
    intro v' h; simp [frz] at h; subst h
    exact rel_frozen (.fsl hI hl hc hr) rfl
  | bptr _ _ _ _ => intro v' h; simp [frz] at h
  | bslE => intro v' h; simp [frz] at h
  | brow _ _ _ => intro v' h; simp [frz] at h
  | tptr _ _ _ => intro v' h; simp [frz] at h
  | bsl _ _ _ _ _ => intro v' h; simp [frz] at h
  | nsl hr ih =>
    intro v' h; simp [frz] at h; subst h
    exact rel_frozen (.nsl hr) rfl
  | @mrowDead k sz l cc a hm =>
    intro v' h
    simp only [frz] at h
    split at h
    · rename_i t xs hb
      rcases (hh k _ hb).2 with ⟨h1, _⟩ | ⟨_, _, _, _, _, h1, _⟩ <;> rw [hm] at h1 <;> cases h1
    · cases h
  | @mrowE k sz a l hm hn =>
    intro v' h
    simp only [frz] at h
    split at h
    · rename_i t xs hb
      split at h
      · cases h
        have : xs = [] := List.length_eq_zero_iff.1 (by rw [← (hh k _ hb).1]; exact hn)
        subst this
        exact .fslE (fun _ => rfl)
      · cases h
    · cases h
  | @mrow k sz cap b ob hm hl hfit =>
    intro v' h
    simp only [frz] at h
    split at h
    · rename_i t xs hb
      split at h
      · rename_i hsz
        cases h
        have hsz : sz = (U.shape t).length := Nat.eq_of_beq_eq_true hsz
        rw [(hh k _ hb).1] at hl ⊢
        refine Rel.mk_fsl (e := e.frozen) (Or.inr ⟨k, ob, hm⟩) hl (fun i x hx j y hy => ?_)
        obtain ⟨_, _, h3⟩ := row_elems hb hh hm i (enc t x) (by simp [hx])
        obtain ⟨v, v1, v2⟩ := h3 j y hy
        exact ⟨v, v1, rel_frozen v2 (refs_enc t x j y hy)⟩
      · cases h
    · cases h
  | @mslDead k sz lo len cap a hm hl =>
    intro v' h
    simp only [frz] at h
    split at h
    · rename_i t xs hb
      rcases (hh k _ hb).2 with ⟨h1, _⟩ | ⟨_, _, _, _, _, h1, _⟩ <;> rw [hm] at h1 <;> cases h1
    · cases h
  | @mslE k sz lo a l hm =>
    intro v' h
    simp only [frz] at h
    split at h
    · rename_i t xs hb
      split at h
      · cases h
        simp only [List.take_zero]
        exact .fslE (fun _ => rfl)
      · cases h
    · cases h
  | @msl k sz lo len cap b ob hm hl hfit =>
    intro v' h
    simp only [frz] at h
    split at h
    · rename_i t xs hb
      split at h
      · rename_i hsz
        rw [Bool.and_eq_true] at hsz
        cases h
        have hsz1 : sz = (U.shape t).length := Nat.eq_of_beq_eq_true hsz.1
        have hle : lo + len ≤ xs.length := Nat.le_of_ble_eq_true hsz.2
        obtain ⟨g1, g2⟩ := part_elems (lo := lo) (len := len) (es := xs.map (enc t)) (by simpa using hle) (row_elems hb hh hm)
        have hlen : ((xs.drop lo).take len).length = len := by simp; omega
        have := Rel.mk_fsl (e := e.frozen) (t := t) (xs := (xs.drop lo).take len) (b := b) (ob := ob + lo * sz) (cap := cap) (Or.inr ⟨k, ob, hm⟩) (by omega) (fun i x hx j y hy => by
          have hx' : ((List.map (enc t) xs).drop lo |>.take len)[i]? = some (enc t x) := by
            rw [← List.map_drop, ← List.map_take, List.getElem?_map, hx]; rfl
          obtain ⟨_, _, h3⟩ := g2 i (enc t x) hx'
          obtain ⟨v, v1, v2⟩ := h3 j y hy
          exact ⟨v, by rw [hsz1]; exact v1, rel_frozen v2 (refs_enc t x j y hy)⟩)
        rw [hlen] at this
        exact this
      · cases h
    · cases h
  | nilmap => intro v' h; simp [frz] at h; subst h; exact .nilmap
  | mapDead hm => intro v' h; simp [frz] at h
  | map hm => intro v' h; simp [frz] at h
  | fn ha hb _ _ iha ihb =>
    intro v' h
    simp only [frz] at h
    split at h
    · rename_i a' ha'
      split at h
      · rename_i b' hb'
        cases h
        obtain ⟨p1, p2⟩ := frzL_get ha'
        obtain ⟨q1, q2⟩ := frzL_get hb'
        refine .fn (p1.trans ha) (q1.trans hb) (fun j x v hx hv => ?_) (fun j x v hx hv => ?_)
        · obtain ⟨y, hy, hf⟩ := p2 j x hx; exact iha j y v hy hv x hf
        · obtain ⟨y, hy, hf⟩ := q2 j x hx; exact ihb j y v hy hv x hf
      · cases h
    · cases h
  | nilfn => intro v' h; simp [frz] at h; subst h; exact .nilfn
  | iface _ ih =>
    intro v' h
    simp only [frz] at h
    split at h
    · rename_i v hv; cases h; exact .iface (ih _ hv)
    · cases h
  | nilif => intro v' h; simp [frz] at h; subst h; exact .nilif
  | agg hl _ ih =>
    intro v' h
    simp only [frz] at h
    split at h
    · rename_i cs hcs
      cases h
      obtain ⟨p1, p2⟩ := frzL_get hcs
      refine .agg (p1.trans hl) (fun j x v hx hv => ?_)
      obtain ⟨y, hy, hf⟩ := p2 j x hx; exact ih j y v hy hv x hf
    · cases h
  | tup hl _ ih =>
    intro v' h
    simp only [frz] at h
    split at h
    · rename_i cs hcs
      cases h
      obtain ⟨p1, p2⟩ := frzL_get hcs
      refine .tup (p1.trans hl) (fun j x v hx hv => ?_)
      obtain ⟨y, hy, hf⟩ := p2 j x hx; exact ih j y v hy hv x hf
    · cases h

theorem frzL_rel {e : En} {H : Heap U} (hh : HeapRel e H.get) {l l' : List (AV U)} (h : frzL H l = some l') {vs : List Value} (hr : RelL e l vs) : RelL e.frozen l' vs := by
  obtain ⟨p1, p2⟩ := frzL_get h
  refine ⟨p1.trans hr.1, fun j x v hx hv => ?_⟩
  obtain ⟨y, hy, hf⟩ := p2 j x hx
  exact frz_rel hh (hr.2 j y v hy hv) x hf

mutual
theorem frz_id (H : Heap U) : ∀ (v v' : AV U), refs v = [] → frz H v = some v' → v' = v
  | .junk, v', _, h => by simp [frz] at h
  | .bool _, v', _, h => by simp [frz] at h; exact h.symm
  | .int _ _, v', _, h => by simp [frz] at h; exact h.symm
  | .str _, v', _, h => by simp [frz] at h; exact h.symm
  | .nilp, v', _, h => by simp [frz] at h; exact h.symm
  | .ptr _ _ _ _, v', hr, h => by simp [refs] at hr
  | .fptr cs o, v', hr, h => by
    simp only [frz] at h
    split at h
    · cases h; rfl
    · cases h
  | .nilsl, v', _, h => by simp [frz] at h; exact h.symm
  | .fsl _ _, v', _, h => by simp [frz] at h; exact h.symm
  | .nsl _ _, v', _, h => by simp [frz] at h; exact h.symm
  | .bsl _ _, v', _, h => by simp [frz] at h
  | .bptr _ _, v', _, h => by simp [frz] at h
  | .brow _ _, v', _, h => by simp [frz] at h
  | .tptr _ _, v', _, h => by simp [frz] at h
  | .mrow _ _, v', hr, h => by simp [refs] at hr
  | .msl _ _ _ _, v', hr, h => by simp [refs] at hr
  | .nilmap, v', _, h => by simp [frz] at h; exact h.symm
  | .map _, v', _, h => by simp [frz] at h
  | .fn f a b, v', hr, h => by
    simp only [refs, List.append_eq_nil_iff] at hr
    simp only [frz] at h
    split at h
    · rename_i a' ha
      split at h
      · rename_i b' hb
        cases h
        rw [frzL_id H a a' hr.1 ha, frzL_id H b b' hr.2 hb]
      · cases h
    · cases h
  | .nilfn, v', _, h => by simp [frz] at h; exact h.symm
  | .iface t v, v', hr, h => by
    simp only [refs] at hr
    simp only [frz] at h
    split at h
    · rename_i x hx; cases h; rw [frz_id H v x hr hx]
    · cases h
  | .nilif, v', _, h => by simp [frz] at h; exact h.symm
  | .agg cs, v', hr, h => by
    simp only [refs] at hr
    simp only [frz] at h
    split at h
    · rename_i x hx; cases h; rw [frzL_id H cs x hr hx]
    · cases h
  | .tup cs, v', hr, h => by
    simp only [refs] at hr
    simp only [frz] at h
    split at h
    · rename_i x hx; cases h; rw [frzL_id H cs x hr hx]
    · cases h
theorem frzL_id (H : Heap U) : ∀ (l l' : List (AV U)), refsL l = [] → frzL H l = some l' → l' = l
  | [], l', _, h => by simp [frzL] at h; exact h
  | v :: l, l', hr, h => by
    simp only [refsL, List.append_eq_nil_iff] at hr
    simp only [frzL] at h
    split at h
    · rename_i v' hv
      split at h
      · rename_i r hr'
        cases h
        rw [frz_id H v v' hr.1 hv, frzL_id H l r hr.2 hr']
      · cases h
    · cases h
end

theorem Rel.flat {e e' : En} {v : AV U} {c : Value} (hr : Rel e v c) : flatV v = true → Rel e' v c := by
  induction hr with
  | bool => intro _; exact .bool
  | int => intro _; exact .int
  | str => intro _; exact .str
  | agg hl _ ih => intro h; exact .agg hl (fun j x v hx hv => ih j x v hx hv (flatL_mem (by simpa [flatV] using h) j x hx))
  | tup hl _ ih => intro h; exact .tup hl (fun j x v hx hv => ih j x v hx hv (flatL_mem (by simpa [flatV] using h) j x hx))
  | _ => intro h; simp [flatV] at h

theorem con_call {f : FuncId} {C : Con U} (hC : ConOK P f C) {H : Heap U} {args args' : List (AV U)} {r : C.β} (hfl : C.flat = true ∨ refsL args = []) (hz : frzL H args = some args') (ha : C.app args' = some r) (hno : C.own r = none)
    (e : En) (vs : Array Value) (hw : WF e) (hh : HeapRel e H.get) (hr : RelL e args vs.toList) (Post : Ending → World → Prop)
    (hk : ∀ (c : Value) (e' : En), WF e' → Evo noD e e' → Rel e' (C.ret r) c → (∀ k, e'.m k = e.m k) → Post (.returned c) e'.w) : Calls P f vs e.w Post := by
  by_cases hf : C.flat = true
  · refine hC.call args' r ha hno e.frozen vs (En.frozen_wf hw) (fun _ => rfl) (frzL_rel hh hz hr) Post (fun c e1 hw1 hE hv => ?_)
    refine hk c { e with w := e1.w } ?_ ?_ (hv.flat (hC.flat hf r)) (fun _ => rfl)
    · have hs : e.w.heap.size ≤ e1.w.heap.size := hE.size
      exact ⟨fun b hb => Nat.lt_of_lt_of_le (hw.iLt b hb) hs, fun k b o hm => Nat.lt_of_lt_of_le (hw.mLt k b o hm) hs, hw.mI, hw.inj⟩
    · exact ⟨hE.size, fun b hb _ => hE.keep b hb (fun k o hD => absurd hD id), hE.shape, fun _ _ h => .inl h, fun _ _ _ => rfl, fun _ _ _ h => .inl h, fun _ h => h, fun _ h => .inl h, hE.io⟩
  · have hre := hfl.resolve_left hf
    have := frzL_id H args args' hre hz
    subst this
    have hwf0 : WF { w := e.w, m := fun _ => none, n := e.n, I := e.I } := ⟨hw.iLt, fun k b o h => (by cases h), fun k b o h => (by cases h), fun k k' b o o' h => (by cases h)⟩
    refine hC.call args' r ha hno { w := e.w, m := fun _ => none, n := e.n, I := e.I } vs hwf0 (fun _ => rfl) ⟨hr.1, fun j x v hx hv => (hr.2 j x v hx hv).still (e := e) (e' := { w := e.w, m := fun _ => none, n := e.n, I := e.I }) (fun _ h => h) (fun _ _ => rfl) (refsL_mem hre j x hx)⟩ Post (fun c e1 hw1 hE hv => ?_)
    have hs : e.w.heap.size ≤ e1.w.heap.size := hE.size
    have hnew : ∀ b, e1.I b → e.I b ∨ e.w.heap.size ≤ b := fun b hb => by
      rcases hE.iNew b hb with h | h | ⟨_, _, h, _⟩
      · exact .inl h
      · exact .inr h
      · exact absurd h id
    refine hk c { w := e1.w, m := e.m, n := e.n, I := e1.I } ?_ ?_ (hv.still (e := e1) (e' := { w := e1.w, m := e.m, n := e.n, I := e1.I }) (fun _ h => h) (fun _ _ => rfl) (hC.refs r)) (fun _ => rfl)
    · refine ⟨hw1.iLt, fun k b o hm => Nat.lt_of_lt_of_le (hw.mLt k b o hm) hs, fun k b o hm hb => ?_, hw.inj⟩
      rcases hnew b hb with h | h
      · exact hw.mI k b o hm h
      · have := hw.mLt k b o hm; omega
    · exact ⟨hE.size, fun b hb _ => hE.keep b hb (fun k o hD => absurd hD id), hE.shape, fun _ _ h => .inl h, fun _ _ _ => rfl, fun _ _ _ h => .inl h, hE.iOld, fun b hb => by
        rcases hnew b hb with h | h
        · exact .inl h
        · exact .inr (.inl h), hE.io⟩

theorem borV1_rel {e e0 : En} {H : Heap U} (hh : HeapRel e H.get) (hI : ∀ b, e.I b → e0.I b) (hw0 : e0.w = e.w) (hm0 : ∀ k, e0.m k = none) (hw : WF e) {v v' : AV U} (h : borV1 H v = some v') {c : Value} (hr : Rel e v c) : Rel e0 v' c := by
  unfold borV1 at h
  split at h
  · rename_i hre
    cases h
    exact hr.still hI (fun b _ => by rw [hw0]) hre
  · split at h
    · rename_i k sz _
      split at h
      · rename_i t xs hb
        split at h
        · rename_i hsz
          cases h
          have hsz := Nat.eq_of_beq_eq_true hsz
          rcases mrow_live (len := xs.length) (by unfold rowLen; rw [hb]) hh hr with ⟨a, l, hn, rfl, _⟩ | ⟨b, ob, cap, hm, rfl, hl, _⟩
          · have : xs = [] := List.eq_nil_of_length_eq_zero hn
            subst this
            exact .bslE
          · have hq : Quiet e0 b := ⟨by rw [hw0]; exact hw.mLt k b ob hm, fun k o hk => by rw [hm0] at hk; cases hk⟩
            have hel := row_elems hb hh hm
            have hel' : ∀ (i : Nat) (x : U.den t), xs[i]? = some x → ∀ (j : Nat) (y : AV U), (enc t x)[j]? = some y → ∃ v, e0.w.cell? ⟨b, ob + i * (U.shape t).length + j, none⟩ = some v ∧ Rel e0 y v := fun i x hx j y hy => by
              obtain ⟨_, _, h3⟩ := hel i (enc t x) (by rw [List.getElem?_map, hx]; rfl)
              obtain ⟨v, v1, v2⟩ := h3 j y hy
              exact ⟨v, by rw [hw0]; exact v1, v2.still hI (fun b _ => by rw [hw0]) (refs_enc t x j y hy)⟩
            refine .bsl (vals := fun i j => (e0.w.cell? ⟨b, ob + i * (U.shape t).length + j, none⟩).getD default) hq hl (fun i x hx j y hy => ?_) (fun i x hx j y hy => ?_) <;> obtain ⟨v, h1, h2⟩ := hel' i x hx j y hy <;> rw [h1]
            · rfl
            · exact h2
        · cases h
      · cases h
    · cases h

theorem borL1_rel {e e0 : En} {H : Heap U} (hh : HeapRel e H.get) (hI : ∀ b, e.I b → e0.I b) (hw0 : e0.w = e.w) (hm0 : ∀ k, e0.m k = none) (hw : WF e) : ∀ {l l' : List (AV U)} {vs : List Value}, borL1 H l = some l' → RelL e l vs → RelL e0 l' vs
  | [], l', vs, h, hr => by
    cases h
    rw [hr.nil_inv]; exact RelL.nil
  | v :: l, l', vs, h, hr => by
    unfold borL1 at h
    split at h
    · rename_i v' hv
      split at h
      · rename_i r hr'
        cases h
        obtain ⟨c, rest, rfl, h1, h2⟩ := hr.cons_inv
        exact RelL.cons (borV1_rel hh hI hw0 hm0 hw hv h1) (borL1_rel hh hI hw0 hm0 hw hr' h2)
      · cases h
    · cases h

theorem borL1_get {H : Heap U} : ∀ {l l' : List (AV U)}, borL1 H l = some l' → l'.length = l.length
  | [], l', h => by cases h; rfl
  | v :: l, l', h => by
    unfold borL1 at h
    split at h
    · split at h
      · rename_i r hr; cases h; simp [borL1_get hr]
      · cases h
    · cases h

theorem borV_rel {e e0 : En} {H : Heap U} (hh : HeapRel e H.get) (hI : ∀ b, e.I b → e0.I b) (hw0 : e0.w = e.w) (hm0 : ∀ k, e0.m k = none) (hw : WF e) {v v' : AV U} (h : borV H v = some v') {c : Value} (hr : Rel e v c) : Rel e0 v' c := by
  unfold borV at h
  split at h
  · rename_i k sz i o
    split at h
    · rename_i cs hb
      split at h
      · rename_i hi
        have hi := Nat.eq_of_beq_eq_true hi
        subst hi
        split at h
        · rename_i cs' hcs
          cases h
          obtain ⟨b, ob, arr, el, fz, h1, h2, h3, h4, h5⟩ := hh k _ hb
          cases hr with
          | ptrDead hm => rw [h1] at hm; cases hm
          | ptr hm =>
            rw [h1] at hm; cases hm
            have hq : Quiet e0 b := ⟨by rw [hw0]; exact hw.mLt k b ob h1, fun k o hk => by rw [hm0] at hk; cases hk⟩
            have hcell : ∀ j, e0.w.cell? ⟨b, ob + j, none⟩ = arr[ob + j]? := fun j => by rw [hw0, cell_eq, h2]
            have hrl : RelL e cs ((List.range cs.length).map fun j => (arr[ob + j]?).getD default) := by
              refine ⟨by simp, fun j x u hx hu => ?_⟩
              obtain ⟨v, v1, v2⟩ := h5 j x hx
              rw [List.getElem?_map] at hu
              have hj : j < cs.length := (List.getElem?_eq_some_iff.1 hx).1
              rw [List.getElem?_range hj] at hu
              simp only [Option.map_some, Option.some.injEq] at hu
              rw [v1] at hu
              simp at hu
              rw [← hu]; exact v2
            have hrl' := borL1_rel hh hI hw0 hm0 hw hcs hrl
            have hlen := borL1_get hcs
            have : (Addr.mk b (ob + 0 * sz + o) none) = ⟨b, ob + o, none⟩ := by simp
            rw [this]
            refine .bptr (vals := fun j => (arr[ob + j]?).getD default) hq (fun j c hj => ?_) (fun j c hj => ?_)
            · have hj' : j < cs.length := by rw [← hlen]; exact (List.getElem?_eq_some_iff.1 hj).1
              obtain ⟨v, v1, v2⟩ := h5 j cs[j] (List.getElem?_eq_getElem hj')
              rw [hcell, v1]; rfl
            · have hj' : j < cs.length := by rw [← hlen]; exact (List.getElem?_eq_some_iff.1 hj).1
              refine hrl'.2 j c _ hj ?_
              rw [List.getElem?_map, List.getElem?_range hj']; rfl
        · cases h
      · cases h
    · cases h
  · exact borV1_rel hh hI hw0 hm0 hw h hr

theorem borL_rel {e e0 : En} {H : Heap U} (hh : HeapRel e H.get) (hI : ∀ b, e.I b → e0.I b) (hw0 : e0.w = e.w) (hm0 : ∀ k, e0.m k = none) (hw : WF e) : ∀ {l l' : List (AV U)} {vs : List Value}, borL H l = some l' → RelL e l vs → RelL e0 l' vs
  | [], l', vs, h, hr => by
    cases h
    rw [hr.nil_inv]; exact RelL.nil
  | v :: l, l', vs, h, hr => by
    unfold borL at h
    split at h
    · rename_i v' hv
      split at h
      · rename_i r hr'
        cases h
        obtain ⟨c, rest, rfl, h1, h2⟩ := hr.cons_inv
        exact RelL.cons (borV_rel hh hI hw0 hm0 hw hv h1) (borL_rel hh hI hw0 hm0 hw hr' h2)
      · cases h
    · cases h

theorem con_call_bor {f : FuncId} {C : Con U} (hC : ConOK P f C) {H : Heap U} {args args' : List (AV U)} {r : C.β} (hz : borL H args = some args') (ha : C.app args' = some r) (hno : C.own r = none)
    (e : En) (vs : Array Value) (hw : WF e) (hh : HeapRel e H.get) (hr : RelL e args vs.toList) (Post : Ending → World → Prop)
    (hk : ∀ (c : Value) (e' : En), WF e' → Evo noD e e' → Rel e' (C.ret r) c → (∀ k, e'.m k = e.m k) → Post (.returned c) e'.w) : Calls P f vs e.w Post := by
  have hwf0 : WF { w := e.w, m := fun _ => none, n := e.n, I := e.I } := ⟨hw.iLt, fun k b o h => (by cases h), fun k b o h => (by cases h), fun k k' b o o' h => (by cases h)⟩
  refine hC.call args' r ha hno { w := e.w, m := fun _ => none, n := e.n, I := e.I } vs hwf0 (fun _ => rfl) (borL_rel (e0 := { w := e.w, m := fun _ => none, n := e.n, I := e.I }) hh (fun _ h => h) rfl (fun _ => rfl) hw hz hr) Post (fun c e1 hw1 hE hv => ?_)
  have hs : e.w.heap.size ≤ e1.w.heap.size := hE.size
  have hnew : ∀ b, e1.I b → e.I b ∨ e.w.heap.size ≤ b := fun b hb => by
    rcases hE.iNew b hb with h | h | ⟨_, _, h, _⟩
    · exact .inl h
    · exact .inr h
    · exact absurd h id
  refine hk c { w := e1.w, m := e.m, n := e.n, I := e1.I } ?_ ?_ (hv.still (e := e1) (e' := { w := e1.w, m := e.m, n := e.n, I := e1.I }) (fun _ h => h) (fun _ _ => rfl) (hC.refs r)) (fun _ => rfl)
  · refine ⟨hw1.iLt, fun k b o hm => Nat.lt_of_lt_of_le (hw.mLt k b o hm) hs, fun k b o hm hb => ?_, hw.inj⟩
    rcases hnew b hb with h | h
    · exact hw.mI k b o hm h
    · have := hw.mLt k b o hm; omega
  · exact ⟨hE.size, fun b hb _ => hE.keep b hb (fun k o hD => absurd hD id), hE.shape, fun _ _ h => .inl h, fun _ _ _ => rfl, fun _ _ _ h => .inl h, hE.iOld, fun b hb => by
      rcases hnew b hb with h | h
      · exact .inl h
      · exact .inr (.inl h), hE.io⟩

def ProcOK (P : Program) (f : FuncId) (p : Proc U) : Prop := Enters P f ∧ ∀ (e : En) (k : Nat) (c : Value) (xs ys : List (U.den p.t)), WF e → Rel (U := U) e (.mrow k (U.shape p.t).length) c → BlkOK e k (.row p.t xs) → p.fn xs = some ys →
  ∀ Post : Ending → World → Prop, (∀ (c' : Value) (e' : En), WF e' → Evo (fun j => j = k) e e' → (∀ j, j ≠ k → e'.m j = e.m j) → (p.eat = true → Rel (U := U) e' (.fsl p.t ys) c') → (p.eat = false → Rel (U := U) e' (.tup []) c' ∧ BlkOK e' k (.row p.t ys)) → Post (.returned c') e'.w) → Calls P f #[c] e.w Post

/-- the caller's view of a result of its own -/
def En.with (e e1 : En) (N k : Nat) (I : Nat → Prop) : En := { w := e1.w, m := fun j => if j = N then e1.m k else e.m j, n := fun j => if j = N then e1.n k else e.n j, I := I }

theorem own_with {e e0 e1 : En} {N k : Nat} {I : Nat → Prop} {D : Nat → Prop} (hw : WF e) (h0 : e0.w = e.w) (hm0 : ∀ j, e0.m j = none) (hE : Evo noD e0 e1) (hw1 : WF e1) (hN : e.m N = none)
    (hI1 : ∀ b, I b → e1.I b ∧ (e.I b ∨ e.w.heap.size ≤ b)) (hI2 : ∀ b, e.I b → I b) : WF (e.with e1 N k I) ∧ Evo D e (e.with e1 N k I) := by
  have hs : e.w.heap.size ≤ e1.w.heap.size := by have := hE.size; rw [h0] at this; exact this
  have hk : ∀ b o, e1.m k = some (.at b o) → e.w.heap.size ≤ b := fun b o h => by
    rcases hE.new k b o h with h1 | h1 | ⟨_, _, h1, _⟩
    · rw [hm0] at h1; cases h1
    · rw [h0] at h1; exact h1
    · exact absurd h1 id
  refine ⟨⟨fun b hb => hw1.iLt b (hI1 b hb).1, fun j b o h => ?_, fun j b o h hb => ?_, fun j j' b o o' h h' => ?_⟩, ⟨hs, fun b hb _ => ?_, fun b arr el fz h => ?_, fun j l h => ?_, fun j l h => ?_, fun j b o h => ?_, hI2, fun b hb => ?_, ?_⟩⟩
  · simp only [En.with] at h
    split at h
    · exact hw1.mLt k b o h
    · exact Nat.lt_of_lt_of_le (hw.mLt j b o h) hs
  · simp only [En.with] at h
    split at h
    · exact hw1.mI k b o h (hI1 b hb).1
    · rcases (hI1 b hb).2 with h1 | h1
      · exact hw.mI j b o h h1
      · have := hw.mLt j b o h; omega
  · simp only [En.with] at h h'
    split at h <;> split at h'
    · omega
    · have := hk b o h; have := hw.mLt j' b o' h'; omega
    · have := hk b o' h'; have := hw.mLt j b o h; omega
    · exact hw.inj j j' b o o' h h'
  · have := hE.keep b (by rw [h0]; exact hb) (fun k o hD => absurd hD id)
    rw [h0] at this; exact this
  · exact hE.shape b arr el fz (by rw [h0]; exact h)
  · left
    simp only [En.with]
    rw [if_neg]
    · exact h
    · rintro rfl; rw [hN] at h; cases h
  · simp only [En.with]
    rw [if_neg]
    rintro rfl; rw [hN] at h; cases h
  · simp only [En.with] at h
    split at h
    · exact .inr (.inl (hk b o h))
    · exact .inl h
  · rcases (hI1 b hb).2 with h1 | h1
    · exact .inl h1
    · exact .inr (.inl h1)
  · have := hE.io; rw [h0] at this; exact this

theorem OwnIn.with {e e1 : En} {N k : Nat} {I : Nat → Prop} {t : U.T} {xs : List (U.den t)} {c : Value} (hr : Rel (U := U) e1 (.mrow k (U.shape t).length) c) (hb : BlkOK e1 k (.row t xs))
    (hel : ∀ v u, (∃ x : U.den t, v ∈ enc t x) → Rel e1 v u → Rel (e.with e1 N k I) v u) : Rel (U := U) (e.with e1 N k I) (.mrow N (U.shape t).length) c ∧ BlkOK (e.with e1 N k I) N (.row t xs) := by
  have hm : (e.with e1 N k I).m N = e1.m k := by simp [En.with]
  have hn : (e.with e1 N k I).n N = e1.n k := by simp [En.with]
  constructor
  · cases hr with
    | mrowDead hd =>
      rcases hb.2 with ⟨h1, _⟩ | ⟨_, _, _, _, _, h1, _⟩ <;> rw [hd] at h1 <;> cases h1
    | mrowE hd h0 => exact .mrowE (by rw [hm]; exact hd) (by rw [hn]; exact h0)
    | mrow hd hl hf => rw [← hn]; exact .mrow (by rw [hm]; exact hd) (by rw [hn]; exact hl) hf
  · refine ⟨by rw [hn]; exact hb.1, ?_⟩
    rcases hb.2 with ⟨h1, h2⟩ | ⟨b, ob, arr, el, fz, h1, h2, h3, h4, h5⟩
    · exact .inl ⟨by rw [hm]; exact h1, h2⟩
    · refine .inr ⟨b, ob, arr, el, fz, by rw [hm]; exact h1, h2, h3, h4, fun i x hx j y hy => ?_⟩
      obtain ⟨v, v1, v2⟩ := h5 i x hx j y hy
      exact ⟨v, v1, hel y v ⟨x, List.mem_of_getElem? hy⟩ v2⟩

theorem con_call_own {f : FuncId} {C : Con U} (hC : ConOK P f C) {H : Heap U} {args args' : List (AV U)} {r : C.β} {o : Own U} (hfl : C.flat = true ∨ refsL args = []) (hz : frzL H args = some args') (ha : C.app args' = some r) (ho : C.own r = some o)
    (e : En) (vs : Array Value) (hw : WF e) (hh : HeapRel e H.get) (hr : RelL e args vs.toList) {N : Nat} (hN : e.m N = none) (Post : Ending → World → Prop)
    (hk : ∀ (c : Value) (e' : En), WF e' → Evo (dom H.get) e e' → Rel (U := U) e' (.mrow N (U.shape o.t).length) c → BlkOK e' N (.row o.t o.xs) → (∀ k, k ≠ N → e'.m k = e.m k) → Evo noD e e' → Post (.returned c) e'.w) : Calls P f vs e.w Post := by
  by_cases hf : C.flat = true
  · refine hC.own args' r o ha ho e.frozen vs (En.frozen_wf hw) (fun _ => rfl) (frzL_rel hh hz hr) Post (fun c e1 hw1 hE ⟨k, _, h1, h2⟩ => ?_)
    have hI1 : ∀ b, e.I b → e1.I b ∧ (e.I b ∨ e.w.heap.size ≤ b) := fun b hb => ⟨hE.iOld b (.inl hb), .inl hb⟩
    obtain ⟨g3, g4⟩ := OwnIn.with (e := e) (e1 := e1) (N := N) (k := k) (I := e.I) h1 h2 (fun v u ⟨x, hx⟩ hv => hv.flat (by
      obtain ⟨j, hj⟩ := List.getElem?_of_mem hx
      exact flatL_mem (flatSh_ok (hC.flatOwn hf r o ho) _) j v hj))
    have g1 := own_with (e0 := e.frozen) (k := k) (D := dom H.get) hw rfl (fun _ => rfl) hE hw1 hN hI1 (fun _ h => h)
    have g2 := own_with (e0 := e.frozen) (k := k) (D := noD) hw rfl (fun _ => rfl) hE hw1 hN hI1 (fun _ h => h)
    exact hk c (e.with e1 N k e.I) g1.1 g1.2 g3 g4 (fun j hj => by simp [En.with, hj]) g2.2
  · have hre := hfl.resolve_left hf
    have := frzL_id H args args' hre hz
    subst this
    have hwf0 : WF { w := e.w, m := fun _ => none, n := e.n, I := e.I } := ⟨hw.iLt, fun k b o h => (by cases h), fun k b o h => (by cases h), fun k k' b o o' h => (by cases h)⟩
    refine hC.own args' r o ha ho { w := e.w, m := fun _ => none, n := e.n, I := e.I } vs hwf0 (fun _ => rfl) ⟨hr.1, fun j x v hx hv => (hr.2 j x v hx hv).still (e := e) (e' := { w := e.w, m := fun _ => none, n := e.n, I := e.I }) (fun _ h => h) (fun _ _ => rfl) (refsL_mem hre j x hx)⟩ Post (fun c e1 hw1 hE ⟨k, _, h1, h2⟩ => ?_)
    have hI1 : ∀ b, e1.I b → e1.I b ∧ (e.I b ∨ e.w.heap.size ≤ b) := fun b hb => by
      rcases hE.iNew b hb with h | h | ⟨_, _, h, _⟩
      · exact ⟨hb, .inl h⟩
      · exact ⟨hb, .inr h⟩
      · exact absurd h id
    obtain ⟨g3, g4⟩ := OwnIn.with (e := e) (e1 := e1) (N := N) (k := k) (I := e1.I) h1 h2 (fun v u ⟨x, hx⟩ hv => hv.still (e := e1) (e' := e.with e1 N k e1.I) (fun _ h => h) (fun _ _ => rfl) (by
      obtain ⟨j, hj⟩ := List.getElem?_of_mem hx
      exact refs_enc _ _ j v hj))
    have g1 := own_with (e0 := { w := e.w, m := fun _ => none, n := e.n, I := e.I }) (k := k) (D := dom H.get) hw rfl (fun _ => rfl) hE hw1 hN hI1 hE.iOld
    have g2 := own_with (e0 := { w := e.w, m := fun _ => none, n := e.n, I := e.I }) (k := k) (D := noD) hw rfl (fun _ => rfl) hE hw1 hN hI1 hE.iOld
    exact hk c (e.with e1 N k e1.I) g1.1 g1.2 g3 g4 (fun j hj => by simp [En.with, hj]) g2.2

end Am
