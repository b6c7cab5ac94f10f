/- Regions in the text's order. -/
import Derived.Test.YtbeffjadfgbojaaAmQ1
namespace Am
open Go
variable {U : TyU} {R : Type} {P : Program} {G : Env U}

theorem StRel.evo_step {e e' : En} {st : St U} {a : Act} (h : StRel e st a) (hE : Evo allD e e') {v : AV U} {c : Value} (hw : WF e') (hv : Rel e' v c) {H' : Heap U} (hh : HeapRel e' H'.get) (hf : ∀ k, H'.length ≤ k → e'.m k = none) (d : Option Tmp) :
    StRel e' { fr := put st.fr d v, H := H' } (a.put d c) where
  fr := (FrRel.mono hE h.wf h.fr).put hv d
  heap := hh
  wf := hw
  fresh := hf
  defers := by rw [put_defers]; exact h.defers

section
variable {call : FuncId → List (AV U) → Heap U → (AV U → Heap U → Option R) → Option R}

theorem freezeSt_length (ids : List Nat) (st : St U) : (freezeSt ids st).H.length = st.H.length := by
  cases ids with
  | nil => rfl
  | cons k l => simp only [freezeSt]; rw [killH_length, subH_length]

theorem stepK_sound (hG : EnvOK P G) (hcall : CallS P call) {o : Oper} {st : St U} {k : St U → Option R} {r : R} (h : stepK G call o st k = some r) :
    ∃ st', k st' = some r ∧ st.H.length ≤ st'.H.length ∧ ∀ (e : En) (a : Act) (K : Act → World → Prop) (Q : Exit → Act → World → Prop), StRel e st a →
      (∀ (e' : En) (a' : Act), StRel e' st' a' → Evo allD e e' → K a' e'.w) → o.wp P a e.w K Q := by
  unfold stepK at h
  obtain ⟨v, H', hk, hl, hs⟩ := opK_sound hG hcall h
  have hs : OpF P o (freezeSt (needFreeze G o.op st.fr st.H) st).fr (freezeSt (needFreeze G o.op st.fr st.H) st).H v H' := hs.elim (fun h => h.1.toF hl) (fun h => h.2)
  refine ⟨_, hk, by rw [freezeSt_length] at hl; exact hl, fun e a K Q hst hK => ?_⟩
  obtain ⟨e1, h1, hw1, hE1⟩ := freezeSt_sound (needFreeze G o.op st.fr st.H) hst
  rw [← hw1]
  refine hs e1 a K Q h1.wf (fun x => h1.fr.ev x) h1.heap h1.fresh (fun c e' hw' hE hv hh' hf' => ?_)
  exact hK e' _ (h1.evo_step hE hw' hv hh' hf' o.dst) (hE1.all.trans hE)

theorem FrRel.set {e : En} {fr : List (AV U)} {t : Array Value} (h : FrRel e fr t) {d : Nat} {v : AV U} (hv : ∀ c, t[d]? = some c → Rel e v c) : FrRel e (fr.set d v) t := by
  refine ⟨by simpa using h.1, fun j x u hx hu => ?_⟩
  by_cases hj : d = j
  · subst hj
    rw [List.getElem?_set, if_pos rfl] at hx
    split at hx
    · cases hx; exact hv u (by simpa using hu)
    · cases hx
  · rw [List.getElem?_set_ne hj] at hx
    exact h.2 j x u hx hu

theorem FrRel.slot {e : En} {fr : List (AV U)} {t : Array Value} (h : FrRel e fr t) {d : Nat} {v : AV U} (hv : fr.getD d undefA = v) (hne : v ≠ undefA) : ∃ c, t[d]? = some c ∧ Rel e v c := by
  rw [List.getD_eq_getElem?_getD] at hv
  cases hd : fr[d]? with
  | none => rw [hd] at hv; exact absurd hv.symm hne
  | some x =>
    rw [hd] at hv
    simp at hv; subst hv
    obtain ⟨c, h1, h2⟩ := RelL.get h hd
    exact ⟨c, by simpa using h1, h2⟩

theorem guardK_sound {ops : Array Oper} {o : Oper} {st : St U} {yes no : St U → Option R} {r : R} (h : guardK ops.toList o st yes no = some r) :
    (∃ st', yes st' = some r ∧ st'.H = st.H ∧ ∀ (e : En) (a : Act), FrRel e st.fr a.tmps → FrRel e st'.fr a.tmps ∧ Region.wanted o (yielded ops a.tmps) = true) ∨
    (∃ st', no st' = some r ∧ st'.H = st.H ∧ ∀ (e : En) (a : Act), FrRel e st.fr a.tmps → FrRel e st'.fr a.tmps ∧ Region.wanted o (yielded ops a.tmps) = false) := by
  unfold guardK at h
  split at h
  · rename_i hg
    exact .inl ⟨st, h, rfl, fun e a hf => ⟨hf, by simp [Region.wanted, hg]⟩⟩
  · rename_i j want hg
    split at h
    · cases h
    rename_i d hd
    have hd' : (ops[j]?).bind (·.dst) = some d := by
      unfold guardSlot at hd
      rw [Array.getElem?_toList] at hd
      cases ho : ops[j]? with
      | none => rw [ho] at hd; cases hd
      | some o' => rw [ho] at hd; exact hd
    have hy : ∀ (e : En) (a : Act) (b : Bool), st.fr.getD d undefA = .bool b → FrRel e st.fr a.tmps → a.tmps[d]? = some (.bool b) ∧ yielded ops a.tmps j = some b := by
      intro e a b hb hf
      obtain ⟨c, h1, h2⟩ := hf.slot hb (by unfold undefA; simp)
      rw [h2.bool_inv] at h1
      exact ⟨h1, by simp [yielded, hd', h1]⟩
    have hset : ∀ (e : En) (a : Act) (b : Bool), st.fr.getD d undefA = .bool b → FrRel e st.fr a.tmps → FrRel e (st.fr.set d (.bool b)) a.tmps := by
      intro e a b hb hf
      refine hf.set (fun c hc => ?_)
      rw [(hy e a b hb hf).1] at hc
      cases hc; exact .bool
    split at h
    · rename_i b hb
      split at h
      · split at h
        · exact .inl ⟨_, h, rfl, fun e a hf => ⟨hset e a _ hb hf, by simp [Region.wanted, hg, (hy e a _ hb hf).2]⟩⟩
        · exact .inr ⟨_, h, rfl, fun e a hf => ⟨hset e a _ hb hf, by simp [Region.wanted, hg, (hy e a _ hb hf).2]⟩⟩
      · split at h
        · exact .inr ⟨_, h, rfl, fun e a hf => ⟨hset e a _ hb hf, by simp [Region.wanted, hg, (hy e a _ hb hf).2]⟩⟩
        · exact .inl ⟨_, h, rfl, fun e a hf => ⟨hset e a _ hb hf, by simp [Region.wanted, hg, (hy e a _ hb hf).2]⟩⟩
    · rename_i hb
      refine .inr ⟨_, h, rfl, fun e a hf => ⟨hf, ?_⟩⟩
      have : yielded ops a.tmps j = none := by
        simp only [yielded, hd', Option.bind_some]
        cases hdd : a.tmps[d]? with
        | none => rfl
        | some c =>
          have : st.fr[d]? = some (.tup []) := by
            rw [List.getD_eq_getElem?_getD] at hb
            cases hfd : st.fr[d]? with
            | none =>
              have := hf.1
              have h1 := List.getElem?_eq_none_iff.1 hfd
              have h2 := (Array.getElem?_eq_some_iff.1 hdd).1
              simp at this; omega
            | some x => rw [hfd] at hb; simp at hb; rw [hb]
          have hr := hf.2 d _ c this (by simpa using hdd)
          obtain ⟨va, rfl, _⟩ := hr.tup_inv
          rfl
      simp [Region.wanted, hg, this]
    · cases h

theorem seqK_sound (hG : EnvOK P G) (hcall : CallS P call) {ops : Array Oper} : ∀ (rest : List Oper) (i : Nat) (st : St U) (k : St U → Option R) (r : R), ops.toList.drop i = rest → seqK G call ops.toList rest st k = some r →
    ∃ st', k st' = some r ∧ st.H.length ≤ st'.H.length ∧ ∀ (e : En) (a : Act) (Q : Exit → Act → World → Prop), StRel e st a →
      (∀ (e' : En) (a' : Act), StRel e' st' a' → Evo allD e e' → Q .normal a' e'.w) → wpOps P ops Q (List.range' i rest.length) a e.w
  | [], i, st, k, r, _, h => ⟨st, h, Nat.le_refl _, fun e a Q hst hQ => hQ e a hst (.refl _ _)⟩
  | o :: rest, i, st, k, r, hd, h => by
    have ho : ops[i]? = some o := by
      have : (ops.toList.drop i)[0]? = some o := by rw [hd]; rfl
      rw [List.getElem?_drop] at this
      simpa using this
    have hd' : ops.toList.drop (i + 1) = rest := by
      have : ops.toList.drop (i + 1) = (ops.toList.drop i).drop 1 := by rw [List.drop_drop]
      rw [this, hd]; rfl
    unfold seqK at h
    rcases guardK_sound h with ⟨st1, h1, hH, hg⟩ | ⟨st1, h1, hH, hg⟩
    · obtain ⟨st2, h2, hl2, hs2⟩ := stepK_sound hG hcall h1
      obtain ⟨st3, h3, hl3, hs3⟩ := seqK_sound hG hcall rest (i + 1) st2 k r hd' h2
      refine ⟨st3, h3, by rw [hH] at hl2; omega, fun e a Q hst hQ => ?_⟩
      obtain ⟨g1, g2⟩ := hg e a hst.fr
      have hst1 : StRel e st1 a := ⟨g1, by rw [hH]; exact hst.heap, hst.wf, by rw [hH]; exact hst.fresh, hst.defers⟩
      simp only [List.length_cons, List.range'_succ, wpOps, ho, g2, if_true]
      refine .inl (hs2 e a _ Q hst1 (fun e' a' hst' hE => ?_))
      exact hs3 e' a' Q hst' (fun e2 a2 hst2 hE2 => hQ e2 a2 hst2 (hE.trans hE2))
    · obtain ⟨st3, h3, hl3, hs3⟩ := seqK_sound hG hcall rest (i + 1) _ k r hd' h1
      refine ⟨st3, h3, by rw [hH] at hl3; exact hl3, fun e a Q hst hQ => ?_⟩
      obtain ⟨g1, g2⟩ := hg e a hst.fr
      simp only [List.length_cons, List.range'_succ, wpOps, ho, g2, Bool.false_eq_true, if_false]
      refine hs3 e _ Q ⟨FrRel.put g1 (a := a) (v := undefA) (c := undef) (.tup rfl (by simp)) o.dst, by rw [hH]; exact hst.heap, hst.wf, by rw [hH]; exact hst.fresh, by rw [put_defers]; exact hst.defers⟩ hQ

theorem seq_region (hG : EnvOK P G) (hcall : CallS P call) {id : Nat} {ops : Array Oper} {st : St U} {k : St U → Option R} {r : R} (h : seqK G call ops.toList ops.toList st k = some r) :
    ∃ st', k st' = some r ∧ st.H.length ≤ st'.H.length ∧ ∀ (e : En) (a : Act) (Q : Exit → Act → World → Prop), StRel e st a →
      (∀ (e' : En) (a' : Act), StRel e' st' a' → Evo allD e e' → Q .normal a' e'.w) → (Code.region id ops false).wp P Q a e.w := by
  obtain ⟨st', h1, h2, h3⟩ := seqK_sound hG hcall ops.toList 0 st k r rfl h
  refine ⟨st', h1, h2, fun e a Q hst hQ => wp_region ?_⟩
  have := h3 e a Q hst hQ
  rw [List.range_eq_range']
  simpa using this
end

end Am
