/- Maps. -/
import Derived.Test.YtlogoccciaopnaaGreatDoorAmP2
import Derived.MapKept
namespace Am
open Go
variable {U : TyU} {R : Type} {P : Program} {G : Env U}

/-- a key, as it is -/
inductive KeyIs : TypeDesc → List (AV U) → Value → Prop where
  | int {k : IntKind} {n : Int} : KeyIs (.int k) [.int k n] (.int k n)
  | str {s : List UInt8} : KeyIs .string [.str s] (.string ⟨⟨s⟩⟩)

theorem key_is {a : U.T} {tk : TK} (h : keyOk a tk = true) {d : TypeDesc} (hd : TKok d tk) {e : En} (x : U.den a) {c : Value} (hr : Rel e (encV a x) c) : KeyIs d (enc a x) c := by
  unfold keyOk at h
  unfold encV at hr
  unfold enc at *
  generalize U.tup a x = y at *
  revert y
  generalize U.isAgg a = g at *
  generalize U.shape a = sh at *
  intro y hr
  split at h
  · have hk := IntKind.same_eq h
    subst hk
    cases d <;> simp only [TKok] at hd
    subst hd
    cases hr
    exact .int
  · cases d <;> simp only [TKok] at hd
    cases hr
    exact .str
  · cases h

theorem KeyIs.isKey {d : TypeDesc} {l : List (AV U)} {c : Value} (h : KeyIs d l c) : MapKept.IsKey d c := by
  cases h <;> simp [MapKept.IsKey]

theorem key_eq {a : U.T} {x y : U.den a} {d : TypeDesc} {c c' : Value} (hx : KeyIs d (enc a x) c) (hy : KeyIs d (enc a y) c') : keyEq a x y = true ↔ c = c' := by
  unfold keyEq
  generalize enc a x = l at *
  generalize enc a y = l' at *
  cases hx with
  | int => cases hy; simp [eqI]
  | str => cases hy; simp [eqS]

theorem decV_sound {t : U.T} {v : AV U} {x : U.den t} (h : decV t v = some x) {e : En} {c : Value} (hr : Rel e v c) : Rel e (encV t x) c := by
  unfold decV at h
  unfold encV
  split at h
  · rename_i cs hg
    rw [hg]
    obtain ⟨va, rfl, hl⟩ := hr.agg_inv
    exact Rel.of_agg (dec_list h hl)
  · cases h
  · rename_i v hg _
    rw [hg]
    have := dec_list h (RelL.cons hr RelL.nil)
    match hh : enc t x, this with
    | [], h1 => have := h1.1; simp at this
    | [y], h1 => exact h1.head
    | _ :: _ :: _, h1 => have := h1.1; simp at this
  · cases h

/-- the two maps -/
structure MapRel (e : En) (a b : U.T) (es : List (U.den a × U.den b)) (l : List MapEntry) : Prop where
  len : l.length = es.length
  key : ∀ (i : Nat) (p : U.den a × U.den b), es[i]? = some p → ∃ en : MapEntry, l[i]? = some en ∧ Rel e (encV a p.1) en.key ∧ Rel e (encV b p.2) en.val

theorem MapRel.tail {e : En} {a b : U.T} {p : U.den a × U.den b} {es : List (U.den a × U.den b)} {en : MapEntry} {l : List MapEntry} (h : MapRel e a b (p :: es) (en :: l)) : MapRel e a b es l :=
  ⟨by have := h.len; simpa using this, fun i q hq => by have := h.key (i + 1) q (by simpa using hq); simpa using this⟩

theorem find_ok {a b : U.T} {tk : TK} (hk : keyOk a tk = true) {d : TypeDesc} (hd : TKok d tk) {e : En} {x : U.den a} {c : Value} (hr : Rel e (encV a x) c) :
    ∀ (es : List (U.den a × U.den b)) (l : List MapEntry) (i : Nat), MapRel e a b es l →
      (lookL (keyEq a) x es = none ∧ Instr.findNow d c l i = some none ∧ ∀ v : U.den b, setL (keyEq a) x v es = es ++ [(x, v)]) ∨
      ∃ (j : Nat) (p : U.den a × U.den b) (en : MapEntry), lookL (keyEq a) x es = some p.2 ∧ Instr.findNow d c l i = some (some (i + j, en.val)) ∧ l[j]? = some en ∧ en.key = c ∧ es[j]? = some p ∧ ∀ v : U.den b, setL (keyEq a) x v es = es.set j (x, v)
  | [], l, i, h => by
    have : l = [] := List.length_eq_zero_iff.1 (by have := h.len; simpa using this)
    subst this
    exact .inl ⟨rfl, rfl, fun _ => rfl⟩
  | p :: es, [], i, h => by have := h.len; simp at this
  | p :: es, en :: l, i, h => by
    obtain ⟨en', h1, h2, h3⟩ := h.key 0 p rfl
    simp at h1; subst h1
    have k1 := key_is hk hd x hr
    have k2 := key_is hk hd p.1 h2
    have hiff := key_eq k1 k2
    obtain ⟨r, g1, g2⟩ := MapKept.sameNow_of_keys k1.isKey k2.isKey
    obtain ⟨y, z⟩ := p
    cases hq : keyEq a x y with
    | true =>
      have hc := hiff.1 hq
      right
      refine ⟨0, (y, z), en, by simp [lookL, hq], ?_, rfl, hc.symm, rfl, fun v => by simp [setL, hq]⟩
      have : r = true := g2.2 hc
      subst this
      simp [Instr.findNow, g1]
    | false =>
      have hc : c ≠ en.key := fun hh => by have := hiff.2 hh; rw [hq] at this; cases this
      have : r = false := by
        cases r
        · rfl
        · exact absurd (g2.1 rfl) hc
      subst this
      rcases find_ok hk hd hr es l (i + 1) h.tail with ⟨q1, q2, q3⟩ | ⟨j, p, en', q1, q2, q3, q4, q5, q6⟩
      · exact .inl ⟨by simp [lookL, hq, q1], by simp [Instr.findNow, g1, q2], fun v => by simp [setL, hq, q3]⟩
      · refine .inr ⟨j + 1, p, en', by simp [lookL, hq, q1], ?_, by simpa using q3, q4, by simpa using q5, fun v => by simp [setL, hq, q6]⟩
        simp [Instr.findNow, g1, q2]; omega

theorem tm_map {H : Heap U} {k : Nat} {a b : U.T} {es : List (U.den a × U.den b)} (hb : H.get k = some (.tm a b es)) {e : En} (hh : HeapRel e H.get) {c : Value} (hr : Rel (U := U) e (.map k) c) :
    ∃ (r ob : Nat) (ents : Array MapEntry) (clock : Nat), c = .map (some r) ∧ e.m k = some (.at r ob) ∧ e.w.heap[r]? = some (.map ents clock) ∧ MapRel e a b es ents.toList := by
  obtain ⟨r, ob, ents, clock, h1, h2, h3, h4⟩ := hh k _ hb
  cases hr with
  | mapDead hd => rw [h1] at hd; cases hd
  | map hm =>
    rw [h1] at hm; cases hm
    exact ⟨r, ob, ents, clock, rfl, h1, h2, ⟨by simpa using h3, fun i p hp => by
      obtain ⟨en, g1, g2, g3⟩ := h4 i p hp
      exact ⟨en, by simpa using g1, g2, g3⟩⟩⟩

theorem zeroV_rel {t : TypeId} {j : TI U} (hJ : TIok P t j) (e : En) (w : World) : ∃ z, (zeroValue t).run P w = .ok z w ∧ Rel e (zeroV j) z := by
  obtain ⟨inf, z, hi1, hi2, hi3, hi4⟩ := hJ.zagg
  have hz : (zeroValue t).run P w = .ok z w := by simp [zeroValue, typeInfo, hi1, hi2]
  obtain ⟨z', hz1, hz2⟩ := hJ.zero_rel e w
  have hzz : z' = z := by rw [hz] at hz1; cases hz1; rfl
  subst hzz
  refine ⟨z', hz1, ?_⟩
  unfold zeroV
  cases hk : j.tk.isAgg with
  | true =>
    obtain ⟨va, rfl⟩ := hi3 hk
    exact Rel.of_agg hz2
  | false =>
    have hl := hJ.zero_len.trans (hJ.one hk)
    have hc : z'.cells = #[z'] := by
      have := hi4 hk
      cases z' <;> first | rfl | exact absurd rfl (this _)
    rw [hc] at hz2
    match hh : j.zero, hl with
    | [x], _ => rw [hh] at hz2; exact hz2.head

theorem lookupK_sound (hti : TIs P G) {t : TypeId} {m key : AV U} {commaOk : Bool} {H : Heap U} {k : AV U → Option R} {r : R} (h : lookupK G t m key commaOk H k = some r) :
    ∃ v, k v = some r ∧ ∀ (e : En) (cm ck : Value), HeapRel e H.get → Rel e m cm → Rel e key ck → ∃ c, (Instr.lookup t cm ck commaOk).run P e.w = .ok c e.w ∧ Rel e v c := by
  unfold lookupK at h
  split at h
  case h_2 => cases h
  rename_i kt vt _ _ _ ht
  have hu := (hti t _ ht).und_map rfl
  split at h
  case h_2 => cases h
  rename_i i j hi hj
  have hI := hti kt i hi
  have hJ := hti vt j hj
  obtain ⟨d, hd1, hd2⟩ := hI.und
  split at h
  case h_2 => cases h
  rename_i kk
  split at h
  case h_2 => cases h
  rename_i a b es hb
  split at h
  case h_2 => cases h
  rename_i hko
  split at h
  case h_2 => cases h
  rename_i x hx
  have okr : ∀ (e : En) (v : AV U) (c : Value) (ok : Bool) (kk : AV U → Option R), okK commaOk v ok kk = some r → ∃ v', kk v' = some r ∧ ∀ (e : En) (c : Value), Rel e v c → Rel e v' (if commaOk then .tuple #[c, .bool ok] else c) := by
    intro e v c ok kk hkk
    unfold okK at hkk
    cases commaOk with
    | true => exact ⟨_, hkk, fun e c hr => Rel.of_tup (RelL.cons hr (RelL.cons .bool RelL.nil))⟩
    | false => exact ⟨_, hkk, fun e c hr => hr⟩
  have run : ∀ (e : En) (cm ck : Value), HeapRel e H.get → Rel (U := U) e (.map kk) cm → Rel e key ck → ∃ ents : Array MapEntry, MapRel e a b es ents.toList ∧ Rel e (encV a x) ck ∧
      ∀ q, Instr.findNow d ck ents.toList 0 = some q → (Instr.lookup t cm ck commaOk).run P e.w = match q with
        | some (_, v) => .ok (if commaOk then .tuple #[v, .bool true] else v) e.w
        | none => ((zeroValue vt).run P e.w).andThen fun v w => .ok (if commaOk then .tuple #[v, .bool false] else v) w := by
    intro e cm ck hh hm hkey
    obtain ⟨r, ob, ents, clock, rfl, h1, h2, h3⟩ := tm_map hb hh hm
    have hke := decV_sound hx hkey
    have hkis := (key_is hko hd2 x hke).isKey
    refine ⟨ents, h3, hke, fun q hq => ?_⟩
    simp only [Instr.lookup, Sem.run_bind, run_underlying hu, Result.andThen_ok, MapKept.run_getObj_map h2, Sem.run_pure, MapKept.run_checkKey hd1 hkis, MapKept.run_findKey hd1 hq]
    cases q with
    | none => simp
    | some q => simp
  cases hl : lookL (keyEq a) x es with
  | some y =>
    rw [hl] at h
    obtain ⟨v', g1, g2⟩ := okr ⟨default, fun _ => none, fun _ => 0, fun _ => False⟩ _ default true k h
    refine ⟨v', g1, fun e cm ck hh hm hkey => ?_⟩
    obtain ⟨ents, q1, q2, q3⟩ := run e cm ck hh hm hkey
    rcases find_ok hko hd2 q2 es ents.toList 0 q1 with ⟨p1, _, _⟩ | ⟨n, p, en, p1, p2, p3, p4, p5, _⟩
    · rw [hl] at p1; cases p1
    · rw [hl] at p1; cases p1
      refine ⟨_, q3 _ p2, g2 e _ ?_⟩
      obtain ⟨en', v1, v2, v3⟩ := q1.key n p p5
      rw [p3] at v1; cases v1
      exact v3
  | none =>
    rw [hl] at h
    obtain ⟨v', g1, g2⟩ := okr ⟨default, fun _ => none, fun _ => 0, fun _ => False⟩ _ default false k h
    refine ⟨v', g1, fun e cm ck hh hm hkey => ?_⟩
    obtain ⟨ents, q1, q2, q3⟩ := run e cm ck hh hm hkey
    rcases find_ok hko hd2 q2 es ents.toList 0 q1 with ⟨p1, p2, _⟩ | ⟨n, p, en, p1, p2, p3, p4, p5, _⟩
    · obtain ⟨z, hz1, hz2⟩ := zeroV_rel hJ e e.w
      refine ⟨_, ?_, g2 e z hz2⟩
      rw [q3 _ p2]
      simp [hz1]
    · rw [hl] at p1; cases p1

theorem map_set {e : En} {w' : World} {k r ob : Nat} {ents ents' : Array MapEntry} {clock clock' : Nat} {H : Heap U} {a b : U.T} {es es' : List (U.den a × U.den b)} (hw : WF e) (hh : HeapRel e H.get)
    (hb : H.get k = some (.tm a b es)) (hm : e.m k = some (.at r ob)) (hr : e.w.heap[r]? = some (.map ents clock)) (hw' : w'.heap = e.w.heap.setIfInBounds r (.map ents' clock')) (hes : MapRel e a b es' ents'.toList) (hio : sameIO e.w w' := by exact ⟨rfl, rfl⟩) :
    WF { e with w := w' } ∧ Evo (dom H.get) e { e with w := w' } ∧ HeapRel { e with w := w' } (Heap.get (H.set k (some (.tm a b es')))) := by
  have hs : w'.heap.size = e.w.heap.size := by rw [hw']; simp
  have hnew : w'.heap[r]? = some (.map ents' clock') := by rw [hw']; exact (MapKept.heap_set hr).1
  have hoth : ∀ b', b' ≠ r → w'.heap[b']? = e.w.heap[b']? := fun b' hne => by rw [hw']; exact (MapKept.heap_set hr).2 b' hne
  have hE : Evo (fun j => j = k) e { e with w := w' } := by
    refine ⟨by simp [hs], fun b' _ hk => hoth b' (by rintro rfl; exact hk k ob rfl hm), fun b' a2 el2 fz2 h => ?_, fun _ _ h => .inl h, fun _ _ _ => rfl, fun _ _ _ h => .inl h, fun _ h => h, fun _ h => .inl h, hio⟩
    have : b' ≠ r := by rintro rfl; rw [hr] at h; cases h
    exact ⟨a2, fz2, by rw [← h]; exact hoth b' this, rfl⟩
  have hW := store_wf hw hs
  refine ⟨hW, hE.weaken (fun j hj => by subst hj; show H.get _ ≠ none; rw [hb]; simp), heap_after hw hh hb hE ⟨r, ob, ents', clock', hm, hnew, by simpa using hes.len, fun i p hp => ?_⟩⟩
  obtain ⟨en, h1, h2, h3⟩ := hes.key i p hp
  exact ⟨en, by simpa using h1, h2.mono hE hw, h3.mono hE hw⟩

theorem mapUpdateK_sound (hti : TIs P G) {t : TypeId} {m key v : AV U} {H : Heap U} {k : Heap U → Option R} {r : R} (h : mapUpdateK G t m key v H k = some r) :
    ∃ H', k H' = some r ∧ H'.length = H.length ∧ ∀ (e : En) (cm ck cv : Value), WF e → HeapRel e H.get → Rel e m cm → Rel e key ck → Rel e v cv →
      ∃ w', (Instr.mapUpdate t cm ck cv).run P e.w = .ok () w' ∧ WF { e with w := w' } ∧ Evo (dom H.get) e { e with w := w' } ∧ HeapRel { e with w := w' } H'.get := by
  unfold mapUpdateK at h
  split at h
  case h_2 => cases h
  rename_i kt vt _ _ _ ht
  have hu := (hti t _ ht).und_map rfl
  split at h
  case h_2 => cases h
  rename_i i hi
  have hI := hti kt i hi
  obtain ⟨d, hd1, hd2⟩ := hI.und
  split at h
  case h_2 => cases h
  rename_i kk
  split at h
  case h_2 => cases h
  rename_i a b es hb
  split at h
  case h_2 => cases h
  rename_i hko
  split at h
  case h_2 => cases h
  rename_i x hx
  split at h
  case h_2 => cases h
  rename_i y hy
  refine ⟨_, h, by simp, fun e cm ck cv hw hh hm hkey hv => ?_⟩
  obtain ⟨r, ob, ents, clock, rfl, h1, h2, h3⟩ := tm_map hb hh hm
  have hke := decV_sound hx hkey
  have hve := decV_sound hy hv
  have hkis := (key_is hko hd2 x hke).isKey
  rcases find_ok hko hd2 hke es ents.toList 0 h3 with ⟨_, p2, p3⟩ | ⟨n, p, en, p1, p2, p3, p4, p5, p6⟩
  · refine ⟨{ e.w with heap := e.w.heap.setIfInBounds r (.map (ents.push { key := ck, val := cv, born := clock }) (clock + 1)) }, ?_, map_set hw hh hb h1 h2 rfl ?_⟩
    · simp [Instr.mapUpdate, run_underlying hu, MapKept.run_getObj_map h2, MapKept.run_checkKey hd1 hkis, MapKept.run_findKey hd1 p2, MapKept.run_setObj_map _ h2]
    · rw [p3]
      refine ⟨by have := h3.len; simp at this ⊢; exact this, fun q p hp => ?_⟩
      rw [List.getElem?_append] at hp
      have hlen : ents.toList.length = es.length := h3.len
      split at hp
      · rename_i hq
        obtain ⟨en, g1, g2⟩ := h3.key q p hp
        refine ⟨en, ?_, g2⟩
        rw [Array.toList_push, List.getElem?_append_left (by omega)]
        exact g1
      · rename_i hq
        have hq0 : q - es.length = 0 := by
          rcases Nat.eq_zero_or_pos (q - es.length) with h0 | h0
          · exact h0
          · rw [List.getElem?_eq_none (by simp; omega)] at hp; cases hp
        rw [hq0] at hp
        simp at hp; subst hp
        refine ⟨{ key := ck, val := cv, born := clock }, ?_, hke, hve⟩
        rw [Array.toList_push, List.getElem?_append_right (by omega), show q - ents.toList.length = 0 by omega]
        rfl
  · have hnl : ents[n]? = some en := by simpa using p3
    refine ⟨{ e.w with heap := e.w.heap.setIfInBounds r (.map (ents.modify n fun e => { e with key := ck, val := cv }) clock) }, ?_, map_set hw hh hb h1 h2 rfl ?_⟩
    · simp [Instr.mapUpdate, run_underlying hu, MapKept.run_getObj_map h2, MapKept.run_checkKey hd1 hkis, MapKept.run_findKey hd1 p2, hnl, p4, MapKept.run_keyThatStays hkis, MapKept.run_setObj_map _ h2]
    · rw [p6]
      refine ⟨by have := h3.len; simp at this ⊢; exact this, fun q p' hp => ?_⟩
      by_cases hqn : n = q
      · subst hqn
        rw [List.getElem?_set] at hp
        rw [if_pos rfl] at hp
        split at hp
        · cases hp
          refine ⟨{ en with key := ck, val := cv }, ?_, hke, hve⟩
          rw [Array.getElem?_toList, Array.getElem?_modify, if_pos rfl, hnl]
          rfl
        · cases hp
      · rw [List.getElem?_set_ne hqn] at hp
        obtain ⟨en', g1, g2⟩ := h3.key q p' hp
        refine ⟨en', ?_, g2⟩
        rw [Array.getElem?_toList, Array.getElem?_modify, if_neg hqn, ← Array.getElem?_toList]
        exact g1

end Am
