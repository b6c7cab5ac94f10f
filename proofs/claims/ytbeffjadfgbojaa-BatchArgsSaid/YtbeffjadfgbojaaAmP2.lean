/- append: the law. -/
import Derived.Test.YtbeffjadfgbojaaAmP1
namespace Am
open Go
variable {U : TyU} {R : Type} {P : Program} {G : Env U}

def baseD : AV U → Nat → Prop
  | .mrow k _, j => j = k
  | .msl k _ _ _, j => j = k
  | _, _ => False

theorem baseKill_length (s : AV U) (H : Heap U) : (baseKill s H).length = H.length := by
  cases s <;> simp [baseKill]

theorem Heap.get_set' (H : Heap U) (k j : Nat) : Heap.get (H.set k none) j = if j = k then none else H.get j := by
  unfold Heap.get
  by_cases hj : j = k
  · subst hj
    rw [if_pos rfl]
    by_cases hl : j < H.length
    · rw [List.getElem?_set_self hl]
    · rw [List.getElem?_eq_none (by simp; omega)]
  · rw [List.getElem?_set_ne (fun hh => hj hh.symm), if_neg hj]

theorem baseKill_get {s : AV U} {H : Heap U} {j : Nat} {b : Blk U} (h : (baseKill s H).get j = some b) : H.get j = some b ∧ ¬ baseD s j := by
  unfold baseKill at h
  split at h
  · rw [Heap.get_set'] at h
    split at h
    · cases h
    · rename_i hj; exact ⟨h, hj⟩
  · rw [Heap.get_set'] at h
    split at h
    · cases h
    · rename_i hj; exact ⟨h, hj⟩
  · rename_i h1 h2
    refine ⟨h, ?_⟩
    cases s <;> first | exact id | (exfalso; exact h1 _ _ _ _ rfl) | (exfalso; exact h2 _ _ rfl)

theorem row_cells {H : Heap U} {k : Nat} {t : U.T} {xs : List (U.den t)} (hb : H.get k = some (.row t xs)) {e : En} (hh : HeapRel e H.get) {b ob : Nat} (hm : e.m k = some (.at b ob)) :
    ∃ (arr : Array Value) (el : TypeId) (fz : Nat × Nat), e.w.heap[b]? = some (.cells arr el fz) ∧ ob + xs.length * (U.shape t).length ≤ arr.size ∧ unfrozen fz ob arr.size ∧ ElsAt e arr ob (U.shape t).length (xs.map (enc t)) := by
  obtain ⟨_, h2⟩ := hh k _ hb
  rcases h2 with ⟨hv, _⟩ | ⟨b', ob', arr, el, fz, h3, h4, h5, h6, h7⟩
  · rw [hm] at hv; cases hv
  rw [hm] at h3; cases h3
  refine ⟨arr, el, fz, h4, h5, h6, fun i y hy => ?_⟩
  rw [List.getElem?_map, Option.map_eq_some_iff] at hy
  obtain ⟨x, hx, rfl⟩ := hy
  exact ⟨enc_length t x, okCells_enc t x, h7 i x hx⟩

theorem urow_cells {H : Heap U} {k sz : Nat} {es : List (List (AV U))} (hb : H.get k = some (.urow sz es)) {e : En} (hh : HeapRel e H.get) {b ob : Nat} (hm : e.m k = some (.at b ob)) :
    ∃ (arr : Array Value) (el : TypeId) (fz : Nat × Nat), e.w.heap[b]? = some (.cells arr el fz) ∧ ob + es.length * sz ≤ arr.size ∧ unfrozen fz ob arr.size ∧ ElsAt e arr ob sz es := by
  obtain ⟨_, h2⟩ := hh k _ hb
  rcases h2 with ⟨hv, _⟩ | ⟨b', ob', arr, el, fz, h3, h4, h5, h6, h7⟩
  · rw [hm] at hv; cases hv
  rw [hm] at h3; cases h3
  exact ⟨arr, el, fz, h4, h5, h6, h7⟩

theorem els_part {e : En} {arr : Array Value} {ob sz lo len : Nat} {es : List (List (AV U))} (h : ElsAt e arr ob sz es) : ElsAt e arr (ob + lo * sz) sz ((es.drop lo).take len) := by
  intro i y hy
  rw [List.getElem?_take] at hy
  split at hy
  · rw [List.getElem?_drop] at hy
    have := h _ y hy
    rw [show ob + lo * sz + i * sz = ob + (lo + i) * sz by rw [Nat.add_mul]; omega]
    exact this
  · cases hy

theorem live_arr {w : World} {b : Nat} {a1 a2 : Array Value} {e1 e2 : TypeId} {f1 f2 : Nat × Nat} (h1 : w.heap[b]? = some (.cells a1 e1 f1)) (h2 : w.heap[b]? = some (.cells a2 e2 f2)) : a1 = a2 := by
  rw [h1] at h2; cases h2; rfl

theorem base_ok {size : Nat} {H : Heap U} {s : AV U} {as : List (List (AV U))} (h : elemsU size H s = some as) (hs : baseOk s = true) {e : En} (hh : HeapRel e H.get) {c : Value} (hr : Rel e s c) :
    BaseOK (baseD s) e size as c := by
  unfold elemsU at h
  split at h
  · cases h; cases hr; exact .empty rfl
  · cases hs
  · cases hs
  · cases hs
  · rename_i k sz
    have key : ∀ (es : List (List (AV U))) (len : Nat), len = es.length → rowLen H k = some len → (∀ b ob, e.m k = some (.at b ob) → ∃ (arr : Array Value) (el : TypeId) (fz : Nat × Nat), e.w.heap[b]? = some (.cells arr el fz) ∧ ob + es.length * sz ≤ arr.size ∧ unfrozen fz ob arr.size ∧ ElsAt e arr ob sz es) →
        BaseOK (baseD (.mrow k sz : AV U)) e sz es c := by
      intro es len hlen hrl hcells
      rcases mrow_live hrl hh hr with ⟨a, l, hn, rfl, hm⟩ | ⟨b, ob, cap, hm, rfl, hl, arr1, el1, fz1, hb1, hfit⟩
      · exact .empty (List.length_eq_zero_iff.1 (by omega))
      · obtain ⟨arr, el, fz, hb, _, hfz, hels⟩ := hcells b ob hm
        have := live_arr hb1 hb
        subst this
        rw [hlen]
        exact .live (kk := k) (ob := ob) (arr := arr1) (el := el) (fz := fz) rfl hm hb hfit (by omega) hfz hels
    split at h
    · rename_i t xs hb
      split at h
      · rename_i hsz
        rw [Bool.and_eq_true] at hsz
        have h1 : size = sz := Nat.eq_of_beq_eq_true hsz.1
        have h2 : sz = (U.shape t).length := Nat.eq_of_beq_eq_true hsz.2
        cases h
        subst h1
        exact key _ xs.length (by simp) (by unfold rowLen; rw [hb]) (fun b ob hm => by rw [h2]; have := row_cells hb hh hm; simpa using this)
      · cases h
    · rename_i sz' es hb
      split at h
      · rename_i hsz
        rw [Bool.and_eq_true] at hsz
        have h1 : size = sz := Nat.eq_of_beq_eq_true hsz.1
        have h2 : sz = sz' := Nat.eq_of_beq_eq_true hsz.2
        subst h1; subst h2
        cases h
        exact key _ as.length rfl (by unfold rowLen; rw [hb]) (fun b ob hm => urow_cells hb hh hm)
      · cases h
    · cases h
  · rename_i k sz lo len
    have key : ∀ (es : List (List (AV U))), lo + len ≤ es.length → H.get k ≠ none → (∀ b ob, e.m k = some (.at b ob) → ∃ (arr : Array Value) (el : TypeId) (fz : Nat × Nat), e.w.heap[b]? = some (.cells arr el fz) ∧ ob + es.length * sz ≤ arr.size ∧ unfrozen fz ob arr.size ∧ ElsAt e arr ob sz es) →
        e.m k ≠ some .dead → BaseOK (baseD (.msl k sz lo len : AV U)) e sz ((es.drop lo).take len) c := by
      intro es hle _ hcells hnd
      have hlen : ((es.drop lo).take len).length = len := by simp; omega
      rcases hr.msl_inv with ⟨a, cap, hd, rfl, hl⟩ | ⟨a, l, hn, rfl, _⟩ | ⟨b, ob, cap, hm, rfl, hl, arr1, el1, fz1, hb1, hfit⟩
      · exact absurd hd hnd
      · subst hn; exact .empty (by simp)
      · obtain ⟨arr, el, fz, hb, _, hfz, hels⟩ := hcells b ob hm
        have := live_arr hb1 hb
        subst this
        have hlive := BaseOK.live (U := U) (D := baseD (AV.msl k sz lo len : AV U)) (e := e) (sz := sz) (as := (es.drop lo).take len) (kk := k) (b := b) (ob := ob) (o' := ob + lo * sz) (cap := cap) (arr := arr1) (el := el) (fz := fz) rfl hm hb
          (by rw [Nat.add_mul] at hfit; omega) (by omega) (fun j h1 h2 => hfz j (by omega) h2) (els_part hels)
        rw [hlen] at hlive
        exact hlive
    have hdead : ∀ blk, H.get k = some blk → e.m k ≠ some .dead := by
      intro blk hb hd
      have := hh k blk hb
      cases blk with
      | box cs => obtain ⟨_, _, _, _, _, h1, _⟩ := this; rw [hd] at h1; cases h1
      | row t xs => rcases this.2 with ⟨h1, _⟩ | ⟨_, _, _, _, _, h1, _⟩ <;> rw [hd] at h1 <;> cases h1
      | urow sz es => rcases this.2 with ⟨h1, _⟩ | ⟨_, _, _, _, _, h1, _⟩ <;> rw [hd] at h1 <;> cases h1
      | tm kt vt es => obtain ⟨_, _, _, _, h1, _⟩ := this; rw [hd] at h1; cases h1
    split at h
    · rename_i t xs hb
      split at h
      · rename_i hsz
        simp only [Bool.and_eq_true] at hsz
        have h1 : size = sz := Nat.eq_of_beq_eq_true hsz.1.1
        have h2 : sz = (U.shape t).length := Nat.eq_of_beq_eq_true hsz.1.2
        have h3 : lo + len ≤ xs.length := Nat.le_of_ble_eq_true hsz.2
        cases h
        subst h1
        rw [List.map_take, List.map_drop]
        exact key (xs.map (enc t)) (by simpa using h3) (by rw [hb]; simp) (fun b ob hm => by rw [h2]; have := row_cells hb hh hm; simpa using this) (hdead _ hb)
      · cases h
    · rename_i sz' es hb
      split at h
      · rename_i hsz
        simp only [Bool.and_eq_true] at hsz
        have h1 : size = sz := Nat.eq_of_beq_eq_true hsz.1.1
        have h2 : sz = sz' := Nat.eq_of_beq_eq_true hsz.1.2
        have h3 : lo + len ≤ es.length := Nat.le_of_ble_eq_true hsz.2
        subst h1; subst h2
        cases h
        exact key es h3 (by rw [hb]; simp) (fun b ob hm => urow_cells hb hh hm) (hdead _ hb)
      · cases h
    · cases h
  · cases h

theorem baseD_dom {size : Nat} {H : Heap U} {s : AV U} {as : List (List (AV U))} (h : elemsU size H s = some as) : ∀ k, baseD s k → dom H.get k := by
  intro k hk
  unfold elemsU at h
  split at h
  · cases hk
  · cases hk
  · cases hk
  · cases hk
  · have hk : k = _ := hk
    subst hk
    intro hn
    rw [hn] at h
    cases h
  · have hk : k = _ := hk
    subst hk
    intro hn
    rw [hn] at h
    cases h
  · cases h

theorem blk_row {e : En} {k : Nat} {t : U.T} {xs : List (U.den t)} (h : RowAt e k (U.shape t).length (xs.map (enc t))) : BlkOK e k (.row t xs) := by
  refine ⟨by simpa using h.1, ?_⟩
  rcases h.2 with ⟨h1, h2⟩ | ⟨b, ob, arr, el, fz, h1, h2, h3, h4, h5⟩
  · exact .inl ⟨h1, by simpa using h2⟩
  · refine .inr ⟨b, ob, arr, el, fz, h1, h2, by simpa using h3, h4, fun i x hx => ?_⟩
    exact (h5 i (enc t x) (by simp [hx])).2.2

theorem blk_urow {e : En} {k sz : Nat} {es : List (List (AV U))} (h : RowAt e k sz es) : BlkOK e k (.urow sz es) := h

theorem appendK_sound (hti : TIs P G) {el : TypeId} {s x : AV U} {H : Heap U} {k : AV U → Heap U → Option R} {r : R} (h : appendK G el s x H k = some r) :
    ∃ (v : AV U) (H' : Heap U), k v H' = some r ∧ H'.length = H.length + 1 ∧ ∀ (e : En) (c cx : Value) (t tx ty : TypeId) (dx : TypeDesc), WF e → Rel e s c → Rel e x cx → HeapRel e H.get → e.m H.length = none →
      P.underlying t = some (.slice el) → P.underlying tx = some dx → (∀ k, dx ≠ .int k) →
      ∃ (c' : Value) (e' : En), (Builtin.append_ #[t, tx] ty #[c, cx]).run P e.w = .ok c' e'.w ∧ WF e' ∧ Evo (dom H.get) e e' ∧ Rel e' v c' ∧ HeapRel e' H'.get ∧
        (∀ k, e.m k = none → e'.m k ≠ none → k = H.length) := by
  unfold appendK at h
  split at h
  · cases h
  rename_i j hj
  have hJ := hti el j hj
  split at h
  case h_2 => cases h
  rename_i hsb hbase
  rw [Bool.or_eq_false_iff] at hsb
  have h0s : 0 < j.size := by
    rcases Nat.eq_zero_or_pos j.size with hh | hh
    · rw [hh] at hsb; cases hsb.1
    · exact hh
  have h0b : j.bytes ≠ 0 := fun hh => by rw [hh] at hsb; cases hsb.2
  have key : ∀ (as bs : List (List (AV U))) (blk : Blk U), elemsU j.size H s = some as → elemsU j.size H x = some bs → roomy (as.length + bs.length) j.bytes = true →
      (∀ (e : En) (k : Nat), RowAt e k j.size (as ++ bs) → BlkOK e k blk) →
      ∀ (e : En) (c cx : Value) (t tx ty : TypeId) (dx : TypeDesc), WF e → Rel e s c → Rel e x cx → HeapRel e H.get → e.m H.length = none →
      P.underlying t = some (.slice el) → P.underlying tx = some dx → (∀ k, dx ≠ .int k) →
      ∃ (c' : Value) (e' : En), (Builtin.append_ #[t, tx] ty #[c, cx]).run P e.w = .ok c' e'.w ∧ WF e' ∧ Evo (dom H.get) e e' ∧ Rel (U := U) e' (.mrow H.length j.size) c' ∧ HeapRel e' (Heap.get (baseKill s H ++ [some blk])) ∧
        (∀ k, e.m k = none → e'.m k ≠ none → k = H.length) := by
    intro as bs blk ha hb hroom hblk e c cx t tx ty dx hw hs hx hh hN ht htx hdx
    obtain ⟨ea1, ea2⟩ := elemsU_elems (P := P) ha h0s hh hs
    obtain ⟨eb1, eb2⟩ := elemsU_elems (P := P) hb h0s hh hx
    obtain ⟨c', e', g1, g2, g3, g4, g5, g6⟩ := append_core (ty := ty) hw hJ rfl h0b ht htx hdx ea1 (base_ok ha hbase hh hs) eb1 eb2 ea2 hroom hN
    refine ⟨c', e', g1, g2, g3.weaken (baseD_dom ha), g4, fun q b hq => ?_, g6⟩
    rw [Heap.get_snoc, baseKill_length] at hq
    split at hq
    · rename_i hqq; subst hqq; cases hq; exact hblk e' _ g5
    · obtain ⟨q1, q2⟩ := baseKill_get hq
      exact (hh q b q1).mono g3 hw q2
  split at h
  · rename_i t hty
    split at h
    · rename_i hsz
      have hsz : j.size = (U.shape t).length := Nat.eq_of_beq_eq_true hsz
      split at h
      · rename_i a b ha hb
        obtain ⟨hroom, h⟩ := chk_inv h
        have ha' := elemsT_U ha
        have hb' := elemsT_U hb
        rw [← hsz] at ha' hb'
        refine ⟨_, _, h, by simp [baseKill_length], key _ _ _ ha' hb' (by simpa using hroom) (fun e k hrow => blk_row ?_)⟩
        rw [← hsz, List.map_append]
        exact hrow
      · cases h
    · cases h
  · split at h
    · rename_i a b ha hb
      obtain ⟨hroom, h⟩ := chk_inv h
      exact ⟨_, _, h, by simp [baseKill_length], key _ _ _ ha hb hroom (fun e k hrow => blk_urow hrow)⟩
    · cases h

end Am
