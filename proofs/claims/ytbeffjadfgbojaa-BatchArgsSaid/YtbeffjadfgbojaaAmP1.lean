/- append: the run. -/
import Derived.Test.YtbeffjadfgbojaaAmO9
import Derived.Laws.AppendOwn
namespace Am
open Go
variable {U : TyU} {R : Type} {P : Program} {G : Env U}

/-- an element, cell by cell, in an array -/
def ElsAt (e : En) (arr : Array Value) (ob sz : Nat) (es : List (List (AV U))) : Prop :=
  ∀ (i : Nat) (x : List (AV U)), es[i]? = some x → x.length = sz ∧ okCells x = true ∧ CellsAt e arr (ob + i * sz) x

/-- a row that is known as 'k' -/
def RowAt (e : En) (k sz : Nat) (es : List (List (AV U))) : Prop := e.n k = es.length ∧ ((e.m k = some .virt ∧ es = []) ∨
  ∃ (b ob : Nat) (arr : Array Value) (el : TypeId) (fz : Nat × Nat), e.m k = some (.at b ob) ∧ e.w.heap[b]? = some (.cells arr el fz) ∧
      ob + es.length * sz ≤ arr.size ∧ unfrozen fz ob arr.size ∧ ElsAt e arr ob sz es)

/-- the slice that is appended to -/
inductive BaseOK (D : Nat → Prop) (e : En) (sz : Nat) (as : List (List (AV U))) : Value → Prop where
  | empty {a : Option Addr} : as = [] → BaseOK D e sz as (.slice a 0 0)
  | live {kk b ob o' cap : Nat} {arr : Array Value} {el : TypeId} {fz : Nat × Nat} : D kk → e.m kk = some (.at b ob) → e.w.heap[b]? = some (.cells arr el fz) → o' + cap * sz ≤ arr.size → as.length ≤ cap →
      unfrozen fz o' arr.size → ElsAt e arr o' sz as → BaseOK D e sz as (.slice (some ⟨b, o', none⟩) as.length cap)

theorem run_zeros {t : TypeId} {d : TypeDesc} (h : P.underlying t = some d) (hd : ∀ k, d ≠ .int k) (w : World) :
    (do let x ← underlying t; pure (match x with | .int _ => true | _ => false) : Sem Bool).run P w = .ok false w := by
  simp [run_underlying h]

theorem run_append_in {t tx ty el : TypeId} {dx : TypeDesc} {sz : Nat} (ht : P.underlying t = some (.slice el)) (hx : P.underlying tx = some dx) (hdx : ∀ k, dx ≠ .int k)
    {base : Option Addr} {sLen sCap n : Nat} {cx : Value} (w : World) (hsz : (Go.sizeOf el).run P w = .ok sz w) (hl : (Builtin.lenOf cx).run P w = .ok n w) {news : Array Value}
    (hf : (Builtin.firstCells sz n cx).run P w = .ok news w) (hn : sLen + n ≤ sCap) :
    (Builtin.append_ #[t, tx] ty #[.slice base sLen sCap, cx]).run P w =
      (match base with | some a => (storeCells (a.add (sLen * sz)) news.toList).run P w | none => .ok () w).andThen fun _ w => .ok (.slice base (sLen + n) sCap) w := by
  have hz := run_zeros hx hdx w
  have h2 : (match dx with | .int _ => true | _ => false) = false := by cases dx <;> first | rfl | (rename_i k; exact absurd rfl (hdx k))
  cases base <;> simp [Builtin.append_, run_underlying ht, run_underlying hx, hsz, h2, hl, hf, hn]

theorem run_append_new {t tx ty el : TypeId} {dx : TypeDesc} {sz : Nat} {inf : TypeInfo} {z : Value} (ht : P.underlying t = some (.slice el)) (hx : P.underlying tx = some dx) (hdx : ∀ k, dx ≠ .int k)
    (hi : P.info? el = some inf) (hsz : inf.size = sz) (hz : inf.zero = some z)
    {base : Option Addr} {sLen sCap n : Nat} {cx : Value} (w : World) (hl : (Builtin.lenOf cx).run P w = .ok n w) {olds news : Array Value}
    (ho : (Builtin.firstCells sz sLen (.slice base sLen sCap)).run P w.drew = .ok olds w.drew)
    (hf : (Builtin.firstCells sz n cx).run P w.drew = .ok news w.drew) (hn : sCap < sLen + n) (hb : roomy (sLen + n) inf.bytes = true) (hb0 : inf.bytes ≠ 0) :
    (Builtin.append_ #[t, tx] ty #[.slice base sLen sCap, cx]).run P w =
      .ok (.slice (some ⟨w.heap.size, 0, none⟩) (sLen + n) (grownCap w (sLen + n) sCap el))
        (w.drew.alloc (.cells (olds ++ news ++ Builtin.zeroCells z.cells (grownCap w (sLen + n) sCap el - (sLen + n))) el)) := by
  have h2 : (match dx with | .int _ => true | _ => false) = false := by cases dx <;> first | rfl | (rename_i k; exact absurd rfl (hdx k))
  have hn' : ¬ (sLen + n ≤ sCap) := by omega
  have h63 : (sLen + n) * 1 ≤ (sLen + n) * inf.bytes := Nat.mul_le_mul_left _ (by omega)
  have hb1 := roomy_le hb
  have h63' : ¬ (9223372036854775807 < ((sLen : Int) + (n : Int))) := by omega
  have h48' : ¬ (281474976710656 < Builtin.nextslicecap (sLen + n) sCap * inf.bytes) := by have := roomy_grow hb hn; omega
  subst hsz
  simp [Builtin.append_, run_underlying ht, run_underlying hx, Go.sizeOf, typeInfo, zeroValue, hi, hz, h2, hl, hn', h63', h48', Question.forced, hf, ho, newRow, grownCap]

/-- the cells of two rows, one behind the other -/
theorem els_append {e : En} {sz : Nat} {as bs : List (List (AV U))} {arr : Array Value} {ob : Nat}
    (ha : ElsAt e arr ob sz as) (hb : ElsAt e arr (ob + as.length * sz) sz bs) : ElsAt e arr ob sz (as ++ bs) := by
  intro i x hx
  rw [List.getElem?_append] at hx
  split at hx
  · exact ha i x hx
  · rename_i hi
    obtain ⟨h1, h2, h3⟩ := hb _ x hx
    refine ⟨h1, h2, ?_⟩
    rw [show ob + as.length * sz + (i - as.length) * sz = ob + i * sz by
      rw [Nat.add_assoc, ← Nat.add_mul, show as.length + (i - as.length) = i by omega]] at h3
    exact h3

theorem els_nil (e : En) (arr : Array Value) (ob sz : Nat) : ElsAt (U := U) e arr ob sz [] := by intro i x hx; simp at hx

/-- elements that were read stand where they are put -/
theorem els_of {e e' : En} {sz : Nat} {bs : List (List (AV U))} {vs : List Value} (hbs : ∀ y ∈ bs, y.length = sz ∧ okCells y = true)
    (hv : ∀ (i : Nat) (y : List (AV U)), bs[i]? = some y → ∀ (j : Nat) (x : AV U), y[j]? = some x → j < sz → ∃ v, vs[i * sz + j]? = some v ∧ Rel e x v)
    (hmono : ∀ (x : AV U) (v : Value), Rel e x v → Rel e' x v) {arr : Array Value} {ob : Nat} (harr : ∀ j v, vs[j]? = some v → arr[ob + j]? = some v) : ElsAt e' arr ob sz bs := by
  intro i x hx
  obtain ⟨h1, h2⟩ := hbs x (List.mem_of_getElem? hx)
  refine ⟨h1, h2, fun j c hc => ?_⟩
  have hj : j < sz := by rw [← h1]; exact (List.getElem?_eq_some_iff.1 hc).1
  obtain ⟨v, g1, g2⟩ := hv i x hx j c hc hj
  exact ⟨v, by rw [Nat.add_assoc]; exact harr _ _ g1, hmono _ _ g2⟩

/-- the environment in which 'k' is a part of what was 'kk' -/
def En.pass (e : En) (w' : World) (k kk len : Nat) (l : Loc) : En :=
  { w := w', m := fun j => if j = k then some l else if j = kk then some .dead else e.m j, n := fun j => if j = k then len else e.n j, I := e.I }

theorem append_core {D : Nat → Prop} {e : En} (hw : WF e) {t tx ty el : TypeId} {dx : TypeDesc} {sz : Nat} {i : TI U} (hI : TIok P el i) (hsz : i.size = sz) (hb0 : i.bytes ≠ 0)
    (ht : P.underlying t = some (.slice el)) (hx : P.underlying tx = some dx) (hdx : ∀ k, dx ≠ .int k)
    {c cx : Value} {as bs : List (List (AV U))} (hE : Elems P e sz c as) (hbase : BaseOK D e sz as c) (hF : Elems P e sz cx bs) (hbs : ∀ y ∈ bs, y.length = sz ∧ okCells y = true)
    (has : ∀ y ∈ as, y.length = sz ∧ okCells y = true) (hroom : roomy (as.length + bs.length) i.bytes = true) {N : Nat} (hN : e.m N = none) :
    ∃ (c' : Value) (e' : En), (Builtin.append_ #[t, tx] ty #[c, cx]).run P e.w = .ok c' e'.w ∧ WF e' ∧ Evo D e e' ∧ Rel (U := U) e' (.mrow N sz) c' ∧ RowAt e' N sz (as ++ bs) ∧
      (∀ k, e.m k = none → e'.m k ≠ none → k = N) := by
  obtain ⟨olds, ho1, ho2, ho3, ho4, ho5⟩ := hE
  obtain ⟨news, hn1, hn2, hn3, hn4, hn5⟩ := hF
  obtain ⟨inf, hi1, hi2, hi3, z, hi4, hi5, hi6, hi7⟩ := hI.info
  -- a new row
  have grow : ∀ (base : Option Addr) (cap : Nat), c = .slice base as.length cap → cap < as.length + bs.length → ∃ (c' : Value) (e' : En), (Builtin.append_ #[t, tx] ty #[c, cx]).run P e.w = .ok c' e'.w ∧ WF e' ∧ Evo D e e' ∧ Rel (U := U) e' (.mrow N sz) c' ∧ RowAt e' N sz (as ++ bs) ∧
      (∀ k, e.m k = none → e'.m k ≠ none → k = N) := by
    intro base cap hc hlt
    subst hc
    have hrun := run_append_new (ty := ty) (sCap := cap) (base := base) ht hx hdx hi1 (hi2.trans hsz) hi4 e.w (hn4 e.w) (ho5 e.w.drew rfl) (hn5 e.w.drew rfl) hlt (by rw [hi3]; exact hroom) (by rw [hi3]; exact hb0)
    obtain ⟨arr, harr⟩ : ∃ arr, arr = olds.toArray ++ news.toArray ++ Builtin.zeroCells z.cells (grownCap e.w (as.length + bs.length) cap el - (as.length + bs.length)) := ⟨_, rfl⟩
    rw [← harr] at hrun
    have hzs : z.cells.size = sz := by rw [← hsz, ← hi6, hi5]; simp
    have hge := grownCap_ge e.w (as.length + bs.length) cap el
    have hasz : arr.size = grownCap e.w (as.length + bs.length) cap el * sz := by
      rw [harr]
      simp only [Array.size_append, List.size_toArray, size_zeroCells, hzs, ho1, hn1, ← Nat.add_mul]
      congr 1; omega
    have hEvo := En.push_evo (k := N) (len := as.length + bs.length) (w' := e.w.drew.alloc (.cells arr el)) D ⟨rfl, rfl, rfl⟩ hN
    refine ⟨_, e.push (e.w.drew.alloc (.cells arr el)) N (as.length + bs.length), hrun, En.push_wf hw rfl, hEvo, push_row rfl hge (by rw [hasz]; exact Nat.le_refl _), ?_, ?_⟩
    · refine ⟨by simp [En.push], .inr ⟨e.w.heap.size, 0, arr, el, (0, 0), by simp [En.push], by show (e.w.heap.push _)[e.w.heap.size]? = _; simp, ?_, unfrozen_zero _ _, ?_⟩⟩
      · rw [hasz, List.length_append, Nat.zero_add]; exact Nat.mul_le_mul_right _ hge
      · refine els_append ?_ ?_
        · refine els_of has ho2 (fun x v hr => hr.mono hEvo hw) (fun j v hj => ?_)
          have hjl : j < olds.length := (List.getElem?_eq_some_iff.1 hj).1
          rw [harr, Nat.zero_add, Array.getElem?_append_left (by simp; omega), Array.getElem?_append_left (by simpa using hjl)]
          simpa using hj
        · refine els_of hbs hn2 (fun x v hr => hr.mono hEvo hw) (fun j v hj => ?_)
          have hjl : j < news.length := (List.getElem?_eq_some_iff.1 hj).1
          rw [harr, Nat.zero_add, ← ho1, Array.getElem?_append_left (by simp; omega), Array.getElem?_append_right (by simp)]
          simpa using hj
    · intro k h0 h1
      simp only [En.push] at h1
      split at h1
      · assumption
      · exact absurd h0 h1
  cases hbase with
  | @empty a h0 =>
    subst h0
    by_cases hbe : bs = []
    · subst hbe
      have hnews : news = [] := List.length_eq_zero_iff.1 (by simpa using hn1)
      subst hnews
      have hsz' : (Go.sizeOf el).run P e.w = .ok sz e.w := by rw [← hsz]; exact hI.run_sizeOf e.w
      have hrun := run_append_in (ty := ty) (base := a) (sLen := 0) (sCap := 0) ht hx hdx e.w hsz' (hn4 e.w) (hn5 e.w rfl) (by simp)
      refine ⟨.slice a 0 0, e.pass e.w N N 0 .virt, ?_, ⟨hw.iLt, ?_, ?_, ?_⟩, ⟨Nat.le_refl _, fun _ _ _ => rfl, fun b arr el fz h => ⟨arr, h, rfl⟩, ?_, ?_, ?_, fun _ h => h, fun _ h => .inl h, ⟨rfl, rfl⟩⟩, ?_, ⟨by simp [En.pass], .inl ⟨by simp [En.pass], rfl⟩⟩, ?_⟩
      · rw [hrun]; cases a <;> rfl
      · intro k b o hm
        simp only [En.pass] at hm
        split at hm
        · cases hm
        · exact hw.mLt k b o hm
      · intro k b o hm
        simp only [En.pass] at hm ⊢
        split at hm
        · cases hm
        · exact hw.mI k b o hm
      · intro k k' b o o' h1 h2
        simp only [En.pass] at h1 h2
        split at h1
        · cases h1
        · split at h2
          · cases h2
          · exact hw.inj k k' b o o' h1 h2
      · intro k l hl
        left
        have hk : k ≠ N := by rintro rfl; rw [hN] at hl; cases hl
        simp [En.pass, hk, hl]
      · intro k l hl
        have hk : k ≠ N := by rintro rfl; rw [hN] at hl; cases hl
        simp [En.pass, hk]
      · intro k b o hm
        simp only [En.pass] at hm
        split at hm
        · cases hm
        · exact .inl hm
      · exact .mrowE (l := .virt) (by simp [En.pass]) (by simp [En.pass])
      · intro k h1 h2
        simp only [En.pass] at h2
        split at h2
        · assumption
        · exact absurd h1 h2
    · exact grow a 0 rfl (by have := List.length_pos_iff.2 hbe; simp; omega)
  | @live kk b ob o' cap arr el' fz hD hm hb hfit hcap hfz hels =>
    by_cases hle : as.length + bs.length ≤ cap
    · have hsz' : (Go.sizeOf el).run P e.w = .ok sz e.w := by rw [← hsz]; exact hI.run_sizeOf e.w
      have hrun := run_append_in (ty := ty) (base := some ⟨b, o', none⟩) (sLen := as.length) (sCap := cap) ht hx hdx e.w hsz' (hn4 e.w) (hn5 e.w rfl) hle
      simp only [add_none] at hrun
      have hfit2 : o' + as.length * sz + news.length ≤ arr.size := by
        have : (as.length + bs.length) * sz ≤ cap * sz := Nat.mul_le_mul_right _ hle
        rw [Nat.add_mul] at this; rw [hn1]; omega
      obtain ⟨w', arr', r1, r2, r3, r4, r5, r6, r7⟩ := run_storeCells (P := P) b (o' + as.length * sz) el' fz news 0 e.w arr hb (by simpa using hfit2) (fun j h1 h2 => hfz j (by omega) h2) hn3
      have hNk : kk ≠ N := by rintro rfl; rw [hN] at hm; cases hm
      have hmN : (e.pass w' N kk (as.length + bs.length) (.at b o')).m N = some (.at b o') := by simp [En.pass]
      have hEvo : Evo D e (e.pass w' N kk (as.length + bs.length) (.at b o')) := by
        refine ⟨by simp [En.pass, r2], fun b' _ hk => r3 b' (by rintro rfl; exact hk kk ob hD hm), fun b' a2 el2 fz2 h => ?_, fun k l hl => ?_, fun k l hl => ?_, fun k b2 o2 hk => ?_, fun _ h => h, fun _ h => .inl h, r7⟩
        · by_cases hbb : b' = b
          · subst hbb; rw [hb] at h; cases h; exact ⟨arr', r4, r5⟩
          · exact ⟨a2, by show w'.heap[b']? = _; rw [r3 b' hbb]; exact h, rfl⟩
        · have hk : k ≠ N := by rintro rfl; rw [hN] at hl; cases hl
          simp only [En.pass, if_neg hk]
          by_cases hkk : k = kk
          · right; subst hkk; exact ⟨hD, by simp⟩
          · left; rw [if_neg hkk]; exact hl
        · have hk : k ≠ N := by rintro rfl; rw [hN] at hl; cases hl
          simp [En.pass, hk]
        · simp only [En.pass] at hk
          split at hk
          · cases hk; exact .inr (.inr ⟨kk, ob, hD, hm⟩)
          · split at hk
            · cases hk
            · exact .inl hk
      have hW : WF (e.pass w' N kk (as.length + bs.length) (.at b o')) := by
        refine ⟨fun b' hb' => by show b' < w'.heap.size; rw [r2]; exact hw.iLt b' hb', fun k b2 o2 hk => ?_, fun k b2 o2 hk => ?_, fun k k' b2 o2 o3 h1 h2 => ?_⟩
        · show b2 < w'.heap.size
          rw [r2]
          simp only [En.pass] at hk
          split at hk
          · cases hk; exact hw.mLt kk b ob hm
          · split at hk
            · cases hk
            · exact hw.mLt k b2 o2 hk
        · simp only [En.pass] at hk ⊢
          split at hk
          · cases hk; exact hw.mI kk b ob hm
          · split at hk
            · cases hk
            · exact hw.mI k b2 o2 hk
        · simp only [En.pass] at h1 h2
          split at h1
          · cases h1
            split at h2
            · simp_all
            · split at h2
              · cases h2
              · rename_i hk'; exact absurd (hw.inj k' kk b o3 ob h2 hm) hk'
          · split at h1
            · cases h1
            · rename_i hkk
              split at h2
              · cases h2; exact absurd (hw.inj k kk b o2 ob h1 hm) hkk
              · split at h2
                · cases h2
                · exact hw.inj k k' b2 o2 o3 h1 h2
      refine ⟨.slice (some ⟨b, o', none⟩) (as.length + bs.length) cap, e.pass w' N kk (as.length + bs.length) (.at b o'), ?_, hW, hEvo, ?_, ?_, ?_⟩
      · rw [hrun, r1]; rfl
      · have hnN : (e.pass w' N kk (as.length + bs.length) (.at b o')).n N = as.length + bs.length := by simp [En.pass]
        have := Rel.mrow (U := U) (sz := sz) hmN (cap := cap) (by rw [hnN]; exact hle) ⟨arr', el', fz, r4, by rw [r5]; exact hfit⟩
        rw [hnN] at this
        exact this
      · refine ⟨by simp [En.pass], .inr ⟨b, o', arr', el', fz, hmN, r4, ?_, by rw [r5]; exact hfz, els_append ?_ ?_⟩⟩
        · rw [r5, List.length_append]
          have : (as.length + bs.length) * sz ≤ cap * sz := Nat.mul_le_mul_right _ hle
          omega
        · intro q x hq
          obtain ⟨g1, g2, g3⟩ := hels q x hq
          refine ⟨g1, g2, fun j cj hj => ?_⟩
          obtain ⟨v, v1, v2⟩ := g3 j cj hj
          refine ⟨v, ?_, v2.mono hEvo hw⟩
          have hql : q < as.length := (List.getElem?_eq_some_iff.1 hq).1
          have hjl : j < sz := by rw [← g1]; exact (List.getElem?_eq_some_iff.1 hj).1
          have := idx_le (sz := sz) hql
          rw [r6, if_neg (by omega)]
          exact v1
        · refine els_of hbs hn2 (fun x v hr => hr.mono hEvo hw) (fun j v hj => ?_)
          have hjl : j < news.length := (List.getElem?_eq_some_iff.1 hj).1
          rw [r6, if_pos (by omega)]
          rw [show o' + as.length * sz + j - (o' + as.length * sz + 0) = j by omega]
          exact hj
      · intro k h1 h2
        simp only [En.pass] at h2
        split at h2
        · assumption
        · split at h2
          · rename_i hk; subst hk; rw [hm] at h1; cases h1
          · exact absurd h1 h2
    · exact grow _ cap rfl (by omega)

end Am
