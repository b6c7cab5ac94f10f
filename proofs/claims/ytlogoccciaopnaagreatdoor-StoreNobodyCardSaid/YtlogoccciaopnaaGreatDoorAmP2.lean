/- append: the run. append: the law. -/
import Derived.Test.YtlogoccciaopnaaGreatDoorAmO9
import Derived.Laws.AppendOwn
namespace Am
open Go
variable {U : TyU} {R : Type} {P : Program} {G : Env U}

/-- an element, cell by cell, in an array -/
def ElsAt (e : En) (arr : Array Value) (ob sz : Nat) (es : List (List (AV U))) : Prop :=
  ∀ (i : Nat) (x : List (AV U)), es[i]? = some x → x.length = sz ∧ okCells x = true ∧ CellsAt e arr (ob + i * sz) x

/-- a row that is known as 'k' -/
def RowAt (e : En) (k sz : Nat) (es : List (List (AV U))) : Prop := e.n k = es.length ∧ ((e.m k = some .virt ∧ es = []) ∨
  ∃ (b ob : Nat) (arr : Array Value) (el : TypeId) (fz : Nat × Nat), e.m k = some (.at b ob) ∧ e.w.heap[b]? = some (.cells arr el fz) ∧
      ob + es.length * sz ≤ arr.size ∧ unfrozen fz ob arr.size ∧ ElsAt e arr ob sz es)

/-- the slice that is appended to -/
inductive BaseOK (D : Nat → Prop) (e : En) (sz : Nat) (as : List (List (AV U))) : Value → Prop where
  | empty {a : Option Addr} : as = [] → BaseOK D e sz as (.slice a 0 0)
  | live {kk b ob o' cap : Nat} {arr : Array Value} {el : TypeId} {fz : Nat × Nat} : D kk → e.m kk = some (.at b ob) → e.w.heap[b]? = some (.cells arr el fz) → o' + cap * sz ≤ arr.size → as.length ≤ cap →
      unfrozen fz o' arr.size → ElsAt e arr o' sz as → BaseOK D e sz as (.slice (some ⟨b, o', none⟩) as.length cap)

theorem run_zeros {t : TypeId} {d : TypeDesc} (h : P.underlying t = some d) (hd : ∀ k, d ≠ .int k) (w : World) :
    (do let x ← underlying t; pure (match x with | .int _ => true | _ => false) : Sem Bool).run P w = .ok false w := by
  simp [run_underlying h]

theorem run_append_in {t tx ty el : TypeId} {dx : TypeDesc} {sz : Nat} (ht : P.underlying t = some (.slice el)) (hx : P.underlying tx = some dx) (hdx : ∀ k, dx ≠ .int k)
    {base : Option Addr} {sLen sCap n : Nat} {cx : Value} (w : World) (hsz : (Go.sizeOf el).run P w = .ok sz w) (hl : (Builtin.lenOf cx).run P w = .ok n w) {news : Array Value}
    (hf : (Builtin.firstCells sz n cx).run P w = .ok news w) (hn : sLen + n ≤ sCap) :
    (Builtin.append_ #[t, tx] ty #[.slice base sLen sCap, cx]).run P w =
      (match base with | some a => (storeCells (a.add (sLen * sz)) news.toList).run P w | none => .ok () w).andThen fun _ w => .ok (.slice base (sLen + n) sCap) w := by
  have hz := run_zeros hx hdx w
  have h2 : (match dx with | .int _ => true | _ => false) = false := by cases dx <;> first | rfl | (rename_i k; exact absurd rfl (hdx k))
  cases base <;> simp [Builtin.append_, run_underlying ht, run_underlying hx, hsz, h2, hl, hf, hn]

theorem run_append_new {t tx ty el : TypeId} {dx : TypeDesc} {sz : Nat} {inf : TypeInfo} {z : Value} (ht : P.underlying t = some (.slice el)) (hx : P.underlying tx = some dx) (hdx : ∀ k, dx ≠ .int k)
    (hi : P.info? el = some inf) (hsz : inf.size = sz) (hz : inf.zero = some z)
    {base : Option Addr} {sLen sCap n : Nat} {cx : Value} (w : World) (hl : (Builtin.lenOf cx).run P w = .ok n w) {olds news : Array Value}
    (ho : (Builtin.firstCells sz sLen (.slice base sLen sCap)).run P w.drew = .ok olds w.drew)
    (hf : (Builtin.firstCells sz n cx).run P w.drew = .ok news w.drew) (hn : sCap < sLen + n) (hb : roomy (sLen + n) inf.bytes = true) (hb0 : inf.bytes ≠ 0) :
    (Builtin.append_ #[t, tx] ty #[.slice base sLen sCap, cx]).run P w =
      .ok (.slice (some ⟨w.heap.size, 0, none⟩) (sLen + n) (grownCap w (sLen + n) sCap el))
        (w.drew.alloc (.cells (olds ++ news ++ Builtin.zeroCells z.cells (grownCap w (sLen + n) sCap el - (sLen + n))) el)) := by
  have h2 : (match dx with | .int _ => true | _ => false) = false := by cases dx <;> first | rfl | (rename_i k; exact absurd rfl (hdx k))
  have hn' : ¬ (sLen + n ≤ sCap) := by omega
  have h63 : (sLen + n) * 1 ≤ (sLen + n) * inf.bytes := Nat.mul_le_mul_left _ (by omega)
  have hb1 := roomy_le hb
  have h63' : ¬ (9223372036854775807 < ((sLen : Int) + (n : Int))) := by omega
  have h48' : ¬ (281474976710656 < Builtin.nextslicecap (sLen + n) sCap * inf.bytes) := by have := roomy_grow hb hn; omega
  subst hsz
  simp [Builtin.append_, run_underlying ht, run_underlying hx, Go.sizeOf, typeInfo, zeroValue, hi, hz, h2, hl, hn', h63', h48', Question.forced, hf, ho, newRow, grownCap]

/-- the cells of two rows, one behind the other -/
theorem els_append {e : En} {sz : Nat} {as bs : List (List (AV U))} {arr : Array Value} {ob : Nat}
    (ha : ElsAt e arr ob sz as) (hb : ElsAt e arr (ob + as.length * sz) sz bs) : ElsAt e arr ob sz (as ++ bs) := by
  intro i x hx
  rw [List.getElem?_append] at hx
  split at hx
  · exact ha i x hx
  · rename_i hi
    obtain ⟨h1, h2, h3⟩ := hb _ x hx
    refine ⟨h1, h2, ?_⟩
    rw [show ob + as.length * sz + (i - as.length) * sz = ob + i * sz by
      rw [Nat.add_assoc, ← Nat.add_mul, show as.length + (i - as.length) = i by omega]] at h3
    exact h3

theorem els_nil (e : En) (arr : Array Value) (ob sz : Nat) : ElsAt (U := U) e arr ob sz [] := by intro i x hx; simp at hx

/-- elements that were read stand where they are put -/
theorem els_of {e e' : En} {sz : Nat} {bs : List (List (AV U))} {vs : List Value} (hbs : ∀ y ∈ bs, y.length = sz ∧ okCells y = true)
    (hv : ∀ (i : Nat) (y : List (AV U)), bs[i]? = some y → ∀ (j : Nat) (x : AV U), y[j]? = some x → j < sz → ∃ v, vs[i * sz + j]? = some v ∧ Rel e x v)
    (hmono : ∀ (x : AV U) (v : Value), Rel e x v → Rel e' x v) {arr : Array Value} {ob : Nat} (harr : ∀ j v, vs[j]? = some v → arr[ob + j]? = some v) : ElsAt e' arr ob sz bs := by
  intro i x hx
  obtain ⟨h1, h2⟩ := hbs x (List.mem_of_getElem? hx)
  refine ⟨h1, h2, fun j c hc => ?_⟩
  have hj : j < sz := by rw [← h1]; exact (List.getElem?_eq_some_iff.1 hc).1
  obtain ⟨v, g1, g2⟩ := hv i x hx j c hc hj
  exact ⟨v, by rw [Nat.add_assoc]; exact harr _ _ g1, hmono _ _ g2⟩

/-- where the row behind an append lies: at the beginning of a block of such elements, or where the old one lay -/
def LiesAs (e e' : En) (N : Nat) (el : TypeId) (c : Value) : Prop := ∀ b o, e'.m N = some (.at b o) →
  (o = 0 ∧ ∃ (arr : Array Value) (fz : Nat × Nat), e'.w.heap[b]? = some (.cells arr el fz)) ∨
  ∃ (l cap : Nat) (arr arr' : Array Value) (el' : TypeId) (fz fz' : Nat × Nat), c = .slice (some ⟨b, o, none⟩) l cap ∧ e.w.heap[b]? = some (.cells arr el' fz) ∧ e'.w.heap[b]? = some (.cells arr' el' fz')

/-- the environment in which 'k' is a part of what was 'kk' -/
def En.pass (e : En) (w' : World) (k kk len : Nat) (l : Loc) : En :=
  { w := w', m := fun j => if j = k then some l else if j = kk then some .dead else e.m j, n := fun j => if j = k then len else e.n j, I := e.I }

theorem append_core {D : Nat → Prop} {e : En} (hw : WF e) {t tx ty el : TypeId} {dx : TypeDesc} {sz : Nat} {i : TI U} (hI : TIok P el i) (hsz : i.size = sz) (hb0 : i.bytes ≠ 0)
    (ht : P.underlying t = some (.slice el)) (hx : P.underlying tx = some dx) (hdx : ∀ k, dx ≠ .int k)
    {c cx : Value} {as bs : List (List (AV U))} (hE : Elems P e sz c as) (hbase : BaseOK D e sz as c) (hF : Elems P e sz cx bs) (hbs : ∀ y ∈ bs, y.length = sz ∧ okCells y = true)
    (has : ∀ y ∈ as, y.length = sz ∧ okCells y = true) (hroom : roomy (as.length + bs.length) i.bytes = true) {N : Nat} (hN : e.m N = none) :
    ∃ (c' : Value) (e' : En), (Builtin.append_ #[t, tx] ty #[c, cx]).run P e.w = .ok c' e'.w ∧ WF e' ∧ Evo D e e' ∧ Rel (U := U) e' (.mrow N sz) c' ∧ RowAt e' N sz (as ++ bs) ∧
      (∀ k, e.m k = none → e'.m k ≠ none → k = N) ∧ LiesAs e e' N el c := by
  obtain ⟨olds, ho1, ho2, ho3, ho4, ho5⟩ := hE
  obtain ⟨news, hn1, hn2, hn3, hn4, hn5⟩ := hF
  obtain ⟨inf, hi1, hi2, hi3, z, hi4, hi5, hi6, hi7⟩ := hI.info
  -- a new row
  have grow : ∀ (base : Option Addr) (cap : Nat), c = .slice base as.length cap → cap < as.length + bs.length → ∃ (c' : Value) (e' : En), (Builtin.append_ #[t, tx] ty #[c, cx]).run P e.w = .ok c' e'.w ∧ WF e' ∧ Evo D e e' ∧ Rel (U := U) e' (.mrow N sz) c' ∧ RowAt e' N sz (as ++ bs) ∧
      (∀ k, e.m k = none → e'.m k ≠ none → k = N) ∧ LiesAs e e' N el c := by
    intro base cap hc hlt
    subst hc
    have hrun := run_append_new (ty := ty) (sCap := cap) (base := base) ht hx hdx hi1 (hi2.trans hsz) hi4 e.w (hn4 e.w) (ho5 e.w.drew rfl) (hn5 e.w.drew rfl) hlt (by rw [hi3]; exact hroom) (by rw [hi3]; exact hb0)
    obtain ⟨arr, harr⟩ : ∃ arr, arr = olds.toArray ++ news.toArray ++ Builtin.zeroCells z.cells (grownCap e.w (as.length + bs.length) cap el - (as.length + bs.length)) := ⟨_, rfl⟩
    rw [← harr] at hrun
    have hzs : z.cells.size = sz := by rw [← hsz, ← hi6, hi5]; simp
    have hge := grownCap_ge e.w (as.length + bs.length) cap el
    have hasz : arr.size = grownCap e.w (as.length + bs.length) cap el * sz := by
      rw [harr]
      simp only [Array.size_append, List.size_toArray, size_zeroCells, hzs, ho1, hn1, ← Nat.add_mul]
      congr 1; omega
    have hEvo := En.push_evo (k := N) (len := as.length + bs.length) (w' := e.w.drew.alloc (.cells arr el)) D ⟨rfl, rfl, rfl⟩ hN
    refine ⟨_, e.push (e.w.drew.alloc (.cells arr el)) N (as.length + bs.length), hrun, En.push_wf hw rfl, hEvo, push_row rfl hge (by rw [hasz]; exact Nat.le_refl _), ?_, ?_, fun b o hm => .inl ?_⟩
    · refine ⟨by simp [En.push], .inr ⟨e.w.heap.size, 0, arr, el, (0, 0), by simp [En.push], by show (e.w.heap.push _)[e.w.heap.size]? = _; simp, ?_, unfrozen_zero _ _, ?_⟩⟩
      · rw [hasz, List.length_append, Nat.zero_add]; exact Nat.mul_le_mul_right _ hge
      · refine els_append ?_ ?_
        · refine els_of has ho2 (fun x v hr => hr.mono hEvo hw) (fun j v hj => ?_)
          have hjl : j < olds.length := (List.getElem?_eq_some_iff.1 hj).1
          rw [harr, Nat.zero_add, Array.getElem?_append_left (by simp; omega), Array.getElem?_append_left (by simpa using hjl)]
          simpa using hj
        · refine els_of hbs hn2 (fun x v hr => hr.mono hEvo hw) (fun j v hj => ?_)
          have hjl : j < news.length := (List.getElem?_eq_some_iff.1 hj).1
          rw [harr, Nat.zero_add, ← ho1, Array.getElem?_append_left (by simp; omega), Array.getElem?_append_right (by simp)]
          simpa using hj
    · intro k h0 h1
      simp only [En.push] at h1
      split at h1
      · assumption
      · exact absurd h0 h1
    · simp only [En.push] at hm
      rw [if_pos trivial] at hm
      cases hm
      exact ⟨rfl, arr, (0, 0), by show (e.w.heap.push _)[e.w.heap.size]? = _; simp⟩
  cases hbase with
  | @empty a h0 =>
    subst h0
    by_cases hbe : bs = []
    · subst hbe
      have hnews : news = [] := List.length_eq_zero_iff.1 (by simpa using hn1)
      subst hnews
      have hsz' : (Go.sizeOf el).run P e.w = .ok sz e.w := by rw [← hsz]; exact hI.run_sizeOf e.w
      have hrun := run_append_in (ty := ty) (base := a) (sLen := 0) (sCap := 0) ht hx hdx e.w hsz' (hn4 e.w) (hn5 e.w rfl) (by simp)
      refine ⟨.slice a 0 0, e.pass e.w N N 0 .virt, ?_, ⟨hw.iLt, ?_, ?_, ?_⟩, ⟨Nat.le_refl _, fun _ _ _ => rfl, fun b arr el fz h => ⟨arr, fz, h, rfl⟩, ?_, ?_, ?_, fun _ h => h, fun _ h => .inl h, ⟨rfl, rfl⟩⟩, ?_, ⟨by simp [En.pass], .inl ⟨by simp [En.pass], rfl⟩⟩, ?_, fun b o hm => by simp [En.pass] at hm⟩
      · rw [hrun]; cases a <;> rfl
      · intro k b o hm
        simp only [En.pass] at hm
        split at hm
        · cases hm
        · exact hw.mLt k b o hm
      · intro k b o hm
        simp only [En.pass] at hm ⊢
        split at hm
        · cases hm
        · exact hw.mI k b o hm
      · intro k k' b o o' h1 h2
        simp only [En.pass] at h1 h2
        split at h1
        · cases h1
        · split at h2
          · cases h2
          · exact hw.inj k k' b o o' h1 h2
      · intro k l hl
        left
        have hk : k ≠ N := by rintro rfl; rw [hN] at hl; cases hl
        simp [En.pass, hk, hl]
      · intro k l hl
        have hk : k ≠ N := by rintro rfl; rw [hN] at hl; cases hl
        simp [En.pass, hk]
      · intro k b o hm
        simp only [En.pass] at hm
        split at hm
        · cases hm
        · exact .inl hm
      · exact .mrowE (l := .virt) (by simp [En.pass]) (by simp [En.pass])
      · intro k h1 h2
        simp only [En.pass] at h2
        split at h2
        · assumption
        · exact absurd h1 h2
    · exact grow a 0 rfl (by have := List.length_pos_iff.2 hbe; simp; omega)
  | @live kk b ob o' cap arr el' fz hD hm hb hfit hcap hfz hels =>
    by_cases hle : as.length + bs.length ≤ cap
    · have hsz' : (Go.sizeOf el).run P e.w = .ok sz e.w := by rw [← hsz]; exact hI.run_sizeOf e.w
      have hrun := run_append_in (ty := ty) (base := some ⟨b, o', none⟩) (sLen := as.length) (sCap := cap) ht hx hdx e.w hsz' (hn4 e.w) (hn5 e.w rfl) hle
      simp only [add_none] at hrun
      have hfit2 : o' + as.length * sz + news.length ≤ arr.size := by
        have : (as.length + bs.length) * sz ≤ cap * sz := Nat.mul_le_mul_right _ hle
        rw [Nat.add_mul] at this; rw [hn1]; omega
      obtain ⟨w', arr', r1, r2, r3, r4, r5, r6, r7⟩ := run_storeCells (P := P) b (o' + as.length * sz) el' fz news 0 e.w arr hb (by simpa using hfit2) (fun j h1 h2 => hfz j (by omega) h2) hn3
      have hNk : kk ≠ N := by rintro rfl; rw [hN] at hm; cases hm
      have hmN : (e.pass w' N kk (as.length + bs.length) (.at b o')).m N = some (.at b o') := by simp [En.pass]
      have hEvo : Evo D e (e.pass w' N kk (as.length + bs.length) (.at b o')) := by
        refine ⟨by simp [En.pass, r2], fun b' _ hk => r3 b' (by rintro rfl; exact hk kk ob hD hm), fun b' a2 el2 fz2 h => ?_, fun k l hl => ?_, fun k l hl => ?_, fun k b2 o2 hk => ?_, fun _ h => h, fun _ h => .inl h, r7⟩
        · by_cases hbb : b' = b
          · subst hbb; rw [hb] at h; cases h; exact ⟨arr', _, r4, r5⟩
          · exact ⟨a2, fz2, by show w'.heap[b']? = _; rw [r3 b' hbb]; exact h, rfl⟩
        · have hk : k ≠ N := by rintro rfl; rw [hN] at hl; cases hl
          simp only [En.pass, if_neg hk]
          by_cases hkk : k = kk
          · right; subst hkk; exact ⟨hD, by simp⟩
          · left; rw [if_neg hkk]; exact hl
        · have hk : k ≠ N := by rintro rfl; rw [hN] at hl; cases hl
          simp [En.pass, hk]
        · simp only [En.pass] at hk
          split at hk
          · cases hk; exact .inr (.inr ⟨kk, ob, hD, hm⟩)
          · split at hk
            · cases hk
            · exact .inl hk
      have hW : WF (e.pass w' N kk (as.length + bs.length) (.at b o')) := by
        refine ⟨fun b' hb' => by show b' < w'.heap.size; rw [r2]; exact hw.iLt b' hb', fun k b2 o2 hk => ?_, fun k b2 o2 hk => ?_, fun k k' b2 o2 o3 h1 h2 => ?_⟩
        · show b2 < w'.heap.size
          rw [r2]
          simp only [En.pass] at hk
          split at hk
          · cases hk; exact hw.mLt kk b ob hm
          · split at hk
            · cases hk
            · exact hw.mLt k b2 o2 hk
        · simp only [En.pass] at hk ⊢
          split at hk
          · cases hk; exact hw.mI kk b ob hm
          · split at hk
            · cases hk
            · exact hw.mI k b2 o2 hk
        · simp only [En.pass] at h1 h2
          split at h1
          · cases h1
            split at h2
            · simp_all
            · split at h2
              · cases h2
              · rename_i hk'; exact absurd (hw.inj k' kk b o3 ob h2 hm) hk'
          · split at h1
            · cases h1
            · rename_i hkk
              split at h2
              · cases h2; exact absurd (hw.inj k kk b o2 ob h1 hm) hkk
              · split at h2
                · cases h2
                · exact hw.inj k k' b2 o2 o3 h1 h2
      refine ⟨.slice (some ⟨b, o', none⟩) (as.length + bs.length) cap, e.pass w' N kk (as.length + bs.length) (.at b o'), ?_, hW, hEvo, ?_, ?_, ?_, fun b2 o2 hm2 => .inr ?_⟩
      · rw [hrun, r1]; rfl
      · have hnN : (e.pass w' N kk (as.length + bs.length) (.at b o')).n N = as.length + bs.length := by simp [En.pass]
        have := Rel.mrow (U := U) (sz := sz) hmN (cap := cap) (by rw [hnN]; exact hle) ⟨arr', el', fz, r4, by rw [r5]; exact hfit⟩
        rw [hnN] at this
        exact this
      · refine ⟨by simp [En.pass], .inr ⟨b, o', arr', el', fz, hmN, r4, ?_, by rw [r5]; exact hfz, els_append ?_ ?_⟩⟩
        · rw [r5, List.length_append]
          have : (as.length + bs.length) * sz ≤ cap * sz := Nat.mul_le_mul_right _ hle
          omega
        · intro q x hq
          obtain ⟨g1, g2, g3⟩ := hels q x hq
          refine ⟨g1, g2, fun j cj hj => ?_⟩
          obtain ⟨v, v1, v2⟩ := g3 j cj hj
          refine ⟨v, ?_, v2.mono hEvo hw⟩
          have hql : q < as.length := (List.getElem?_eq_some_iff.1 hq).1
          have hjl : j < sz := by rw [← g1]; exact (List.getElem?_eq_some_iff.1 hj).1
          have := idx_le (sz := sz) hql
          rw [r6, if_neg (by omega)]
          exact v1
        · refine els_of hbs hn2 (fun x v hr => hr.mono hEvo hw) (fun j v hj => ?_)
          have hjl : j < news.length := (List.getElem?_eq_some_iff.1 hj).1
          rw [r6, if_pos (by omega)]
          rw [show o' + as.length * sz + j - (o' + as.length * sz + 0) = j by omega]
          exact hj
      · intro k h1 h2
        simp only [En.pass] at h2
        split at h2
        · assumption
        · split at h2
          · rename_i hk; subst hk; rw [hm] at h1; cases h1
          · exact absurd h1 h2
      · rw [hmN] at hm2; cases hm2
        exact ⟨_, _, _, _, _, _, _, rfl, hb, r4⟩
    · exact grow _ cap rfl (by omega)

end Am

namespace Am
open Go
variable {U : TyU} {R : Type} {P : Program} {G : Env U}

def baseD : AV U → Nat → Prop
  | .mrow k _, j => j = k
  | .msl k _ _ _, j => j = k
  | _, _ => False

theorem baseKill_length (s : AV U) (H : Heap U) : (baseKill s H).length = H.length := by
  cases s <;> simp [baseKill]

theorem Heap.get_set' (H : Heap U) (k j : Nat) : Heap.get (H.set k none) j = if j = k then none else H.get j := by
  unfold Heap.get
  by_cases hj : j = k
  · subst hj
    rw [if_pos rfl]
    by_cases hl : j < H.length
    · rw [List.getElem?_set_self hl]
    · rw [List.getElem?_eq_none (by simp; omega)]
  · rw [List.getElem?_set_ne (fun hh => hj hh.symm), if_neg hj]

theorem baseKill_get {s : AV U} {H : Heap U} {j : Nat} {b : Blk U} (h : (baseKill s H).get j = some b) : H.get j = some b ∧ ¬ baseD s j := by
  unfold baseKill at h
  split at h
  · rw [Heap.get_set'] at h
    split at h
    · cases h
    · rename_i hj; exact ⟨h, hj⟩
  · rw [Heap.get_set'] at h
    split at h
    · cases h
    · rename_i hj; exact ⟨h, hj⟩
  · rename_i h1 h2
    refine ⟨h, ?_⟩
    cases s <;> first | exact id | (exfalso; exact h1 _ _ _ _ rfl) | (exfalso; exact h2 _ _ rfl)

theorem row_cells {H : Heap U} {k : Nat} {t : U.T} {xs : List (U.den t)} (hb : H.get k = some (.row t xs)) {e : En} (hh : HeapRel e H.get) {b ob : Nat} (hm : e.m k = some (.at b ob)) :
    ∃ (arr : Array Value) (el : TypeId) (fz : Nat × Nat), e.w.heap[b]? = some (.cells arr el fz) ∧ ob + xs.length * (U.shape t).length ≤ arr.size ∧ unfrozen fz ob arr.size ∧ ElsAt e arr ob (U.shape t).length (xs.map (enc t)) := by
  obtain ⟨_, h2⟩ := hh k _ hb
  rcases h2 with ⟨hv, _⟩ | ⟨b', ob', arr, el, fz, h3, h4, h5, h6, h7⟩
  · rw [hm] at hv; cases hv
  rw [hm] at h3; cases h3
  refine ⟨arr, el, fz, h4, h5, h6, fun i y hy => ?_⟩
  rw [List.getElem?_map, Option.map_eq_some_iff] at hy
  obtain ⟨x, hx, rfl⟩ := hy
  exact ⟨enc_length t x, okCells_enc t x, h7 i x hx⟩

theorem urow_cells {H : Heap U} {k sz : Nat} {es : List (List (AV U))} (hb : H.get k = some (.urow sz es)) {e : En} (hh : HeapRel e H.get) {b ob : Nat} (hm : e.m k = some (.at b ob)) :
    ∃ (arr : Array Value) (el : TypeId) (fz : Nat × Nat), e.w.heap[b]? = some (.cells arr el fz) ∧ ob + es.length * sz ≤ arr.size ∧ unfrozen fz ob arr.size ∧ ElsAt e arr ob sz es := by
  obtain ⟨_, h2⟩ := hh k _ hb
  rcases h2 with ⟨hv, _⟩ | ⟨b', ob', arr, el, fz, h3, h4, h5, h6, h7⟩
  · rw [hm] at hv; cases hv
  rw [hm] at h3; cases h3
  exact ⟨arr, el, fz, h4, h5, h6, h7⟩

theorem els_part {e : En} {arr : Array Value} {ob sz lo len : Nat} {es : List (List (AV U))} (h : ElsAt e arr ob sz es) : ElsAt e arr (ob + lo * sz) sz ((es.drop lo).take len) := by
  intro i y hy
  rw [List.getElem?_take] at hy
  split at hy
  · rw [List.getElem?_drop] at hy
    have := h _ y hy
    rw [show ob + lo * sz + i * sz = ob + (lo + i) * sz by rw [Nat.add_mul]; omega]
    exact this
  · cases hy

theorem live_arr {w : World} {b : Nat} {a1 a2 : Array Value} {e1 e2 : TypeId} {f1 f2 : Nat × Nat} (h1 : w.heap[b]? = some (.cells a1 e1 f1)) (h2 : w.heap[b]? = some (.cells a2 e2 f2)) : a1 = a2 := by
  rw [h1] at h2; cases h2; rfl

theorem base_ok {size : Nat} {H : Heap U} {s : AV U} {as : List (List (AV U))} (h : elemsU size H s = some as) (hs : baseOk s = true) {e : En} (hh : HeapRel e H.get) {c : Value} (hr : Rel e s c) :
    BaseOK (baseD s) e size as c := by
  unfold elemsU at h
  split at h
  · cases h; cases hr; exact .empty rfl
  · cases hs
  · cases hs
  · cases hs
  · rename_i k sz
    have key : ∀ (es : List (List (AV U))) (len : Nat), len = es.length → rowLen H k = some len → (∀ b ob, e.m k = some (.at b ob) → ∃ (arr : Array Value) (el : TypeId) (fz : Nat × Nat), e.w.heap[b]? = some (.cells arr el fz) ∧ ob + es.length * sz ≤ arr.size ∧ unfrozen fz ob arr.size ∧ ElsAt e arr ob sz es) →
        BaseOK (baseD (.mrow k sz : AV U)) e sz es c := by
      intro es len hlen hrl hcells
      rcases mrow_live hrl hh hr with ⟨a, l, hn, rfl, hm⟩ | ⟨b, ob, cap, hm, rfl, hl, arr1, el1, fz1, hb1, hfit⟩
      · exact .empty (List.length_eq_zero_iff.1 (by omega))
      · obtain ⟨arr, el, fz, hb, _, hfz, hels⟩ := hcells b ob hm
        have := live_arr hb1 hb
        subst this
        rw [hlen]
        exact .live (kk := k) (ob := ob) (arr := arr1) (el := el) (fz := fz) rfl hm hb hfit (by omega) hfz hels
    split at h
    · rename_i t xs hb
      split at h
      · rename_i hsz
        rw [Bool.and_eq_true] at hsz
        have h1 : size = sz := Nat.eq_of_beq_eq_true hsz.1
        have h2 : sz = (U.shape t).length := Nat.eq_of_beq_eq_true hsz.2
        cases h
        subst h1
        exact key _ xs.length (by simp) (by unfold rowLen; rw [hb]) (fun b ob hm => by rw [h2]; have := row_cells hb hh hm; simpa using this)
      · cases h
    · rename_i sz' es hb
      split at h
      · rename_i hsz
        rw [Bool.and_eq_true] at hsz
        have h1 : size = sz := Nat.eq_of_beq_eq_true hsz.1
        have h2 : sz = sz' := Nat.eq_of_beq_eq_true hsz.2
        subst h1; subst h2
        cases h
        exact key _ as.length rfl (by unfold rowLen; rw [hb]) (fun b ob hm => urow_cells hb hh hm)
      · cases h
    · cases h
  · rename_i k sz lo len
    have key : ∀ (es : List (List (AV U))), lo + len ≤ es.length → H.get k ≠ none → (∀ b ob, e.m k = some (.at b ob) → ∃ (arr : Array Value) (el : TypeId) (fz : Nat × Nat), e.w.heap[b]? = some (.cells arr el fz) ∧ ob + es.length * sz ≤ arr.size ∧ unfrozen fz ob arr.size ∧ ElsAt e arr ob sz es) →
        e.m k ≠ some .dead → BaseOK (baseD (.msl k sz lo len : AV U)) e sz ((es.drop lo).take len) c := by
      intro es hle _ hcells hnd
      have hlen : ((es.drop lo).take len).length = len := by simp; omega
      rcases hr.msl_inv with ⟨a, cap, hd, rfl, hl⟩ | ⟨a, l, hn, rfl, _⟩ | ⟨b, ob, cap, hm, rfl, hl, arr1, el1, fz1, hb1, hfit⟩
      · exact absurd hd hnd
      · subst hn; exact .empty (by simp)
      · obtain ⟨arr, el, fz, hb, _, hfz, hels⟩ := hcells b ob hm
        have := live_arr hb1 hb
        subst this
        have hlive := BaseOK.live (U := U) (D := baseD (AV.msl k sz lo len : AV U)) (e := e) (sz := sz) (as := (es.drop lo).take len) (kk := k) (b := b) (ob := ob) (o' := ob + lo * sz) (cap := cap) (arr := arr1) (el := el) (fz := fz) rfl hm hb
          (by rw [Nat.add_mul] at hfit; omega) (by omega) (fun j h1 h2 => hfz j (by omega) h2) (els_part hels)
        rw [hlen] at hlive
        exact hlive
    have hdead : ∀ blk, H.get k = some blk → e.m k ≠ some .dead := by
      intro blk hb hd
      have := hh k blk hb
      cases blk with
      | box cs => obtain ⟨_, _, _, _, _, h1, _⟩ := this; rw [hd] at h1; cases h1
      | row t xs => rcases this.2 with ⟨h1, _⟩ | ⟨_, _, _, _, _, h1, _⟩ <;> rw [hd] at h1 <;> cases h1
      | urow sz es => rcases this.2 with ⟨h1, _⟩ | ⟨_, _, _, _, _, h1, _⟩ <;> rw [hd] at h1 <;> cases h1
      | tm kt vt es => obtain ⟨_, _, _, _, h1, _⟩ := this; rw [hd] at h1; cases h1
    split at h
    · rename_i t xs hb
      split at h
      · rename_i hsz
        simp only [Bool.and_eq_true] at hsz
        have h1 : size = sz := Nat.eq_of_beq_eq_true hsz.1.1
        have h2 : sz = (U.shape t).length := Nat.eq_of_beq_eq_true hsz.1.2
        have h3 : lo + len ≤ xs.length := Nat.le_of_ble_eq_true hsz.2
        cases h
        subst h1
        rw [List.map_take, List.map_drop]
        exact key (xs.map (enc t)) (by simpa using h3) (by rw [hb]; simp) (fun b ob hm => by rw [h2]; have := row_cells hb hh hm; simpa using this) (hdead _ hb)
      · cases h
    · rename_i sz' es hb
      split at h
      · rename_i hsz
        simp only [Bool.and_eq_true] at hsz
        have h1 : size = sz := Nat.eq_of_beq_eq_true hsz.1.1
        have h2 : sz = sz' := Nat.eq_of_beq_eq_true hsz.1.2
        have h3 : lo + len ≤ es.length := Nat.le_of_ble_eq_true hsz.2
        subst h1; subst h2
        cases h
        exact key es h3 (by rw [hb]; simp) (fun b ob hm => urow_cells hb hh hm) (hdead _ hb)
      · cases h
    · cases h
  · cases h

theorem baseD_dom {size : Nat} {H : Heap U} {s : AV U} {as : List (List (AV U))} (h : elemsU size H s = some as) : ∀ k, baseD s k → dom H.get k := by
  intro k hk
  unfold elemsU at h
  split at h
  · cases hk
  · cases hk
  · cases hk
  · cases hk
  · have hk : k = _ := hk
    subst hk
    intro hn
    rw [hn] at h
    cases h
  · have hk : k = _ := hk
    subst hk
    intro hn
    rw [hn] at h
    cases h
  · cases h

theorem blk_row {e : En} {k : Nat} {t : U.T} {xs : List (U.den t)} (h : RowAt e k (U.shape t).length (xs.map (enc t))) : BlkOK e k (.row t xs) := by
  refine ⟨by simpa using h.1, ?_⟩
  rcases h.2 with ⟨h1, h2⟩ | ⟨b, ob, arr, el, fz, h1, h2, h3, h4, h5⟩
  · exact .inl ⟨h1, by simpa using h2⟩
  · refine .inr ⟨b, ob, arr, el, fz, h1, h2, by simpa using h3, h4, fun i x hx => ?_⟩
    exact (h5 i (enc t x) (by simp [hx])).2.2

theorem blk_urow {e : En} {k sz : Nat} {es : List (List (AV U))} (h : RowAt e k sz es) : BlkOK e k (.urow sz es) := h

theorem appendK_sound (hti : TIs P G) {el : TypeId} {s x : AV U} {H : Heap U} {k : AV U → Heap U → Option R} {r : R} (h : appendK G el s x H k = some r) :
    ∃ (v : AV U) (H' : Heap U), k v H' = some r ∧ H'.length = H.length + 1 ∧ (∃ j, G.ti el = some j ∧ v = .mrow H.length j.size) ∧ ∀ (e : En) (c cx : Value) (t tx ty : TypeId) (dx : TypeDesc), WF e → Rel e s c → Rel e x cx → HeapRel e H.get → e.m H.length = none →
      P.underlying t = some (.slice el) → P.underlying tx = some dx → (∀ k, dx ≠ .int k) →
      ∃ (c' : Value) (e' : En), (Builtin.append_ #[t, tx] ty #[c, cx]).run P e.w = .ok c' e'.w ∧ WF e' ∧ Evo (dom H.get) e e' ∧ Rel e' v c' ∧ HeapRel e' H'.get ∧
        (∀ k, e.m k = none → e'.m k ≠ none → k = H.length) ∧ LiesAs e e' H.length el c := by
  unfold appendK at h
  split at h
  · cases h
  rename_i j hj
  have hJ := hti el j hj
  split at h
  case h_2 => cases h
  rename_i hsb hbase
  rw [Bool.or_eq_false_iff] at hsb
  have h0s : 0 < j.size := by
    rcases Nat.eq_zero_or_pos j.size with hh | hh
    · rw [hh] at hsb; cases hsb.1
    · exact hh
  have h0b : j.bytes ≠ 0 := fun hh => by rw [hh] at hsb; cases hsb.2
  have key : ∀ (as bs : List (List (AV U))) (blk : Blk U), elemsU j.size H s = some as → elemsU j.size H x = some bs → roomy (as.length + bs.length) j.bytes = true →
      (∀ (e : En) (k : Nat), RowAt e k j.size (as ++ bs) → BlkOK e k blk) →
      ∀ (e : En) (c cx : Value) (t tx ty : TypeId) (dx : TypeDesc), WF e → Rel e s c → Rel e x cx → HeapRel e H.get → e.m H.length = none →
      P.underlying t = some (.slice el) → P.underlying tx = some dx → (∀ k, dx ≠ .int k) →
      ∃ (c' : Value) (e' : En), (Builtin.append_ #[t, tx] ty #[c, cx]).run P e.w = .ok c' e'.w ∧ WF e' ∧ Evo (dom H.get) e e' ∧ Rel (U := U) e' (.mrow H.length j.size) c' ∧ HeapRel e' (Heap.get (baseKill s H ++ [some blk])) ∧
        (∀ k, e.m k = none → e'.m k ≠ none → k = H.length) ∧ LiesAs e e' H.length el c := by
    intro as bs blk ha hb hroom hblk e c cx t tx ty dx hw hs hx hh hN ht htx hdx
    obtain ⟨ea1, ea2⟩ := elemsU_elems (P := P) ha h0s hh hs
    obtain ⟨eb1, eb2⟩ := elemsU_elems (P := P) hb h0s hh hx
    obtain ⟨c', e', g1, g2, g3, g4, g5, g6⟩ := append_core (ty := ty) hw hJ rfl h0b ht htx hdx ea1 (base_ok ha hbase hh hs) eb1 eb2 ea2 hroom hN
    refine ⟨c', e', g1, g2, g3.weaken (baseD_dom ha), g4, fun q b hq => ?_, g6⟩
    rw [Heap.get_snoc, baseKill_length] at hq
    split at hq
    · rename_i hqq; subst hqq; cases hq; exact hblk e' _ g5
    · obtain ⟨q1, q2⟩ := baseKill_get hq
      exact (hh q b q1).mono g3 hw q2
  split at h
  · rename_i t hty
    split at h
    · rename_i hsz
      have hsz : j.size = (U.shape t).length := Nat.eq_of_beq_eq_true hsz
      split at h
      · rename_i a b ha hb
        obtain ⟨hroom, h⟩ := chk_inv h
        have ha' := elemsT_U ha
        have hb' := elemsT_U hb
        rw [← hsz] at ha' hb'
        refine ⟨_, _, h, by simp [baseKill_length], ⟨j, hj, rfl⟩, key _ _ _ ha' hb' (by simpa using hroom) (fun e k hrow => blk_row ?_)⟩
        rw [← hsz, List.map_append]
        exact hrow
      · cases h
    · cases h
  · split at h
    · rename_i a b ha hb
      obtain ⟨hroom, h⟩ := chk_inv h
      exact ⟨_, _, h, by simp [baseKill_length], ⟨j, hj, rfl⟩, key _ _ _ ha hb hroom (fun e k hrow => blk_urow hrow)⟩
    · cases h

theorem isByte_size {i : Option (TI U)} (h : isByte i = true) {j : TI U} (hj : i = some j) : j.size = 1 := by
  subst hj
  unfold isByte at h
  split at h
  · rename_i heq; cases heq; rfl
  · cases h

theorem appendB_sound (hti : TIs P G) {el : TypeId} {s x : AV U} {H : Heap U} {k : AV U → Heap U → Option R} {r : R} (h : appendB G el s x H k = some r) :
    ∃ (v : AV U) (H' : Heap U), k v H' = some r ∧ H'.length = H.length + 1 ∧ ∀ (e : En) (c cx : Value) (t tx ty : TypeId) (dx : TypeDesc), WF e → Rel e s c → Rel e x cx → HeapRel e H.get → e.m H.length = none →
      P.underlying t = some (.slice el) → P.underlying tx = some dx → (∀ k, dx ≠ .int k) →
      ∃ (c' : Value) (e' : En), (Builtin.append_ #[t, tx] ty #[c, cx]).run P e.w = .ok c' e'.w ∧ WF e' ∧ Evo (dom H.get) e e' ∧ Rel e' v c' ∧ HeapRel e' H'.get ∧
        (∀ k, e.m k = none → e'.m k ≠ none → k = H.length) := by
  have plain : appendK G el s x H k = some r → ∃ (v : AV U) (H' : Heap U), k v H' = some r ∧ H'.length = H.length + 1 ∧ ∀ (e : En) (c cx : Value) (t tx ty : TypeId) (dx : TypeDesc), WF e → Rel e s c → Rel e x cx → HeapRel e H.get → e.m H.length = none →
      P.underlying t = some (.slice el) → P.underlying tx = some dx → (∀ k, dx ≠ .int k) →
      ∃ (c' : Value) (e' : En), (Builtin.append_ #[t, tx] ty #[c, cx]).run P e.w = .ok c' e'.w ∧ WF e' ∧ Evo (dom H.get) e e' ∧ Rel e' v c' ∧ HeapRel e' H'.get ∧
        (∀ k, e.m k = none → e'.m k ≠ none → k = H.length) := by
    intro h
    obtain ⟨v, H', h1, h2, _, h3⟩ := appendK_sound hti h
    refine ⟨v, H', h1, h2, fun e c cx t tx ty dx a1 a2 a3 a4 a5 a6 a7 a8 => ?_⟩
    obtain ⟨c', e', g1, g2, g3, g4, g5, g6, _⟩ := h3 e c cx t tx ty dx a1 a2 a3 a4 a5 a6 a7 a8
    exact ⟨c', e', g1, g2, g3, g4, g5, g6⟩
  unfold appendB at h
  split at h
  · exact plain h
  rename_i hby
  split at h
  · obtain ⟨v, H', h1, h2, ⟨j, hj, rfl⟩, h3⟩ := appendK_sound hti h
    have hs1 := isByte_size hby hj
    refine ⟨_, H', h1, h2, fun e c cx t tx ty dx a1 a2 a3 a4 a5 a6 a7 a8 => ?_⟩
    obtain ⟨c', e', g1, g2, g3, g4, g5, g6, g7⟩ := h3 e c cx t tx ty dx a1 a2 a3 a4 a5 a6 a7 a8
    refine ⟨c', e', g1, g2, g3, ?_, g5, g6⟩
    rw [hs1] at g4
    refine .brow g4 fun b o hm => ?_
    rcases g7 b o hm with g8 | ⟨l, cap, _, _, _, _, _, hc, _⟩
    · exact g8
    · cases a2; cases hc
  · rename_i kk el' 
    split at h
    case h_2 => cases h
    rename_i hel
    have hel : el' = el := Nat.eq_of_beq_eq_true hel
    subst hel
    split at h
    case h_2 => cases h
    rename_i n hrl
    obtain ⟨v, H', h1, h2, ⟨j, hj, rfl⟩, h3⟩ := appendK_sound hti h
    have hs1 := isByte_size hby hj
    refine ⟨_, H', h1, h2, fun e c cx t tx ty dx a1 a2 a3 a4 a5 a6 a7 a8 => ?_⟩
    cases a2 with
    | brow b1 b2 =>
      obtain ⟨c', e', g1, g2, g3, g4, g5, g6, g7⟩ := h3 e c cx t tx ty dx a1 b1 a3 a4 a5 a6 a7 a8
      refine ⟨c', e', g1, g2, g3, ?_, g5, g6⟩
      rw [hs1] at g4
      refine .brow g4 fun b o hm => ?_
      rcases g7 b o hm with g8 | ⟨l, cap, arr, arr', el2, fz, fz', hc, hb1, hb2⟩
      · exact g8
      · rcases mrow_live hrl a4 b1 with ⟨_, _, hn, _⟩ | ⟨b', ob', cap', hm', hc', _⟩
        · omega
        · rw [hc] at hc'
          cases hc'
          obtain ⟨q1, arr2, fz2, q2⟩ := b2 _ _ hm'
          rw [hb1] at q2
          cases q2
          exact ⟨q1, arr', fz', hb2⟩
  · exact plain h

end Am
