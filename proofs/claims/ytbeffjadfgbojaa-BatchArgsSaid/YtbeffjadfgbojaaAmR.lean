/- The relation between abstract values and the model's, and how it is kept. -/
import Derived.Test.YtbeffjadfgbojaaAmX
import Derived.Calls
namespace Am
open Go
variable {U : TyU}

inductive Loc where
  | at (b o : Nat)
  | virt
  | dead

structure En where
  w : World
  m : Nat → Option Loc
  n : Nat → Nat
  I : Nat → Prop

/-- a block that nothing here may change -/
def Quiet (e : En) (b : Nat) : Prop := b < e.w.heap.size ∧ ∀ k o, e.m k ≠ some (.at b o)

inductive Rel (e : En) : AV U → Value → Prop where
  | junk {v : Value} : Rel e .junk v
  | bool {b : Bool} : Rel e (.bool b) (.bool b)
  | int {k : IntKind} {n : Int} : Rel e (.int k n) (.int k n)
  | str {s : List UInt8} : Rel e (.str s) (.string ⟨⟨s⟩⟩)
  | nilp : Rel e .nilp (.pointer none)
  | ptrDead {k sz i o : Nat} {a : Addr} : e.m k = some .dead → Rel e (.ptr k sz i o) (.pointer (some a))
  | ptr {k sz i o b ob : Nat} : e.m k = some (.at b ob) → Rel e (.ptr k sz i o) (.pointer (some ⟨b, ob + i * sz + o, none⟩))
  | fptr {cs : List (AV U)} {o b ob : Nat} {vals : Nat → Value} : e.I b →
      (∀ (j : Nat) (c : AV U), cs[j]? = some c → e.w.cell? ⟨b, ob + j, none⟩ = some (vals j)) → (∀ (j : Nat) (c : AV U), cs[j]? = some c → Rel e c (vals j)) →
      Rel e (.fptr cs o) (.pointer (some ⟨b, ob + o, none⟩))
  | nilsl : Rel e .nilsl (.slice none 0 0)
  | fslE {t : U.T} {a : Option Addr} {cap : Nat} : (a = none → cap = 0) → Rel e (.fsl t []) (.slice a 0 cap)
  | fsl {t : U.T} {xs : List (U.den t)} {b ob cap : Nat} {vals : Nat → Nat → Value} : e.I b → xs.length ≤ cap →
      (∀ (i : Nat) (x : U.den t), xs[i]? = some x → ∀ (j : Nat) (c : AV U), (enc t x)[j]? = some c → e.w.cell? ⟨b, ob + i * (U.shape t).length + j, none⟩ = some (vals i j)) →
      (∀ (i : Nat) (x : U.den t), xs[i]? = some x → ∀ (j : Nat) (c : AV U), (enc t x)[j]? = some c → Rel e c (vals i j)) →
      Rel e (.fsl t xs) (.slice (some ⟨b, ob, none⟩) xs.length cap)
  | bptr {cs : List (AV U)} {o b ob : Nat} {vals : Nat → Value} : Quiet e b →
      (∀ (j : Nat) (c : AV U), cs[j]? = some c → e.w.cell? ⟨b, ob + j, none⟩ = some (vals j)) → (∀ (j : Nat) (c : AV U), cs[j]? = some c → Rel e c (vals j)) →
      Rel e (.bptr cs o) (.pointer (some ⟨b, ob + o, none⟩))
  | bslE {t : U.T} {a : Option Addr} {cap : Nat} : Rel e (.bsl t []) (.slice a 0 cap)
  | bsl {t : U.T} {xs : List (U.den t)} {b ob cap : Nat} {vals : Nat → Nat → Value} : Quiet e b → xs.length ≤ cap →
      (∀ (i : Nat) (x : U.den t), xs[i]? = some x → ∀ (j : Nat) (c : AV U), (enc t x)[j]? = some c → e.w.cell? ⟨b, ob + i * (U.shape t).length + j, none⟩ = some (vals i j)) →
      (∀ (i : Nat) (x : U.den t), xs[i]? = some x → ∀ (j : Nat) (c : AV U), (enc t x)[j]? = some c → Rel e c (vals i j)) →
      Rel e (.bsl t xs) (.slice (some ⟨b, ob, none⟩) xs.length cap)
  | nsl {t : U.T} {xs : List (U.den t)} {a : Addr} {n cap : Nat} : Rel e (.fsl t xs) (.slice (some a) n cap) → Rel e (.nsl t xs) (.slice (some a) n cap)
  | mrowDead {k sz l c : Nat} {a : Option Addr} : e.m k = some .dead → Rel e (.mrow k sz) (.slice a l c)
  | mrowE {k sz : Nat} {a : Option Addr} {l : Loc} : e.m k = some l → e.n k = 0 → Rel e (.mrow k sz) (.slice a 0 0)
  | mrow {k sz cap b ob : Nat} : e.m k = some (.at b ob) → e.n k ≤ cap →
      (∃ (arr : Array Value) (el : TypeId) (fz : Nat × Nat), e.w.heap[b]? = some (.cells arr el fz) ∧ ob + cap * sz ≤ arr.size) →
      Rel e (.mrow k sz) (.slice (some ⟨b, ob, none⟩) (e.n k) cap)
  | mslDead {k sz lo len cap : Nat} {a : Addr} : e.m k = some .dead → len ≤ cap → Rel e (.msl k sz lo len) (.slice (some a) len cap)
  | mslE {k sz lo : Nat} {a : Option Addr} {l : Loc} : e.m k = some l → Rel e (.msl k sz lo 0) (.slice a 0 0)
  | msl {k sz lo len cap b ob : Nat} : e.m k = some (.at b ob) → len ≤ cap →
      (∃ (arr : Array Value) (el : TypeId) (fz : Nat × Nat), e.w.heap[b]? = some (.cells arr el fz) ∧ ob + (lo + cap) * sz ≤ arr.size) →
      Rel e (.msl k sz lo len) (.slice (some ⟨b, ob + lo * sz, none⟩) len cap)
  | nilmap : Rel e .nilmap (.map none)
  | mapDead {k r : Nat} : e.m k = some .dead → Rel e (.map k) (.map (some r))
  | map {k b ob : Nat} : e.m k = some (.at b ob) → Rel e (.map k) (.map (some b))
  | fn {f : Fn} {a b : List (AV U)} {va vb : Array Value} : a.length = va.size → b.length = vb.size →
      (∀ (j : Nat) (x : AV U) (v : Value), a[j]? = some x → va[j]? = some v → Rel e x v) → (∀ (j : Nat) (x : AV U) (v : Value), b[j]? = some x → vb[j]? = some v → Rel e x v) →
      Rel e (.fn f a b) (.func f va vb)
  | nilfn : Rel e .nilfn .nilFunc
  | iface {t : TypeId} {x : AV U} {v : Value} : Rel e x v → Rel e (.iface t x) (.iface t v)
  | nilif : Rel e .nilif .nilIface
  | agg {cs : List (AV U)} {va : Array Value} : cs.length = va.size → (∀ (j : Nat) (x : AV U) (v : Value), cs[j]? = some x → va[j]? = some v → Rel e x v) → Rel e (.agg cs) (.agg va)
  | tup {cs : List (AV U)} {va : Array Value} : cs.length = va.size → (∀ (j : Nat) (x : AV U) (v : Value), cs[j]? = some x → va[j]? = some v → Rel e x v) → Rel e (.tup cs) (.tuple va)

/-- lists, cell by cell -/
def RelL (e : En) (cs : List (AV U)) (va : List Value) : Prop := cs.length = va.length ∧ ∀ (j : Nat) (x : AV U) (v : Value), cs[j]? = some x → va[j]? = some v → Rel e x v

structure WF (e : En) : Prop where
  iLt : ∀ b, e.I b → b < e.w.heap.size
  mLt : ∀ k b o, e.m k = some (.at b o) → b < e.w.heap.size
  mI : ∀ k b o, e.m k = some (.at b o) → ¬ e.I b
  inj : ∀ k k' b o o', e.m k = some (.at b o) → e.m k' = some (.at b o') → k = k'

def unfrozen (fz : Nat × Nat) (lo hi : Nat) : Prop := ∀ j, lo ≤ j → j < hi → ¬ (fz.1 ≤ j ∧ j < fz.2)

/-- the cells from 'ob' on are those -/
def CellsAt (e : En) (arr : Array Value) (ob : Nat) (cs : List (AV U)) : Prop := ∀ (j : Nat) (c : AV U), cs[j]? = some c → ∃ v, arr[ob + j]? = some v ∧ Rel e c v

def BlkOK (e : En) (k : Nat) : Blk U → Prop
  | .box cs => ∃ (b ob : Nat) (arr : Array Value) (el : TypeId) (fz : Nat × Nat), e.m k = some (.at b ob) ∧ e.w.heap[b]? = some (.cells arr el fz) ∧ ob + cs.length ≤ arr.size ∧ unfrozen fz ob arr.size ∧ CellsAt e arr ob cs
  | .row t xs => e.n k = xs.length ∧ ((e.m k = some .virt ∧ xs = []) ∨ ∃ (b ob : Nat) (arr : Array Value) (el : TypeId) (fz : Nat × Nat), e.m k = some (.at b ob) ∧ e.w.heap[b]? = some (.cells arr el fz) ∧
      ob + xs.length * (U.shape t).length ≤ arr.size ∧ unfrozen fz ob arr.size ∧ ∀ (i : Nat) (x : U.den t), xs[i]? = some x → CellsAt e arr (ob + i * (U.shape t).length) (enc t x))
  | .urow sz es => e.n k = es.length ∧ ((e.m k = some .virt ∧ es = []) ∨ ∃ (b ob : Nat) (arr : Array Value) (el : TypeId) (fz : Nat × Nat), e.m k = some (.at b ob) ∧ e.w.heap[b]? = some (.cells arr el fz) ∧
      ob + es.length * sz ≤ arr.size ∧ unfrozen fz ob arr.size ∧ (∀ (i : Nat) (x : List (AV U)), es[i]? = some x → x.length = sz ∧ okCells x = true ∧ CellsAt e arr (ob + i * sz) x))
  | .tm kt vt es => ∃ (b ob : Nat) (ents : Array MapEntry) (clock : Nat), e.m k = some (.at b ob) ∧ e.w.heap[b]? = some (.map ents clock) ∧ ents.size = es.length ∧
      ∀ (i : Nat) (p : U.den kt × U.den vt), es[i]? = some p → ∃ en : MapEntry, ents[i]? = some en ∧ Rel e (encV kt p.1) en.key ∧ Rel e (encV vt p.2) en.val

def HeapRel (e : En) (H : Nat → Option (Blk U)) : Prop := ∀ k b, H k = some b → BlkOK e k b

def dom (H : Nat → Option (Blk U)) : Nat → Prop := fun k => H k ≠ none

/-- nothing is put out, and the machine's surroundings stay -/
def sameIO (w w' : World) : Prop := w'.os = w.os ∧ w'.output = w.output

theorem sameIO.trans {w w1 w2 : World} (h : sameIO w w1) (h' : sameIO w1 w2) : sameIO w w2 := ⟨h'.1.trans h.1, h'.2.trans h.2⟩

def PushW (w w' : World) (o : Obj) : Prop := w'.heap = w.heap.push o ∧ sameIO w w'

structure Evo (D : Nat → Prop) (e e' : En) : Prop where
  size : e.w.heap.size ≤ e'.w.heap.size
  keep : ∀ b, b < e.w.heap.size → (∀ k o, D k → e.m k ≠ some (.at b o)) → e'.w.heap[b]? = e.w.heap[b]?
  shape : ∀ (b : Nat) (arr : Array Value) (el : TypeId) (fz : Nat × Nat), e.w.heap[b]? = some (.cells arr el fz) → ∃ arr' : Array Value, e'.w.heap[b]? = some (.cells arr' el fz) ∧ arr'.size = arr.size
  old : ∀ k l, e.m k = some l → e'.m k = some l ∨ (D k ∧ e'.m k = some .dead)
  len : ∀ k l, e.m k = some l → e'.n k = e.n k
  new : ∀ k b o, e'.m k = some (.at b o) → e.m k = some (.at b o) ∨ e.w.heap.size ≤ b ∨ ∃ k2 o2, D k2 ∧ e.m k2 = some (.at b o2)
  iOld : ∀ b, e.I b → e'.I b
  iNew : ∀ b, e'.I b → e.I b ∨ e.w.heap.size ≤ b ∨ ∃ k2 o2, D k2 ∧ e.m k2 = some (.at b o2)
  io : sameIO e.w e'.w

def allD : Nat → Prop := fun _ => True

theorem Evo.refl (D : Nat → Prop) (e : En) : Evo D e e :=
  ⟨Nat.le_refl _, fun _ _ _ => rfl, fun _ arr _ _ h => ⟨arr, h, rfl⟩, fun _ _ h => .inl h, fun _ _ _ => rfl, fun _ _ _ h => .inl h, fun _ h => h, fun _ h => .inl h, ⟨rfl, rfl⟩⟩

theorem Evo.weaken {D D' : Nat → Prop} {e e' : En} (h : Evo D e e') (hd : ∀ k, D k → D' k) : Evo D' e e' :=
  ⟨h.size, fun b hb hk => h.keep b hb fun k o hD => hk k o (hd k hD), h.shape, fun k l hl => (h.old k l hl).imp id fun ⟨a, b⟩ => ⟨hd k a, b⟩, h.len,
    fun k b o hh => (h.new k b o hh).imp id (Or.imp id fun ⟨k2, o2, a, b⟩ => ⟨k2, o2, hd _ a, b⟩), h.iOld,
    fun b hh => (h.iNew b hh).imp id (Or.imp id fun ⟨k2, o2, a, b⟩ => ⟨k2, o2, hd _ a, b⟩), h.io⟩

theorem Evo.all {D : Nat → Prop} {e e' : En} (h : Evo D e e') : Evo allD e e' := h.weaken fun _ _ => trivial

theorem Evo.trans {e e1 e2 : En} (h : Evo allD e e1) (h' : Evo allD e1 e2) : Evo allD e e2 where
  size := Nat.le_trans h.size h'.size
  keep b hb hk := by
    rw [h'.keep b (Nat.lt_of_lt_of_le hb h.size) ?_, h.keep b hb hk]
    intro k o _ hm
    rcases h.new k b o hm with h1 | h1 | ⟨k2, o2, _, h1⟩
    · exact hk k o trivial h1
    · omega
    · exact hk k2 o2 trivial h1
  shape b arr el fz hh := by
    obtain ⟨a1, h1, s1⟩ := h.shape b arr el fz hh
    obtain ⟨a2, h2, s2⟩ := h'.shape b a1 el fz h1
    exact ⟨a2, h2, s2.trans s1⟩
  old k l hl := by
    rcases h.old k l hl with h1 | ⟨_, h1⟩
    · exact h'.old k l h1
    · rcases h'.old k _ h1 with h2 | h2
      · exact .inr ⟨trivial, h2⟩
      · exact .inr h2
  len k l hl := by
    rcases h.old k l hl with h1 | ⟨_, h1⟩ <;> rw [h'.len k _ h1, h.len k l hl]
  new k b o hm := by
    rcases h'.new k b o hm with h1 | h1 | ⟨k2, o2, _, h1⟩
    · exact h.new k b o h1
    · exact .inr (.inl (Nat.le_trans h.size h1))
    · rcases h.new k2 b o2 h1 with h2 | h2 | h2
      · exact .inr (.inr ⟨k2, o2, trivial, h2⟩)
      · exact .inr (.inl h2)
      · exact .inr (.inr h2)
  iOld b hb := h'.iOld b (h.iOld b hb)
  iNew b hb := by
    rcases h'.iNew b hb with h1 | h1 | ⟨k2, o2, _, h1⟩
    · exact h.iNew b h1
    · exact .inr (.inl (Nat.le_trans h.size h1))
    · rcases h.new k2 b o2 h1 with h2 | h2 | h2
      · exact .inr (.inr ⟨k2, o2, trivial, h2⟩)
      · exact .inr (.inl h2)
      · exact .inr (.inr h2)
  io := h.io.trans h'.io

theorem Evo.heap_I {D : Nat → Prop} {e e' : En} (h : Evo D e e') (hw : WF e) {b : Nat} (hb : e.I b) : e'.w.heap[b]? = e.w.heap[b]? :=
  h.keep b (hw.iLt b hb) fun k o _ hm => hw.mI k b o hm hb

theorem cell_eq (w : World) (b o : Nat) : w.cell? ⟨b, o, none⟩ = match w.heap[b]? with | some (.cells c _ _) => c[o]? | _ => none := by
  unfold World.cell?
  cases w.heap[b]? with
  | none => rfl
  | some x => cases x <;> rfl

theorem cell_of_heap {w w' : World} {b o : Nat} (h : w'.heap[b]? = w.heap[b]?) : w'.cell? ⟨b, o, none⟩ = w.cell? ⟨b, o, none⟩ := by
  rw [cell_eq, cell_eq, h]

theorem Evo.quiet {D : Nat → Prop} {e e' : En} (h : Evo D e e') {b : Nat} (hb : Quiet e b) : Quiet e' b ∧ e'.w.heap[b]? = e.w.heap[b]? := by
  refine ⟨⟨Nat.lt_of_lt_of_le hb.1 h.size, fun k o hm => ?_⟩, h.keep b hb.1 fun k o _ hm => hb.2 k o hm⟩
  rcases h.new k b o hm with h1 | h1 | ⟨k2, o2, _, h1⟩
  · exact hb.2 k o h1
  · have := hb.1; omega
  · exact hb.2 k2 o2 h1

theorem Rel.mono {D : Nat → Prop} {e e' : En} (h : Evo D e e') (hw : WF e) {v : AV U} {c : Value} (hr : Rel e v c) : Rel e' v c := by
  induction hr with
  | junk => exact .junk
  | bool => exact .bool
  | int => exact .int
  | str => exact .str
  | nilp => exact .nilp
  | ptrDead hm => rcases h.old _ _ hm with h1 | ⟨_, h1⟩ <;> exact .ptrDead h1
  | ptr hm =>
    rcases h.old _ _ hm with h1 | ⟨_, h1⟩
    · exact .ptr h1
    · exact .ptrDead h1
  | fptr hI hc _ ih => exact .fptr (h.iOld _ hI) (fun j c hj => by rw [cell_of_heap (h.heap_I hw hI)]; exact hc j c hj) ih
  | nilsl => exact .nilsl
  | fslE ha => exact .fslE ha
  | fsl hI hl hc _ ih => exact .fsl (h.iOld _ hI) hl (fun i x hx j c hj => by rw [cell_of_heap (h.heap_I hw hI)]; exact hc i x hx j c hj) ih
  | bptr hI hc _ ih => exact .bptr (h.quiet hI).1 (fun j c hj => by rw [cell_of_heap (h.quiet hI).2]; exact hc j c hj) ih
  | bslE => exact .bslE
  | bsl hI hl hc _ ih => exact .bsl (h.quiet hI).1 hl (fun i x hx j c hj => by rw [cell_of_heap (h.quiet hI).2]; exact hc i x hx j c hj) ih
  | nsl _ ih => exact .nsl ih
  | mrowDead hm => rcases h.old _ _ hm with h1 | ⟨_, h1⟩ <;> exact .mrowDead h1
  | mrowE hm hn =>
    have hl := h.len _ _ hm
    rcases h.old _ _ hm with h1 | ⟨_, h1⟩ <;> exact .mrowE h1 (by rw [hl]; exact hn)
  | mrow hm hl hr =>
    have hlen := h.len _ _ hm
    rcases h.old _ _ hm with h1 | ⟨_, h1⟩
    · obtain ⟨arr, el, fz, ha, hs⟩ := hr
      obtain ⟨arr', ha', hs'⟩ := h.shape _ _ _ _ ha
      rw [← hlen]
      exact .mrow h1 (by rw [hlen]; exact hl) ⟨arr', el, fz, ha', by omega⟩
    · exact .mrowDead h1
  | mslDead hm hl => rcases h.old _ _ hm with h1 | ⟨_, h1⟩ <;> exact .mslDead h1 hl
  | mslE hm => rcases h.old _ _ hm with h1 | ⟨_, h1⟩ <;> exact .mslE h1
  | msl hm hl hr =>
    rcases h.old _ _ hm with h1 | ⟨_, h1⟩
    · obtain ⟨arr, el, fz, ha, hs⟩ := hr
      obtain ⟨arr', ha', hs'⟩ := h.shape _ _ _ _ ha
      exact .msl h1 hl ⟨arr', el, fz, ha', by omega⟩
    · exact .mslDead h1 hl
  | nilmap => exact .nilmap
  | mapDead hm => rcases h.old _ _ hm with h1 | ⟨_, h1⟩ <;> exact .mapDead h1
  | map hm =>
    rcases h.old _ _ hm with h1 | ⟨_, h1⟩
    · exact .map h1
    · exact .mapDead h1
  | fn ha hb _ _ iha ihb => exact .fn ha hb iha ihb
  | nilfn => exact .nilfn
  | iface _ ih => exact .iface ih
  | nilif => exact .nilif
  | agg hl _ ih => exact .agg hl ih
  | tup hl _ ih => exact .tup hl ih

theorem RelL.mono {D : Nat → Prop} {e e' : En} (h : Evo D e e') (hw : WF e) {cs : List (AV U)} {va : List Value} (hr : RelL e cs va) : RelL e' cs va :=
  ⟨hr.1, fun j x v hx hv => (hr.2 j x v hx hv).mono h hw⟩

theorem CellsAt.mono {D : Nat → Prop} {e e' : En} (h : Evo D e e') (hw : WF e) {arr : Array Value} {ob : Nat} {cs : List (AV U)} (hr : CellsAt e arr ob cs) : CellsAt e' arr ob cs :=
  fun j c hj => let ⟨v, hv, r⟩ := hr j c hj; ⟨v, hv, r.mono h hw⟩

/-- a block that no operation may touch stays as it is -/
theorem BlkOK.mono {D : Nat → Prop} {e e' : En} (h : Evo D e e') (hw : WF e) {k : Nat} {b : Blk U} (hk : ¬ D k) (hb : BlkOK e k b) : BlkOK e' k b := by
  have hm : ∀ l, e.m k = some l → e'.m k = some l := fun l hl => (h.old k l hl).resolve_right fun hh => hk hh.1
  have hheap : ∀ b o, e.m k = some (.at b o) → e'.w.heap[b]? = e.w.heap[b]? := fun b o hl => h.keep b (hw.mLt k b o hl) fun k' o' hD hm' => by
    rw [hw.inj k k' b o o' hl hm'] at hk; exact hk hD
  cases b with
  | box cs =>
    obtain ⟨b, ob, arr, el, fz, h1, h2, h3, h4, h5⟩ := hb
    exact ⟨b, ob, arr, el, fz, hm _ h1, by rw [hheap _ _ h1]; exact h2, h3, h4, h5.mono h hw⟩
  | row t xs =>
    obtain ⟨hn, hb⟩ := hb
    rcases hb with ⟨h1, h2⟩ | ⟨b, ob, arr, el, fz, h1, h2, h3, h4, h5⟩
    · exact ⟨by rw [h.len _ _ h1]; exact hn, .inl ⟨hm _ h1, h2⟩⟩
    · exact ⟨by rw [h.len _ _ h1]; exact hn, .inr ⟨b, ob, arr, el, fz, hm _ h1, by rw [hheap _ _ h1]; exact h2, h3, h4, fun i x hx => (h5 i x hx).mono h hw⟩⟩
  | urow sz es =>
    obtain ⟨hn, hb⟩ := hb
    rcases hb with ⟨h1, h2⟩ | ⟨b, ob, arr, el, fz, h1, h2, h3, h4, h5⟩
    · exact ⟨by rw [h.len _ _ h1]; exact hn, .inl ⟨hm _ h1, h2⟩⟩
    · exact ⟨by rw [h.len _ _ h1]; exact hn, .inr ⟨b, ob, arr, el, fz, hm _ h1, by rw [hheap _ _ h1]; exact h2, h3, h4, fun i x hx => ⟨(h5 i x hx).1, (h5 i x hx).2.1, (h5 i x hx).2.2.mono h hw⟩⟩⟩
  | tm kt vt es =>
    obtain ⟨b, ob, ents, clock, h1, h2, h3, h4⟩ := hb
    exact ⟨b, ob, ents, clock, hm _ h1, by rw [hheap _ _ h1]; exact h2, h3, fun i p hp => let ⟨en, a, r1, r2⟩ := h4 i p hp; ⟨en, a, r1.mono h hw, r2.mono h hw⟩⟩

/-! ## The frame -/
def FrRel (e : En) (fr : List (AV U)) (tmps : Array Value) : Prop := RelL e fr tmps.toList

structure StRel (e : En) (st : St U) (a : Act) : Prop where
  fr : FrRel e st.fr a.tmps
  heap : HeapRel e st.H.get
  wf : WF e
  fresh : ∀ k, st.H.length ≤ k → e.m k = none
  defers : a.defers = []

theorem rel_ofVal (e : En) (v : Value) : Rel (U := U) e (ofVal v) v := by
  cases v with
  | bool b => exact .bool
  | int k n => exact .int
  | string s => exact .str
  | pointer a => cases a <;> first | exact .nilp | exact .junk
  | slice a l c =>
    unfold ofVal
    split <;> first | exact .junk | skip
    all_goals first | (rename_i h; cases h; done) | skip
    all_goals simp_all
    all_goals first | exact .nilsl | exact .junk
  | map r => cases r <;> first | exact .nilmap | exact .junk
  | nilFunc => exact .nilfn
  | nilIface => exact .nilif
  | _ => exact .junk

theorem FrRel.ev {e : En} {fr : List (AV U)} {a : Act} (h : FrRel e fr a.tmps) (x : Operand) : Rel e (ev fr x) (a.eval x) := by
  cases x with
  | tmp t =>
    simp only [Am.ev, Act.eval, List.getD_eq_getElem?_getD, Array.getD_eq_getD_getElem?]
    cases h1 : fr[t]? with
    | none => exact .junk
    | some v =>
      have hl : t < fr.length := (List.getElem?_eq_some_iff.1 h1).1
      have h2 : t < a.tmps.size := by rw [h.1] at hl; simpa using hl
      have h3 : a.tmps[t]? = some a.tmps[t] := by simp [h2]
      rw [h3]
      exact h.2 t v _ h1 (by simp [h2])
  | const v => exact rel_ofVal e v
  | func f => exact .fn rfl rfl (by simp) (by simp)
  | global g => exact .junk

theorem FrRel.put {e : En} {fr : List (AV U)} {a : Act} (h : FrRel e fr a.tmps) {v : AV U} {c : Value} (hv : Rel e v c) (d : Option Tmp) : FrRel e (put fr d v) (a.put d c).tmps := by
  cases d with
  | none => exact h
  | some d =>
    refine ⟨by simpa [Am.put, Act.put] using h.1, fun j x u hx hu => ?_⟩
    simp only [Am.put, Act.put, Array.toList_setIfInBounds] at hx hu
    by_cases hj : d = j
    · subst hj
      rw [List.getElem?_set] at hx hu
      simp only [if_true] at hx hu
      split at hx <;> simp at hx
      split at hu <;> simp at hu
      subst hx; subst hu; exact hv
    · rw [List.getElem?_set_ne hj] at hx hu
      exact h.2 j x u hx hu

theorem FrRel.mono {D : Nat → Prop} {e e' : En} (h : Evo D e e') (hw : WF e) {fr : List (AV U)} {t : Array Value} (hr : FrRel e fr t) : FrRel e' fr t := RelL.mono h hw hr

theorem put_defers (a : Act) (d : Option Tmp) (v : Value) : (a.put d v).defers = a.defers := by cases d <;> rfl

end Am
