/- The relation between abstract values and the model's, and how it is kept. Small laws: tables of types, memory. -/
import Derived.Test.YtlogoccciaopnaaGreatDoorAmX
import Derived.Calls
import Derived.Laws.Sem
import Derived.Laws.Entries
import Derived.Laws.Cells
import Derived.Laws.Append
import Derived.Deep.DeepAppendWide
namespace Am
open Go
variable {U : TyU}

inductive Loc where
  | at (b o : Nat)
  | virt
  | dead

structure En where
  w : World
  m : Nat → Option Loc
  n : Nat → Nat
  I : Nat → Prop

/-- a block that nothing here may change -/
def Quiet (e : En) (b : Nat) : Prop := b < e.w.heap.size ∧ ∀ k o, e.m k ≠ some (.at b o)

inductive Rel (e : En) : AV U → Value → Prop where
  | junk {v : Value} : Rel e .junk v
  | bool {b : Bool} : Rel e (.bool b) (.bool b)
  | int {k : IntKind} {n : Int} : Rel e (.int k n) (.int k n)
  | str {s : List UInt8} : Rel e (.str s) (.string ⟨⟨s⟩⟩)
  | nilp : Rel e .nilp (.pointer none)
  | ptrDead {k sz i o : Nat} {a : Addr} : e.m k = some .dead → Rel e (.ptr k sz i o) (.pointer (some a))
  | ptr {k sz i o b ob : Nat} : e.m k = some (.at b ob) → Rel e (.ptr k sz i o) (.pointer (some ⟨b, ob + i * sz + o, none⟩))
  | fptr {cs : List (AV U)} {o b ob : Nat} {vals : Nat → Value} : e.I b →
      (∀ (j : Nat) (c : AV U), cs[j]? = some c → e.w.cell? ⟨b, ob + j, none⟩ = some (vals j)) → (∀ (j : Nat) (c : AV U), cs[j]? = some c → Rel e c (vals j)) →
      Rel e (.fptr cs o) (.pointer (some ⟨b, ob + o, none⟩))
  | nilsl : Rel e .nilsl (.slice none 0 0)
  | fslE {t : U.T} {a : Option Addr} {cap : Nat} : (a = none → cap = 0) → Rel e (.fsl t []) (.slice a 0 cap)
  | fsl {t : U.T} {xs : List (U.den t)} {b ob cap : Nat} {vals : Nat → Nat → Value} : e.I b → xs.length ≤ cap →
      (∀ (i : Nat) (x : U.den t), xs[i]? = some x → ∀ (j : Nat) (c : AV U), (enc t x)[j]? = some c → e.w.cell? ⟨b, ob + i * (U.shape t).length + j, none⟩ = some (vals i j)) →
      (∀ (i : Nat) (x : U.den t), xs[i]? = some x → ∀ (j : Nat) (c : AV U), (enc t x)[j]? = some c → Rel e c (vals i j)) →
      Rel e (.fsl t xs) (.slice (some ⟨b, ob, none⟩) xs.length cap)
  | bptr {cs : List (AV U)} {o b ob : Nat} {vals : Nat → Value} : Quiet e b →
      (∀ (j : Nat) (c : AV U), cs[j]? = some c → e.w.cell? ⟨b, ob + j, none⟩ = some (vals j)) → (∀ (j : Nat) (c : AV U), cs[j]? = some c → Rel e c (vals j)) →
      Rel e (.bptr cs o) (.pointer (some ⟨b, ob + o, none⟩))
  | bslE {t : U.T} {a : Option Addr} {cap : Nat} : Rel e (.bsl t []) (.slice a 0 cap)
  | bsl {t : U.T} {xs : List (U.den t)} {b ob cap : Nat} {vals : Nat → Nat → Value} : Quiet e b → xs.length ≤ cap →
      (∀ (i : Nat) (x : U.den t), xs[i]? = some x → ∀ (j : Nat) (c : AV U), (enc t x)[j]? = some c → e.w.cell? ⟨b, ob + i * (U.shape t).length + j, none⟩ = some (vals i j)) →
      (∀ (i : Nat) (x : U.den t), xs[i]? = some x → ∀ (j : Nat) (c : AV U), (enc t x)[j]? = some c → Rel e c (vals i j)) →
      Rel e (.bsl t xs) (.slice (some ⟨b, ob, none⟩) xs.length cap)
  | nsl {t : U.T} {xs : List (U.den t)} {a : Addr} {n cap : Nat} : Rel e (.fsl t xs) (.slice (some a) n cap) → Rel e (.nsl t xs) (.slice (some a) n cap)
  | mrowDead {k sz l c : Nat} {a : Option Addr} : e.m k = some .dead → Rel e (.mrow k sz) (.slice a l c)
  | mrowE {k sz : Nat} {a : Option Addr} {l : Loc} : e.m k = some l → e.n k = 0 → Rel e (.mrow k sz) (.slice a 0 0)
  | mrow {k sz cap b ob : Nat} : e.m k = some (.at b ob) → e.n k ≤ cap →
      (∃ (arr : Array Value) (el : TypeId) (fz : Nat × Nat), e.w.heap[b]? = some (.cells arr el fz) ∧ ob + cap * sz ≤ arr.size) →
      Rel e (.mrow k sz) (.slice (some ⟨b, ob, none⟩) (e.n k) cap)
  | brow {k : Nat} {el : TypeId} {c : Value} : Rel e (.mrow k 1) c → (∀ b o, e.m k = some (.at b o) → o = 0 ∧ ∃ (arr : Array Value) (fz : Nat × Nat), e.w.heap[b]? = some (.cells arr el fz)) → Rel e (.brow k el) c
  | tptr {k : Nat} {el : TypeId} {c : Value} : Rel e (.ptr k 2 0 0) c → (∀ b o, e.m k = some (.at b o) → o = 0 ∧ ∃ (arr : Array Value) (fz : Nat × Nat), e.w.heap[b]? = some (.cells arr el fz) ∧ arr.size = 2) → Rel e (.tptr k el) c
  | mslDead {k sz lo len cap : Nat} {a : Addr} : e.m k = some .dead → len ≤ cap → Rel e (.msl k sz lo len) (.slice (some a) len cap)
  | mslE {k sz lo : Nat} {a : Option Addr} {l : Loc} : e.m k = some l → Rel e (.msl k sz lo 0) (.slice a 0 0)
  | msl {k sz lo len cap b ob : Nat} : e.m k = some (.at b ob) → len ≤ cap →
      (∃ (arr : Array Value) (el : TypeId) (fz : Nat × Nat), e.w.heap[b]? = some (.cells arr el fz) ∧ ob + (lo + cap) * sz ≤ arr.size) →
      Rel e (.msl k sz lo len) (.slice (some ⟨b, ob + lo * sz, none⟩) len cap)
  | nilmap : Rel e .nilmap (.map none)
  | mapDead {k r : Nat} : e.m k = some .dead → Rel e (.map k) (.map (some r))
  | map {k b ob : Nat} : e.m k = some (.at b ob) → Rel e (.map k) (.map (some b))
  | fn {f : Fn} {a b : List (AV U)} {va vb : Array Value} : a.length = va.size → b.length = vb.size →
      (∀ (j : Nat) (x : AV U) (v : Value), a[j]? = some x → va[j]? = some v → Rel e x v) → (∀ (j : Nat) (x : AV U) (v : Value), b[j]? = some x → vb[j]? = some v → Rel e x v) →
      Rel e (.fn f a b) (.func f va vb)
  | nilfn : Rel e .nilfn .nilFunc
  | iface {t : TypeId} {x : AV U} {v : Value} : Rel e x v → Rel e (.iface t x) (.iface t v)
  | nilif : Rel e .nilif .nilIface
  | agg {cs : List (AV U)} {va : Array Value} : cs.length = va.size → (∀ (j : Nat) (x : AV U) (v : Value), cs[j]? = some x → va[j]? = some v → Rel e x v) → Rel e (.agg cs) (.agg va)
  | tup {cs : List (AV U)} {va : Array Value} : cs.length = va.size → (∀ (j : Nat) (x : AV U) (v : Value), cs[j]? = some x → va[j]? = some v → Rel e x v) → Rel e (.tup cs) (.tuple va)

/-- lists, cell by cell -/
def RelL (e : En) (cs : List (AV U)) (va : List Value) : Prop := cs.length = va.length ∧ ∀ (j : Nat) (x : AV U) (v : Value), cs[j]? = some x → va[j]? = some v → Rel e x v

structure WF (e : En) : Prop where
  iLt : ∀ b, e.I b → b < e.w.heap.size
  mLt : ∀ k b o, e.m k = some (.at b o) → b < e.w.heap.size
  mI : ∀ k b o, e.m k = some (.at b o) → ¬ e.I b
  inj : ∀ k k' b o o', e.m k = some (.at b o) → e.m k' = some (.at b o') → k = k'

def unfrozen (fz : Nat × Nat) (lo hi : Nat) : Prop := ∀ j, lo ≤ j → j < hi → ¬ (fz.1 ≤ j ∧ j < fz.2)

/-- the cells from 'ob' on are those -/
def CellsAt (e : En) (arr : Array Value) (ob : Nat) (cs : List (AV U)) : Prop := ∀ (j : Nat) (c : AV U), cs[j]? = some c → ∃ v, arr[ob + j]? = some v ∧ Rel e c v

def BlkOK (e : En) (k : Nat) : Blk U → Prop
  | .box cs => ∃ (b ob : Nat) (arr : Array Value) (el : TypeId) (fz : Nat × Nat), e.m k = some (.at b ob) ∧ e.w.heap[b]? = some (.cells arr el fz) ∧ ob + cs.length ≤ arr.size ∧ unfrozen fz ob arr.size ∧ CellsAt e arr ob cs
  | .row t xs => e.n k = xs.length ∧ ((e.m k = some .virt ∧ xs = []) ∨ ∃ (b ob : Nat) (arr : Array Value) (el : TypeId) (fz : Nat × Nat), e.m k = some (.at b ob) ∧ e.w.heap[b]? = some (.cells arr el fz) ∧
      ob + xs.length * (U.shape t).length ≤ arr.size ∧ unfrozen fz ob arr.size ∧ ∀ (i : Nat) (x : U.den t), xs[i]? = some x → CellsAt e arr (ob + i * (U.shape t).length) (enc t x))
  | .urow sz es => e.n k = es.length ∧ ((e.m k = some .virt ∧ es = []) ∨ ∃ (b ob : Nat) (arr : Array Value) (el : TypeId) (fz : Nat × Nat), e.m k = some (.at b ob) ∧ e.w.heap[b]? = some (.cells arr el fz) ∧
      ob + es.length * sz ≤ arr.size ∧ unfrozen fz ob arr.size ∧ (∀ (i : Nat) (x : List (AV U)), es[i]? = some x → x.length = sz ∧ okCells x = true ∧ CellsAt e arr (ob + i * sz) x))
  | .tm kt vt es => ∃ (b ob : Nat) (ents : Array MapEntry) (clock : Nat), e.m k = some (.at b ob) ∧ e.w.heap[b]? = some (.map ents clock) ∧ ents.size = es.length ∧
      ∀ (i : Nat) (p : U.den kt × U.den vt), es[i]? = some p → ∃ en : MapEntry, ents[i]? = some en ∧ Rel e (encV kt p.1) en.key ∧ Rel e (encV vt p.2) en.val

def HeapRel (e : En) (H : Nat → Option (Blk U)) : Prop := ∀ k b, H k = some b → BlkOK e k b

def dom (H : Nat → Option (Blk U)) : Nat → Prop := fun k => H k ≠ none

/-- nothing is put out, and the machine's surroundings stay -/
def sameIO (w w' : World) : Prop := w'.os = w.os ∧ w'.output = w.output

theorem sameIO.trans {w w1 w2 : World} (h : sameIO w w1) (h' : sameIO w1 w2) : sameIO w w2 := ⟨h'.1.trans h.1, h'.2.trans h.2⟩

def PushW (w w' : World) (o : Obj) : Prop := w'.heap = w.heap.push o ∧ sameIO w w'

structure Evo (D : Nat → Prop) (e e' : En) : Prop where
  size : e.w.heap.size ≤ e'.w.heap.size
  keep : ∀ b, b < e.w.heap.size → (∀ k o, D k → e.m k ≠ some (.at b o)) → e'.w.heap[b]? = e.w.heap[b]?
  shape : ∀ (b : Nat) (arr : Array Value) (el : TypeId) (fz : Nat × Nat), e.w.heap[b]? = some (.cells arr el fz) → ∃ (arr' : Array Value) (fz' : Nat × Nat), e'.w.heap[b]? = some (.cells arr' el fz') ∧ arr'.size = arr.size
  old : ∀ k l, e.m k = some l → e'.m k = some l ∨ (D k ∧ e'.m k = some .dead)
  len : ∀ k l, e.m k = some l → e'.n k = e.n k
  new : ∀ k b o, e'.m k = some (.at b o) → e.m k = some (.at b o) ∨ e.w.heap.size ≤ b ∨ ∃ k2 o2, D k2 ∧ e.m k2 = some (.at b o2)
  iOld : ∀ b, e.I b → e'.I b
  iNew : ∀ b, e'.I b → e.I b ∨ e.w.heap.size ≤ b ∨ ∃ k2 o2, D k2 ∧ e.m k2 = some (.at b o2)
  io : sameIO e.w e'.w

def allD : Nat → Prop := fun _ => True

theorem Evo.refl (D : Nat → Prop) (e : En) : Evo D e e :=
  ⟨Nat.le_refl _, fun _ _ _ => rfl, fun _ arr _ fz h => ⟨arr, fz, h, rfl⟩, fun _ _ h => .inl h, fun _ _ _ => rfl, fun _ _ _ h => .inl h, fun _ h => h, fun _ h => .inl h, ⟨rfl, rfl⟩⟩

theorem Evo.weaken {D D' : Nat → Prop} {e e' : En} (h : Evo D e e') (hd : ∀ k, D k → D' k) : Evo D' e e' :=
  ⟨h.size, fun b hb hk => h.keep b hb fun k o hD => hk k o (hd k hD), h.shape, fun k l hl => (h.old k l hl).imp id fun ⟨a, b⟩ => ⟨hd k a, b⟩, h.len,
    fun k b o hh => (h.new k b o hh).imp id (Or.imp id fun ⟨k2, o2, a, b⟩ => ⟨k2, o2, hd _ a, b⟩), h.iOld,
    fun b hh => (h.iNew b hh).imp id (Or.imp id fun ⟨k2, o2, a, b⟩ => ⟨k2, o2, hd _ a, b⟩), h.io⟩

theorem Evo.all {D : Nat → Prop} {e e' : En} (h : Evo D e e') : Evo allD e e' := h.weaken fun _ _ => trivial

theorem Evo.trans {e e1 e2 : En} (h : Evo allD e e1) (h' : Evo allD e1 e2) : Evo allD e e2 where
  size := Nat.le_trans h.size h'.size
  keep b hb hk := by
    rw [h'.keep b (Nat.lt_of_lt_of_le hb h.size) ?_, h.keep b hb hk]
    intro k o _ hm
    rcases h.new k b o hm with h1 | h1 | ⟨k2, o2, _, h1⟩
    · exact hk k o trivial h1
    · omega
    · exact hk k2 o2 trivial h1
  shape b arr el fz hh := by
    obtain ⟨a1, f1, h1, s1⟩ := h.shape b arr el fz hh
    obtain ⟨a2, f2, h2, s2⟩ := h'.shape b a1 el f1 h1
    exact ⟨a2, f2, h2, s2.trans s1⟩
  old k l hl := by
    rcases h.old k l hl with h1 | ⟨_, h1⟩
    · exact h'.old k l h1
    · rcases h'.old k _ h1 with h2 | h2
      · exact .inr ⟨trivial, h2⟩
      · exact .inr h2
  len k l hl := by
    rcases h.old k l hl with h1 | ⟨_, h1⟩ <;> rw [h'.len k _ h1, h.len k l hl]
  new k b o hm := by
    rcases h'.new k b o hm with h1 | h1 | ⟨k2, o2, _, h1⟩
    · exact h.new k b o h1
    · exact .inr (.inl (Nat.le_trans h.size h1))
    · rcases h.new k2 b o2 h1 with h2 | h2 | h2
      · exact .inr (.inr ⟨k2, o2, trivial, h2⟩)
      · exact .inr (.inl h2)
      · exact .inr (.inr h2)
  iOld b hb := h'.iOld b (h.iOld b hb)
  iNew b hb := by
    rcases h'.iNew b hb with h1 | h1 | ⟨k2, o2, _, h1⟩
    · exact h.iNew b h1
    · exact .inr (.inl (Nat.le_trans h.size h1))
    · rcases h.new k2 b o2 h1 with h2 | h2 | h2
      · exact .inr (.inr ⟨k2, o2, trivial, h2⟩)
      · exact .inr (.inl h2)
      · exact .inr (.inr h2)
  io := h.io.trans h'.io

theorem Evo.heap_I {D : Nat → Prop} {e e' : En} (h : Evo D e e') (hw : WF e) {b : Nat} (hb : e.I b) : e'.w.heap[b]? = e.w.heap[b]? :=
  h.keep b (hw.iLt b hb) fun k o _ hm => hw.mI k b o hm hb

theorem cell_eq (w : World) (b o : Nat) : w.cell? ⟨b, o, none⟩ = match w.heap[b]? with | some (.cells c _ _) => c[o]? | _ => none := by
  unfold World.cell?
  cases w.heap[b]? with
  | none => rfl
  | some x => cases x <;> rfl

theorem cell_of_heap {w w' : World} {b o : Nat} (h : w'.heap[b]? = w.heap[b]?) : w'.cell? ⟨b, o, none⟩ = w.cell? ⟨b, o, none⟩ := by
  rw [cell_eq, cell_eq, h]

theorem Evo.quiet {D : Nat → Prop} {e e' : En} (h : Evo D e e') {b : Nat} (hb : Quiet e b) : Quiet e' b ∧ e'.w.heap[b]? = e.w.heap[b]? := by
  refine ⟨⟨Nat.lt_of_lt_of_le hb.1 h.size, fun k o hm => ?_⟩, h.keep b hb.1 fun k o _ hm => hb.2 k o hm⟩
  rcases h.new k b o hm with h1 | h1 | ⟨k2, o2, _, h1⟩
  · exact hb.2 k o h1
  · have := hb.1; omega
  · exact hb.2 k2 o2 h1

theorem Rel.mono {D : Nat → Prop} {e e' : En} (h : Evo D e e') (hw : WF e) {v : AV U} {c : Value} (hr : Rel e v c) : Rel e' v c := by
  induction hr with
  | junk => exact .junk
  | bool => exact .bool
  | int => exact .int
  | str => exact .str
  | nilp => exact .nilp
  | ptrDead hm => rcases h.old _ _ hm with h1 | ⟨_, h1⟩ <;> exact .ptrDead h1
  | ptr hm =>
    rcases h.old _ _ hm with h1 | ⟨_, h1⟩
    · exact .ptr h1
    · exact .ptrDead h1
  | fptr hI hc _ ih => exact .fptr (h.iOld _ hI) (fun j c hj => by rw [cell_of_heap (h.heap_I hw hI)]; exact hc j c hj) ih
  | nilsl => exact .nilsl
  | fslE ha => exact .fslE ha
  | fsl hI hl hc _ ih => exact .fsl (h.iOld _ hI) hl (fun i x hx j c hj => by rw [cell_of_heap (h.heap_I hw hI)]; exact hc i x hx j c hj) ih
  | bptr hI hc _ ih => exact .bptr (h.quiet hI).1 (fun j c hj => by rw [cell_of_heap (h.quiet hI).2]; exact hc j c hj) ih
  | bslE => exact .bslE
  | bsl hI hl hc _ ih => exact .bsl (h.quiet hI).1 hl (fun i x hx j c hj => by rw [cell_of_heap (h.quiet hI).2]; exact hc i x hx j c hj) ih
  | nsl _ ih => exact .nsl ih
  | mrowDead hm => rcases h.old _ _ hm with h1 | ⟨_, h1⟩ <;> exact .mrowDead h1
  | mrowE hm hn =>
    have hl := h.len _ _ hm
    rcases h.old _ _ hm with h1 | ⟨_, h1⟩ <;> exact .mrowE h1 (by rw [hl]; exact hn)
  | mrow hm hl hr =>
    have hlen := h.len _ _ hm
    rcases h.old _ _ hm with h1 | ⟨_, h1⟩
    · obtain ⟨arr, el, fz, ha, hs⟩ := hr
      obtain ⟨arr', fz', ha', hs'⟩ := h.shape _ _ _ _ ha
      rw [← hlen]
      exact .mrow h1 (by rw [hlen]; exact hl) ⟨arr', el, fz', ha', by omega⟩
    · exact .mrowDead h1
  | @brow k el c hr hx ih =>
    refine .brow ih fun b o hm => ?_
    obtain ⟨l, hl⟩ : ∃ l, e.m k = some l := by
      cases hr with
      | mrowDead h1 => exact ⟨_, h1⟩
      | mrowE h1 _ => exact ⟨_, h1⟩
      | mrow h1 _ _ => exact ⟨_, h1⟩
    rcases h.old _ _ hl with h1 | ⟨_, h1⟩
    · rw [hm] at h1; cases h1
      obtain ⟨g1, arr, fz, g2⟩ := hx b o hl
      obtain ⟨arr', fz', g3, _⟩ := h.shape _ _ _ _ g2
      exact ⟨g1, arr', fz', g3⟩
    · rw [hm] at h1; cases h1
  | @tptr k el c hr hx ih =>
    refine .tptr ih fun b o hm => ?_
    obtain ⟨l, hl⟩ : ∃ l, e.m k = some l := by
      cases hr with
      | ptrDead h1 => exact ⟨_, h1⟩
      | ptr h1 => exact ⟨_, h1⟩
    rcases h.old _ _ hl with h1 | ⟨_, h1⟩
    · rw [hm] at h1; cases h1
      obtain ⟨g1, arr, fz, g2, g4⟩ := hx b o hl
      obtain ⟨arr', fz', g3, g5⟩ := h.shape _ _ _ _ g2
      exact ⟨g1, arr', fz', g3, by omega⟩
    · rw [hm] at h1; cases h1
  | mslDead hm hl => rcases h.old _ _ hm with h1 | ⟨_, h1⟩ <;> exact .mslDead h1 hl
  | mslE hm => rcases h.old _ _ hm with h1 | ⟨_, h1⟩ <;> exact .mslE h1
  | msl hm hl hr =>
    rcases h.old _ _ hm with h1 | ⟨_, h1⟩
    · obtain ⟨arr, el, fz, ha, hs⟩ := hr
      obtain ⟨arr', fz', ha', hs'⟩ := h.shape _ _ _ _ ha
      exact .msl h1 hl ⟨arr', el, fz', ha', by omega⟩
    · exact .mslDead h1 hl
  | nilmap => exact .nilmap
  | mapDead hm => rcases h.old _ _ hm with h1 | ⟨_, h1⟩ <;> exact .mapDead h1
  | map hm =>
    rcases h.old _ _ hm with h1 | ⟨_, h1⟩
    · exact .map h1
    · exact .mapDead h1
  | fn ha hb _ _ iha ihb => exact .fn ha hb iha ihb
  | nilfn => exact .nilfn
  | iface _ ih => exact .iface ih
  | nilif => exact .nilif
  | agg hl _ ih => exact .agg hl ih
  | tup hl _ ih => exact .tup hl ih

theorem RelL.mono {D : Nat → Prop} {e e' : En} (h : Evo D e e') (hw : WF e) {cs : List (AV U)} {va : List Value} (hr : RelL e cs va) : RelL e' cs va :=
  ⟨hr.1, fun j x v hx hv => (hr.2 j x v hx hv).mono h hw⟩

theorem CellsAt.mono {D : Nat → Prop} {e e' : En} (h : Evo D e e') (hw : WF e) {arr : Array Value} {ob : Nat} {cs : List (AV U)} (hr : CellsAt e arr ob cs) : CellsAt e' arr ob cs :=
  fun j c hj => let ⟨v, hv, r⟩ := hr j c hj; ⟨v, hv, r.mono h hw⟩

/-- a block that no operation may touch stays as it is -/
theorem BlkOK.mono {D : Nat → Prop} {e e' : En} (h : Evo D e e') (hw : WF e) {k : Nat} {b : Blk U} (hk : ¬ D k) (hb : BlkOK e k b) : BlkOK e' k b := by
  have hm : ∀ l, e.m k = some l → e'.m k = some l := fun l hl => (h.old k l hl).resolve_right fun hh => hk hh.1
  have hheap : ∀ b o, e.m k = some (.at b o) → e'.w.heap[b]? = e.w.heap[b]? := fun b o hl => h.keep b (hw.mLt k b o hl) fun k' o' hD hm' => by
    rw [hw.inj k k' b o o' hl hm'] at hk; exact hk hD
  cases b with
  | box cs =>
    obtain ⟨b, ob, arr, el, fz, h1, h2, h3, h4, h5⟩ := hb
    exact ⟨b, ob, arr, el, fz, hm _ h1, by rw [hheap _ _ h1]; exact h2, h3, h4, h5.mono h hw⟩
  | row t xs =>
    obtain ⟨hn, hb⟩ := hb
    rcases hb with ⟨h1, h2⟩ | ⟨b, ob, arr, el, fz, h1, h2, h3, h4, h5⟩
    · exact ⟨by rw [h.len _ _ h1]; exact hn, .inl ⟨hm _ h1, h2⟩⟩
    · exact ⟨by rw [h.len _ _ h1]; exact hn, .inr ⟨b, ob, arr, el, fz, hm _ h1, by rw [hheap _ _ h1]; exact h2, h3, h4, fun i x hx => (h5 i x hx).mono h hw⟩⟩
  | urow sz es =>
    obtain ⟨hn, hb⟩ := hb
    rcases hb with ⟨h1, h2⟩ | ⟨b, ob, arr, el, fz, h1, h2, h3, h4, h5⟩
    · exact ⟨by rw [h.len _ _ h1]; exact hn, .inl ⟨hm _ h1, h2⟩⟩
    · exact ⟨by rw [h.len _ _ h1]; exact hn, .inr ⟨b, ob, arr, el, fz, hm _ h1, by rw [hheap _ _ h1]; exact h2, h3, h4, fun i x hx => ⟨(h5 i x hx).1, (h5 i x hx).2.1, (h5 i x hx).2.2.mono h hw⟩⟩⟩
  | tm kt vt es =>
    obtain ⟨b, ob, ents, clock, h1, h2, h3, h4⟩ := hb
    exact ⟨b, ob, ents, clock, hm _ h1, by rw [hheap _ _ h1]; exact h2, h3, fun i p hp => let ⟨en, a, r1, r2⟩ := h4 i p hp; ⟨en, a, r1.mono h hw, r2.mono h hw⟩⟩

/-! ## The frame -/
def FrRel (e : En) (fr : List (AV U)) (tmps : Array Value) : Prop := RelL e fr tmps.toList

structure StRel (e : En) (st : St U) (a : Act) : Prop where
  fr : FrRel e st.fr a.tmps
  heap : HeapRel e st.H.get
  wf : WF e
  fresh : ∀ k, st.H.length ≤ k → e.m k = none
  defers : a.defers = []

theorem rel_ofVal (e : En) (v : Value) : Rel (U := U) e (ofVal v) v := by
  cases v with
  | bool b => exact .bool
  | int k n => exact .int
  | string s => exact .str
  | pointer a => cases a <;> first | exact .nilp | exact .junk
  | slice a l c =>
    unfold ofVal
    split <;> first | exact .junk | skip
    all_goals first | (rename_i h; cases h; done) | skip
    all_goals simp_all
    all_goals first | exact .nilsl | exact .junk
  | map r => cases r <;> first | exact .nilmap | exact .junk
  | nilFunc => exact .nilfn
  | nilIface => exact .nilif
  | _ => exact .junk

theorem FrRel.ev {e : En} {fr : List (AV U)} {a : Act} (h : FrRel e fr a.tmps) (x : Operand) : Rel e (ev fr x) (a.eval x) := by
  cases x with
  | tmp t =>
    simp only [Am.ev, Act.eval, List.getD_eq_getElem?_getD, Array.getD_eq_getD_getElem?]
    cases h1 : fr[t]? with
    | none => exact .junk
    | some v =>
      have hl : t < fr.length := (List.getElem?_eq_some_iff.1 h1).1
      have h2 : t < a.tmps.size := by rw [h.1] at hl; simpa using hl
      have h3 : a.tmps[t]? = some a.tmps[t] := by simp [h2]
      rw [h3]
      exact h.2 t v _ h1 (by simp [h2])
  | const v => exact rel_ofVal e v
  | func f => exact .fn rfl rfl (by simp) (by simp)
  | global g => exact .junk

theorem FrRel.put {e : En} {fr : List (AV U)} {a : Act} (h : FrRel e fr a.tmps) {v : AV U} {c : Value} (hv : Rel e v c) (d : Option Tmp) : FrRel e (put fr d v) (a.put d c).tmps := by
  cases d with
  | none => exact h
  | some d =>
    refine ⟨by simpa [Am.put, Act.put] using h.1, fun j x u hx hu => ?_⟩
    simp only [Am.put, Act.put, Array.toList_setIfInBounds] at hx hu
    by_cases hj : d = j
    · subst hj
      rw [List.getElem?_set] at hx hu
      simp only [if_true] at hx hu
      split at hx <;> simp at hx
      split at hu <;> simp at hu
      subst hx; subst hu; exact hv
    · rw [List.getElem?_set_ne hj] at hx hu
      exact h.2 j x u hx hu

theorem FrRel.mono {D : Nat → Prop} {e e' : En} (h : Evo D e e') (hw : WF e) {fr : List (AV U)} {t : Array Value} (hr : FrRel e fr t) : FrRel e' fr t := RelL.mono h hw hr

theorem put_defers (a : Act) (d : Option Tmp) (v : Value) : (a.put d v).defers = a.defers := by cases d <;> rfl

end Am

namespace Am
open Go
variable {U : TyU}

/-! ## Types -/
def TKok : TypeDesc → TK → Prop
  | .int k, .int k' => k = k'
  | .bool, .bool => True
  | .string, .str => True
  | .struct fs, .struct l => fs.toList.map (fun f => (f.offset, f.type)) = l
  | .array n e, .array n' e' => n = n' ∧ e = e'
  | .slice e, .slice e' => e = e'
  | .map k v, .map k' v' => k = k' ∧ v = v'
  | .pointer e, .ptr e' => e = e'
  | .func _ _ _, .func => True
  | .interface _, .iface => True
  | _, _ => False

structure TIok (P : Program) (t : TypeId) (i : TI U) : Prop where
  info : ∃ inf, P.info? t = some inf ∧ inf.size = i.size ∧ inf.bytes = i.bytes ∧ ∃ z, inf.zero = some z ∧ i.zero = z.cells.toList.map ofVal ∧ i.zero.length = i.size ∧ okCells i.zero = true
  und : ∃ d, P.underlying t = some d ∧ TKok d i.tk
  ty : ∀ c, i.ty = some c → U.isAgg c = i.tk.isAgg ∧ (U.shape c).length = i.size
  one : i.tk.isAgg = false → i.size = 1
  zagg : ∃ inf z, P.info? t = some inf ∧ inf.zero = some z ∧ (i.tk.isAgg = true → ∃ va, z = .agg va) ∧ (i.tk.isAgg = false → ∀ va, z ≠ .agg va)

section
variable {P : Program} {t : TypeId} {i : TI U}

theorem TIok.run_sizeOf (h : TIok P t i) (w : World) : (Go.sizeOf t).run P w = .ok i.size w := by
  obtain ⟨inf, h1, h2, _⟩ := h.info
  simp [Go.sizeOf, typeInfo, h1, h2]

theorem TIok.run_zero (h : TIok P t i) (w : World) : ∃ z, (zeroValue t).run P w = .ok z w ∧ i.zero = z.cells.toList.map ofVal := by
  obtain ⟨inf, h1, _, _, z, h3, h4, _⟩ := h.info
  exact ⟨z, by simp [zeroValue, typeInfo, h1, h3], h4⟩

theorem TIok.zero_len (h : TIok P t i) : i.zero.length = i.size := by
  obtain ⟨inf, h1, _, _, z, h3, h4, h5, _⟩ := h.info
  exact h5

theorem TIok.zero_ok (h : TIok P t i) : okCells i.zero = true := by
  obtain ⟨inf, h1, _, _, z, h3, h4, _, h5⟩ := h.info
  exact h5

theorem TIok.und_struct (h : TIok P t i) {l : List (Nat × TypeId)} (hk : i.tk = .struct l) : ∃ fs, P.underlying t = some (.struct fs) ∧ fs.toList.map (fun f => (f.offset, f.type)) = l := by
  obtain ⟨d, h1, h2⟩ := h.und
  rw [hk] at h2
  cases d <;> simp [TKok] at h2
  exact ⟨_, h1, h2⟩

theorem TIok.und_slice (h : TIok P t i) {e : TypeId} (hk : i.tk = .slice e) : P.underlying t = some (.slice e) := by
  obtain ⟨d, h1, h2⟩ := h.und
  rw [hk] at h2
  cases d <;> simp [TKok] at h2
  rw [h1, h2]

theorem TIok.und_array (h : TIok P t i) {n : Nat} {e : TypeId} (hk : i.tk = .array n e) : P.underlying t = some (.array n e) := by
  obtain ⟨d, h1, h2⟩ := h.und
  rw [hk] at h2
  cases d <;> simp [TKok] at h2
  rw [h1, h2.1, h2.2]

theorem TIok.und_map (h : TIok P t i) {k v : TypeId} (hk : i.tk = .map k v) : P.underlying t = some (.map k v) := by
  obtain ⟨d, h1, h2⟩ := h.und
  rw [hk] at h2
  cases d <;> simp [TKok] at h2
  rw [h1, h2.1, h2.2]

theorem TIok.und_ptr (h : TIok P t i) {e : TypeId} (hk : i.tk = .ptr e) : P.underlying t = some (.pointer e) := by
  obtain ⟨d, h1, h2⟩ := h.und
  rw [hk] at h2
  cases d <;> simp [TKok] at h2
  rw [h1, h2]

theorem TIok.und_int (h : TIok P t i) {k : IntKind} (hk : i.tk = .int k) : P.underlying t = some (.int k) := by
  obtain ⟨d, h1, h2⟩ := h.und
  rw [hk] at h2
  cases d <;> simp [TKok] at h2
  rw [h1, h2]

theorem TIok.und_str (h : TIok P t i) (hk : i.tk = .str) : P.underlying t = some .string := by
  obtain ⟨d, h1, h2⟩ := h.und
  rw [hk] at h2
  cases d <;> simp [TKok] at h2
  exact h1

theorem TIok.und_bool (h : TIok P t i) (hk : i.tk = .bool) : P.underlying t = some .bool := by
  obtain ⟨d, h1, h2⟩ := h.und
  rw [hk] at h2
  cases d <;> simp [TKok] at h2
  exact h1

theorem TIok.run_isAgg (h : TIok P t i) (w : World) : (isAgg t).run P w = .ok i.tk.isAgg w := by
  obtain ⟨d, h1, h2⟩ := h.und
  generalize i.tk = k at h2 ⊢
  cases d <;> cases k <;> simp [TKok] at h2 <;> simp [isAgg, run_underlying h1, TK.isAgg]
end

/-! ## Inversions -/
section
variable {e : En}
theorem Rel.bool_inv {b : Bool} {c : Value} (h : Rel (U := U) e (.bool b) c) : c = .bool b := by cases h; rfl
theorem Rel.int_inv {k : IntKind} {n : Int} {c : Value} (h : Rel (U := U) e (.int k n) c) : c = .int k n := by cases h; rfl
theorem Rel.str_inv {s : List UInt8} {c : Value} (h : Rel (U := U) e (.str s) c) : c = .string ⟨⟨s⟩⟩ := by cases h; rfl
theorem Rel.agg_inv {cs : List (AV U)} {c : Value} (h : Rel e (.agg cs) c) : ∃ va : Array Value, c = .agg va ∧ RelL e cs va.toList := by
  cases h with
  | agg hl hr => exact ⟨_, rfl, by simpa using hl, fun j x v hx hv => hr j x v hx (by simpa using hv)⟩
theorem Rel.tup_inv {cs : List (AV U)} {c : Value} (h : Rel e (.tup cs) c) : ∃ va : Array Value, c = .tuple va ∧ RelL e cs va.toList := by
  cases h with
  | tup hl hr => exact ⟨_, rfl, by simpa using hl, fun j x v hx hv => hr j x v hx (by simpa using hv)⟩

theorem Rel.of_agg {cs : List (AV U)} {va : Array Value} (h : RelL e cs va.toList) : Rel e (.agg cs) (.agg va) :=
  .agg (by simpa using h.1) fun j x v hx hv => h.2 j x v hx (by simpa using hv)
theorem Rel.of_tup {cs : List (AV U)} {va : Array Value} (h : RelL e cs va.toList) : Rel e (.tup cs) (.tuple va) :=
  .tup (by simpa using h.1) fun j x v hx hv => h.2 j x v hx (by simpa using hv)

theorem RelL.nil : RelL (U := U) e [] [] := ⟨rfl, by simp⟩
theorem RelL.cons {x : AV U} {v : Value} {l : List (AV U)} {l' : List Value} (h : Rel e x v) (hl : RelL e l l') : RelL e (x :: l) (v :: l') := by
  refine ⟨by simp [hl.1], fun j y u hy hu => ?_⟩
  cases j with
  | zero => simp at hy hu; subst hy; subst hu; exact h
  | succ j => simp at hy hu; exact hl.2 j y u hy hu
theorem RelL.head {x : AV U} {v : Value} {l : List (AV U)} {l' : List Value} (h : RelL e (x :: l) (v :: l')) : Rel e x v := h.2 0 x v rfl rfl
theorem RelL.tail {x : AV U} {v : Value} {l : List (AV U)} {l' : List Value} (h : RelL e (x :: l) (v :: l')) : RelL e l l' :=
  ⟨by have := h.1; simpa using this, fun j y u hy hu => h.2 (j + 1) y u (by simpa using hy) (by simpa using hu)⟩
theorem RelL.cons_inv {x : AV U} {l : List (AV U)} {l' : List Value} (h : RelL e (x :: l) l') : ∃ v r, l' = v :: r ∧ Rel e x v ∧ RelL e l r := by
  cases l' with
  | nil => have := h.1; simp at this
  | cons v r => exact ⟨v, r, rfl, h.head, h.tail⟩
theorem RelL.nil_inv {l' : List Value} (h : RelL (U := U) e [] l') : l' = [] := by
  cases l' with
  | nil => rfl
  | cons v r => have := h.1; simp at this
theorem RelL.append {a b : List (AV U)} {a' b' : List Value} (h : RelL e a a') (h' : RelL e b b') : RelL e (a ++ b) (a' ++ b') := by
  induction a generalizing a' with
  | nil => rw [h.nil_inv]; exact h'
  | cons x l ih =>
    obtain ⟨v, r, rfl, h1, h2⟩ := h.cons_inv
    exact .cons h1 (ih h2)
theorem RelL.get {a : List (AV U)} {a' : List Value} (h : RelL e a a') {j : Nat} {x : AV U} (hx : a[j]? = some x) : ∃ v, a'[j]? = some v ∧ Rel e x v := by
  have hj : j < a'.length := by rw [← h.1]; exact (List.getElem?_eq_some_iff.1 hx).1
  exact ⟨a'[j], by simp [hj], h.2 j x _ hx (by simp [hj])⟩
theorem RelL.take {a : List (AV U)} {a' : List Value} (h : RelL e a a') (n : Nat) : RelL e (a.take n) (a'.take n) := by
  refine ⟨by simp [h.1], fun j x v hx hv => ?_⟩
  rw [List.getElem?_take] at hx hv
  split at hx
  · rename_i hj; simp [hj] at hv; exact h.2 j x v hx hv
  · cases hx
theorem RelL.drop {a : List (AV U)} {a' : List Value} (h : RelL e a a') (n : Nat) : RelL e (a.drop n) (a'.drop n) := by
  refine ⟨by simp [h.1], fun j x v hx hv => ?_⟩
  rw [List.getElem?_drop] at hx hv
  exact h.2 _ x v hx hv

/-- a value's cells -/
theorem Rel.cells {x : AV U} {v : Value} (h : Rel e x v) (hok : okCells (cellsOf x) = true) : RelL e (cellsOf x) v.cells.toList ∧ ∀ u ∈ v.cells.toList, u.oneCell' = true := by
  have one : ∀ {y : AV U} {u : Value}, Rel e y u → okCell y = true → u.oneCell' = true := by
    intro y u hy ho
    cases hy <;> first | rfl | (simp [okCell] at ho; done) | (rename_i hq _; cases hq <;> rfl) | (rename_i _ hq; cases hq <;> rfl)
  have all : ∀ {l : List (AV U)} {l' : List Value}, RelL e l l' → okCells l = true → ∀ u ∈ l', u.oneCell' = true := by
    intro l
    induction l with
    | nil => intro l' hl _ u hu; rw [hl.nil_inv] at hu; cases hu
    | cons y r ih =>
      intro l' hl ho u hu
      obtain ⟨v, r', rfl, h1, h2⟩ := hl.cons_inv
      unfold okCells at ho
      split at ho
      · rename_i hc
        rcases List.mem_cons.1 hu with rfl | hu
        · exact one h1 hc
        · exact ih h2 ho u hu
      · cases ho
  have single : (∀ cs, x ≠ .agg cs) → RelL e (cellsOf x) v.cells.toList := by
    intro hx
    have h1 : cellsOf x = [x] := by cases x <;> first | rfl | exact absurd rfl (hx _)
    have h2 : okCell x = true := by
      rw [h1] at hok
      unfold okCells at hok
      split at hok
      · assumption
      · cases hok
    have h3 : v.cells = #[v] := by
      have := one h h2
      cases v <;> first | rfl | (simp [Value.oneCell'] at this)
    rw [h1, h3]
    exact .cons h .nil
  cases x with
  | agg cs =>
    obtain ⟨va, rfl, hr⟩ := h.agg_inv
    exact ⟨hr, all hr hok⟩
  | _ =>
    have hs := single (by intro cs hh; cases hh)
    exact ⟨hs, all hs hok⟩
end

/-! ## Memory -/
/-- storing a row of cells -/
theorem roomy_le {n b : Nat} (h : roomy n b = true) : n * b ≤ 281474976710656 := by
  unfold roomy at h
  rw [Bool.or_eq_true] at h
  rcases h with h | h
  · have := of_decide_eq_true h; omega
  · have h1 := of_decide_eq_true h
    have h2 : n * b ≤ (n + n / 4 + 192) * b := Nat.mul_le_mul_right _ (by omega)
    omega

theorem roomy_grow {n b cap : Nat} (h : roomy n b = true) (hn : cap < n) : Builtin.nextslicecap n cap * b ≤ 281474976710656 := by
  unfold roomy at h
  rw [Bool.or_eq_true] at h
  rcases h with h | h
  · exact growslice_fits hn (of_decide_eq_true h)
  · exact growslice_fits_wide hn (of_decide_eq_true h)

theorem run_storeCells {P : Program} (b base : Nat) (el : TypeId) (fz : Nat × Nat) : ∀ (vs : List Value) (n : Nat) (w : World) (arr : Array Value), w.heap[b]? = some (.cells arr el fz) →
    base + n + vs.length ≤ arr.size → unfrozen fz (base + n) arr.size → (∀ u ∈ vs, u.oneCell' = true) →
    ∃ w' arr', (storeCells ⟨b, base, none⟩ vs n).run P w = .ok () w' ∧ w'.heap.size = w.heap.size ∧ (∀ b', b' ≠ b → w'.heap[b']? = w.heap[b']?) ∧
      w'.heap[b]? = some (.cells arr' el fz) ∧ arr'.size = arr.size ∧
      (∀ j, arr'[j]? = if base + n ≤ j ∧ j < base + n + vs.length then vs[j - (base + n)]? else arr[j]?) ∧ sameIO w w'
  | [], n, w, arr, hb, _, _, _ => ⟨w, arr, rfl, rfl, fun _ _ => rfl, hb, rfl, fun j => (by
      rw [if_neg (by simp only [List.length_nil]; omega)]), ⟨rfl, rfl⟩⟩
  | v :: vs, n, w, arr, hb, hl, hu, h1 => by
    have ha : ({ block := b, off := base, spot := none } : Addr).add n = ⟨b, base + n, none⟩ := by
      unfold Addr.add; split <;> simp_all
    have hlt : base + n < arr.size := by simp at hl; omega
    have hc : w.cell? ⟨b, base + n, none⟩ = some arr[base + n] := by rw [cell_eq, hb]; simp [hlt]
    have hf : w.frozen? ⟨b, base + n, none⟩ = false := by
      unfold World.frozen?
      obtain ⟨lo, hi⟩ := fz
      simp only [hb]
      have := hu (base + n) (Nat.le_refl _) hlt
      simp at this ⊢
      exact this
    have hw : (w.setCell ⟨b, base + n, none⟩ v).heap[b]? = some (.cells (arr.setIfInBounds (base + n) v) el fz) := by
      have hbl : b < w.heap.size := (Array.getElem?_eq_some_iff.1 hb).1
      simp [World.setCell, Array.getElem?_modify, hb]
    have hother : ∀ b', b' ≠ b → (w.setCell ⟨b, base + n, none⟩ v).heap[b']? = w.heap[b']? := by
      intro b' hne
      simp only [World.setCell, Array.getElem?_modify]
      rw [if_neg (fun h => hne h.symm)]
    obtain ⟨w', arr', r1, r2, r3, r4, r5, r6, r7⟩ := run_storeCells b base el fz vs (n + 1) (w.setCell ⟨b, base + n, none⟩ v) (arr.setIfInBounds (base + n) v) hw
      (by simp at hl ⊢; omega) (fun j hj hj2 => hu j (by omega) (by simpa using hj2)) (fun u hu' => h1 u (List.mem_cons_of_mem _ hu'))
    refine ⟨w', arr', ?_, ?_, fun b' hne => by rw [r3 b' hne, hother b' hne], r4, by simpa using r5, fun j => ?_, ⟨r7.1, r7.2⟩⟩
    · simp only [storeCells, Sem.run_bind, ha, run_store P w _ v .plain (h1 v (List.mem_cons_self ..)), hc, hf, Bool.false_eq_true, if_false, Result.andThen_ok]
      exact r1
    · rw [r2]; simp [World.setCell]
    · rw [r6 j]
      simp only [List.length_cons]
      by_cases hj : j = base + n
      · subst hj
        rw [if_neg (by omega), if_pos (by omega)]
        simp [hlt]
      · by_cases hj2 : base + n ≤ j ∧ j < base + n + (vs.length + 1)
        · rw [if_pos (by omega), if_pos hj2, show j - (base + n) = (j - (base + (n + 1))) + 1 by omega]
          simp
        · rw [if_neg (by omega), if_neg hj2, Array.getElem?_setIfInBounds_ne (fun h => hj h.symm)]

theorem add_none (b o n : Nat) : ({ block := b, off := o, spot := none } : Addr).add n = ⟨b, o + n, none⟩ := by
  unfold Addr.add; split <;> simp_all

/-- loading a variable whose cells are known -/
theorem run_loadVar {P : Program} {t : TypeId} {i : TI U} (hi : TIok P t i) (w : World) (b o : Nat) (vs : List Value) (hl : vs.length = i.size)
    (hc : ∀ j v, vs[j]? = some v → w.cell? ⟨b, o + j, none⟩ = some v) :
    (loadVar t ⟨b, o, none⟩).run P w = .ok (if i.tk.isAgg then .agg vs.toArray else vs.headD default) w := by
  simp only [loadVar, Sem.run_bind, hi.run_isAgg, Result.andThen_ok]
  cases hk : i.tk.isAgg with
  | true =>
    simp only [if_true, Sem.run_bind, hi.run_sizeOf, Result.andThen_ok]
    have := run_loadCells_list (P := P) w ⟨b, o, none⟩ vs (fun j v hj => by rw [add_none]; exact hc j v hj)
    rw [hl] at this
    rw [this]
    rfl
  | false =>
    simp only [Bool.false_eq_true, if_false, run_load]
    have h1 := hl.trans (hi.one hk)
    match vs, h1 with
    | [v], _ =>
      have := hc 0 v rfl
      simp only [Nat.add_zero] at this
      rw [this]
      rfl

end Am
