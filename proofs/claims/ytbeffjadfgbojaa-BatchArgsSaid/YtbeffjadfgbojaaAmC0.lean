/- slices.Sort and slices.Compact at []string: functions that turn a row. -/
import Derived.Test.YtbeffjadfgbojaaAmG
import Derived.Test.YtbeffjadfgbojaaAmE3
import Derived.Test.YtbeffjadfgbojaaChecked
import Derived.Shelf.Sort.Plain
import Derived.Shelf.Slices.CompactS
namespace Am
open Go Go.Proofs
set_option maxRecDepth 100000

def ren190 : Shelf.Ren := { f := fun x => match x with | 190 => 31 | 125 => 53 | 258 => 52 | 128 => 70 | 129 => 71 | 302 => 61 | 303 => 62 | 304 => 63 | 305 => 64 | 306 => 65 | 307 => 66 | 308 => 67 | 309 => 68 | 310 => 69 | 333 => 73 | 329 => 74 | 330 => 75 | 334 => 76 | 335 => 77 | 336 => 78 | 344 => 79 | n => n, t := fun x => match x with | 31 => 67 | 9 => 9 | 3 => 3 | 46 => 123 | 0 => 0 | 51 => 141 | 53 => 143 | 4 => 4 | 183 => 134 | 182 => 133 | 131 => 77 | 5 => 5 | 218 => 145 | 222 => 81 | 228 => 150 | 229 => 151 | n => n, g := fun x => x }
theorem lays190 : Lays.n190 Try.prog ren190 :=
  { mixed := by kernel_rfl,
    f125 := Try.func53.trans (congrArg some (by kernel_rfl)),
    f128 := Try.func70.trans (congrArg some (by kernel_rfl)),
    f129 := Try.func71.trans (congrArg some (by kernel_rfl)),
    f190 := Try.func31.trans (congrArg some (by kernel_rfl)),
    f258 := Try.func52.trans (congrArg some (by kernel_rfl)),
    f302 := Try.func61.trans (congrArg some (by kernel_rfl)),
    f303 := Try.func62.trans (congrArg some (by kernel_rfl)),
    f304 := Try.func63.trans (congrArg some (by kernel_rfl)),
    f305 := Try.func64.trans (congrArg some (by kernel_rfl)),
    f306 := Try.func65.trans (congrArg some (by kernel_rfl)),
    f307 := Try.func66.trans (congrArg some (by kernel_rfl)),
    f308 := Try.func67.trans (congrArg some (by kernel_rfl)),
    f309 := Try.func68.trans (congrArg some (by kernel_rfl)),
    f310 := Try.func69.trans (congrArg some (by kernel_rfl)),
    f329 := Try.func74.trans (congrArg some (by kernel_rfl)),
    f330 := Try.func75.trans (congrArg some (by kernel_rfl)),
    f333 := Try.func73.trans (congrArg some (by kernel_rfl)),
    f334 := Try.func76.trans (congrArg some (by kernel_rfl)),
    f335 := Try.func77.trans (congrArg some (by kernel_rfl)),
    f336 := Try.func78.trans (congrArg some (by kernel_rfl)),
    f344 := Try.func79.trans (congrArg some (by kernel_rfl)),
    t0 := Try.underlying0,
    a0 := Try.isAgg0,
    z0 := Try.sizeOf0,
    v0 := Try.zeroValue0,
    t3 := Try.underlying3,
    a3 := Try.isAgg3,
    z3 := Try.sizeOf3,
    v3 := Try.zeroValue3,
    t4 := Try.underlying4,
    a4 := Try.isAgg4,
    z4 := Try.sizeOf4,
    v4 := Try.zeroValue4,
    t5 := Try.underlying5,
    a5 := Try.isAgg5,
    z5 := Try.sizeOf5,
    v5 := Try.zeroValue5,
    t9 := Try.underlying9,
    a9 := Try.isAgg9,
    z9 := Try.sizeOf9,
    v9 := Try.zeroValue9,
    t31 := Try.underlying67,
    a31 := Try.isAgg67,
    z31 := Try.sizeOf67,
    v31 := Try.zeroValue67,
    t46 := Try.underlying123,
    a46 := Try.isAgg123,
    z46 := Try.sizeOf123,
    v46 := Try.zeroValue123,
    t51 := Try.underlying141,
    a51 := Try.isAgg141,
    z51 := Try.sizeOf141,
    v51 := Try.zeroValue141,
    t53 := Try.underlying143,
    a53 := Try.isAgg143,
    z53 := Try.sizeOf143,
    v53 := Try.zeroValue143,
    t131 := Try.underlying77,
    a131 := Try.isAgg77,
    z131 := Try.sizeOf77,
    v131 := Try.zeroValue77,
    t182 := Try.underlying133,
    a182 := Try.isAgg133,
    z182 := Try.sizeOf133,
    v182 := Try.zeroValue133,
    t183 := Try.underlying134,
    a183 := Try.isAgg134,
    z183 := Try.sizeOf134,
    v183 := Try.zeroValue134,
    t218 := Try.underlying145,
    a218 := Try.isAgg145,
    z218 := Try.sizeOf145,
    v218 := Try.zeroValue145,
    t222 := Try.underlying81,
    a222 := Try.isAgg81,
    z222 := Try.sizeOf81,
    v222 := Try.zeroValue81,
    t228 := Try.underlying150,
    a228 := Try.isAgg150,
    z228 := Try.sizeOf150,
    v228 := Try.zeroValue150,
    t229 := Try.underlying151,
    a229 := Try.isAgg151,
    z229 := Try.sizeOf151,
    v229 := Try.zeroValue151 }

def ren194 : Shelf.Ren := { f := fun x => match x with | 194 => 32 | n => n, t := fun x => match x with | 31 => 67 | 9 => 9 | 3 => 3 | 4 => 4 | 0 => 0 | n => n, g := fun x => x }
theorem lays194 : Lays.n194 Try.prog ren194 :=
  { mixed := by kernel_rfl,
    f194 := Try.func32.trans (congrArg some (by kernel_rfl)),
    t0 := Try.underlying0,
    a0 := Try.isAgg0,
    z0 := Try.sizeOf0,
    v0 := Try.zeroValue0,
    t3 := Try.underlying3,
    a3 := Try.isAgg3,
    z3 := Try.sizeOf3,
    v3 := Try.zeroValue3,
    t4 := Try.underlying4,
    a4 := Try.isAgg4,
    z4 := Try.sizeOf4,
    v4 := Try.zeroValue4,
    t9 := Try.underlying9,
    a9 := Try.isAgg9,
    z9 := Try.sizeOf9,
    v9 := Try.zeroValue9,
    t31 := Try.underlying67,
    a31 := Try.isAgg67,
    z31 := Try.sizeOf67,
    v31 := Try.zeroValue67 }

theorem mixed : Try.prog.follows .mixedOrders = true := Checked.mixed Try.checked

/-- the environment without anything given -/
noncomputable def E0 (cons : List (Nat × Con UU)) : Env UU := mkEnv tiTree fnTree cons []
theorem E0_ok {cons : List (Nat × Con UU)} (h : ConsOK Try.prog cons) : EnvOK Try.prog (E0 cons) := mkEnv_ok ti_ok flat_ok fn_ok h
theorem E0_cuts {cons : List (Nat × Con UU)} : CutsOK Try.prog (E0 cons) := mkEnv_cuts trivial

def sortS (xs : List (List UInt8)) : List (List UInt8) := xs.mergeSort fun x y => decide (x ≤ y)
def sortP (xs : List (List UInt8)) : Option (List (List UInt8)) := chk (decide (xs.length < 4611686018427387904)) (some (sortS xs))
def compactP (xs : List (List UInt8)) : Option (List (List UInt8)) := chk (decide (xs.length < 4611686018427387904)) (some (Lib.compact xs))

/-- what the library's words for a row that was written say of the world -/
theorem put_world {w : World} {b ob n : Nat} {arr : Array Value} {el : TypeId} {fz : Nat × Nat} {d : Array (List UInt8)} {os : Array Obj} (hb : w.heap[b]? = some (.cells arr el fz)) :
    ∃ arr', (Sort.grow (Sort.putRow encStr (Sort.ahead w n) b ob d) os).heap[b]? = some (.cells arr' el fz) ∧ arr'.size = arr.size ∧ (∀ j, arr'[j]? = if ob ≤ j ∧ j < ob + d.size then (if j < arr.size then some (encStr d[j - ob]!) else none) else arr[j]?) ∧
      w.heap.size ≤ (Sort.grow (Sort.putRow encStr (Sort.ahead w n) b ob d) os).heap.size ∧ (∀ b', b' < w.heap.size → b' ≠ b → (Sort.grow (Sort.putRow encStr (Sort.ahead w n) b ob d) os).heap[b']? = w.heap[b']?) ∧ sameIO w (Sort.grow (Sort.putRow encStr (Sort.ahead w n) b ob d) os) := by
  have hlt : b < w.heap.size := (Array.getElem?_eq_some_iff.1 hb).1
  have hsz : (Sort.putRow encStr (Sort.ahead w n) b ob d).heap.size = w.heap.size := by rw [Sort.size_putRow]; rfl
  have hput : ∀ b', (Sort.putRow encStr (Sort.ahead w n) b ob d).heap[b']? = if b = b' then (w.heap[b']?).map (Sort.onCells (Sort.putCells encStr ob d)) else w.heap[b']? := by
    intro b'
    show (w.heap.modify b (Sort.onCells (Sort.putCells encStr ob d)))[b']? = _
    rw [Array.getElem?_modify]
  refine ⟨Sort.putCells encStr ob d arr, ?_, by simp [Sort.putCells], fun j => ?_, by rw [Sort.size_grow, hsz]; omega, fun b' hb' hne => ?_, ⟨rfl, rfl⟩⟩
  · rw [Sort.heap_grow_old _ _ (by rw [hsz]; exact hlt), hput, if_pos rfl, hb]; rfl
  · unfold Sort.putCells
    rw [Array.getElem?_mapIdx]
    by_cases hj : j < arr.size
    · rw [Array.getElem?_eq_getElem hj]
      simp only [Option.map_some, hj, if_true]
      split <;> rfl
    · rw [Array.getElem?_eq_none (by omega)]
      simp [hj]
  · rw [Sort.heap_grow_old _ _ (by rw [hsz]; exact hb'), hput, if_neg (fun h => hne h.symm)]

/-- the row as the library says it -/
theorem holds_of {e : En} {k b ob cap : Nat} {arr : Array Value} {el : TypeId} {fz : Nat × Nat} {xs : List (List UInt8)} (hb : e.w.heap[b]? = some (.cells arr el fz)) (hle : ob + xs.length ≤ arr.size) (hu : unfrozen fz ob arr.size)
    (hel : ∀ (i : Nat) (x : List UInt8), xs[i]? = some x → CellsAt e arr (ob + i * 1) (enc (U := UU) Ty.str x)) : Sort.Holds encStr e.w b ob xs.toArray := by
  intro j hj
  have hj : j < xs.length := by simpa using hj
  obtain ⟨v, h1, h2⟩ := hel j xs[j] (List.getElem?_eq_getElem hj) 0 (.str xs[j]) rfl
  rw [Nat.mul_one, Nat.add_zero] at h1
  have h2 : Rel (U := UU) e (.str xs[j]) v := h2
  rw [h2.str_inv] at h1
  constructor
  · rw [cell_of_arr hb, h1]
    have : xs.toArray[j]! = xs[j] := by simp [hj]
    rw [this]
  · unfold World.frozen?
    obtain ⟨lo, hi⟩ := fz
    simp only [hb]
    have := hu (ob + j) (by omega) (by omega)
    simp at this ⊢
    exact this

/-- rows of strings, out of their cells -/
theorem cells_str {e : En} {arr : Array Value} {o : Nat} {x : List UInt8} (h : arr[o]? = some (encStr x)) : CellsAt e arr o (enc (U := UU) Ty.str x) := by
  intro j c hc
  cases j with
  | zero =>
    have hc : some (AV.str (U := UU) x) = some c := hc
    cases hc
    exact ⟨encStr x, by simpa using h, .str⟩
  | succ j => cases hc

/-- a call of a function of one row of strings that does nothing with an empty one -/
theorem empty_call {f : FuncId} {C : Con UU} (hC : ConOK Try.prog f C) {r : C.β} (ha : C.app [.fsl Ty.str []] = some r) (hno : C.own r = none) {e : En} (hw : WF e) {c : Value} (hr : Rel (U := UU) e (.fsl Ty.str []) c) {Post : Ending → World → Prop}
    (hP : ∀ (c' : Value) (e' : En), WF e' → Evo noD e e' → Rel e' (C.ret r) c' → (∀ k, e'.m k = e.m k) → Post (.returned c') e'.w) : Calls Try.prog f #[c] e.w Post :=
  con_call hC (H := []) (args := [.fsl Ty.str []]) (args' := [.fsl Ty.str []]) (.inr rfl) rfl ha hno e #[c] hw (fun k b h => by simp [Heap.get] at h) (RelL.cons hr RelL.nil) Post hP

noncomputable def conS0 : Con UU := conOf [.cell (.sl Ty.str)] (.many []) (fun x => match x.1 with | [] => some () | _ :: _ => none)
noncomputable def conK0 : Con UU := conOf [.cell (.sl Ty.str)] (.one (.cell (.sl Ty.str))) (fun x => match x.1 with | [] => some [] | _ :: _ => none)

theorem body_some {o : Option Code} (h : o.isSome = true) : ∃ c, o = some c := by cases o with | none => cases h | some c => exact ⟨c, rfl⟩

theorem conS0_ok : ConOK Try.prog 31 conS0 := by
  obtain ⟨body, hb⟩ := body_some (show Try.f31.body.isSome = true by kernel_rfl)
  refine con_alts_ok (G := E0 []) (E0_ok trivial) E0_cuts mixed (fn := Try.f31) Try.func31 hb name31 rfl rfl (n := 400) (by kernel_rfl) [] (fun bs x r _ _ h => ?_)
  obtain ⟨xs, u⟩ := x
  cases xs with
  | cons a l => cases h
  | nil =>
    have h : some () = some r := h
    rw [← h]
    show run (E0 []) 400 31 [.fsl Ty.str []] [] (endK (.many [])) = some ()
    kernel_rfl

theorem conK0_ok : ConOK Try.prog 32 conK0 := by
  obtain ⟨body, hb⟩ := body_some (show Try.f32.body.isSome = true by kernel_rfl)
  refine con_alts_ok (G := E0 []) (E0_ok trivial) E0_cuts mixed (fn := Try.f32) Try.func32 hb name32 rfl rfl (n := 400) (by kernel_rfl) [] (fun bs x r _ _ h => ?_)
  obtain ⟨xs, u⟩ := x
  cases xs with
  | cons a l => cases h
  | nil =>
    have h : some ([] : List (List UInt8)) = some r := h
    rw [← h]
    show run (E0 []) 400 32 [.fsl Ty.str []] [] (endK (.one (.cell (.sl Ty.str)))) = some ([] : List (List UInt8))
    kernel_rfl

theorem sortS_length (xs : List (List UInt8)) : (sortS xs).length = xs.length := List.length_mergeSort _

theorem chk_some {R : Type} {b : Bool} {x : Option R} {r : R} (h : chk b x = some r) : b = true ∧ x = some r := by
  cases b with
  | true => exact ⟨rfl, h⟩
  | false => cases h

def procS : Proc UU := ⟨Ty.str, sortP, false⟩
def procK : Proc UU := ⟨Ty.str, compactP, true⟩

/-- the pointer to the row is where the block is -/
theorem row_at {e : En} {k : Nat} {c : Value} {xs : List (List UInt8)} (hr : Rel (U := UU) e (.mrow k 1) c) (hb : BlkOK (U := UU) e k (.row Ty.str xs)) : Rel (U := UU) e (.fsl Ty.str []) c ∧ xs = [] ∨
    ∃ (b ob cap : Nat) (arr : Array Value) (el : TypeId) (fz : Nat × Nat), xs ≠ [] ∧ c = .slice (some ⟨b, ob, none⟩) xs.length cap ∧ e.m k = some (.at b ob) ∧ e.n k = xs.length ∧ xs.length ≤ cap ∧ ob + cap ≤ arr.size ∧ e.w.heap[b]? = some (.cells arr el fz) ∧ ob + xs.length ≤ arr.size ∧ unfrozen fz ob arr.size ∧
      (∀ (i : Nat) (x : List UInt8), xs[i]? = some x → CellsAt e arr (ob + i * 1) (enc (U := UU) Ty.str x)) := by
  obtain ⟨hn, hb⟩ := hb
  have hn : e.n k = xs.length := hn
  cases hr with
  | mrowDead hm => rcases hb with ⟨h1, _⟩ | ⟨_, _, _, _, _, h1, _⟩ <;> rw [hm] at h1 <;> cases h1
  | mrowE hm h0 => exact .inl ⟨.fslE (fun _ => rfl), List.length_eq_zero_iff.1 (by rw [← hn]; exact h0)⟩
  | @mrow _ _ cap b ob hm hl hf =>
    cases hx : xs with
    | nil => rw [hx] at hn; rw [hn]; exact .inl ⟨.fslE (fun h => by cases h), rfl⟩
    | cons x l =>
      right
      rw [← hx]
      rcases hb with ⟨h1, _⟩ | ⟨b', ob', arr, el, fz, h1, h2, h3, h4, h5⟩
      · rw [hm] at h1; cases h1
      · rw [hm] at h1; cases h1
        obtain ⟨arr', el', fz', g1, g2⟩ := hf
        rw [h2] at g1; cases g1
        refine ⟨b, ob, cap, arr, el, fz, by rw [hx]; simp, by rw [hn], hm, hn, by rw [← hn]; exact hl, by simpa using g2, h2, ?_, h4, h5⟩
        have h3 : ob + xs.length * 1 ≤ arr.size := h3
        omega

theorem procS_ok : ProcOK Try.prog 31 procS := by
  refine ⟨conS0_ok.enters, fun e k c (xs ys : List (List UInt8)) hw hr hb hfn Post hP => ?_⟩
  obtain ⟨hlen, hys⟩ := chk_some (show chk _ _ = some ys from hfn)
  have hys : sortS xs = ys := Option.some.inj hys
  have hlen := of_decide_eq_true hlen
  rcases row_at hr hb with ⟨h1, h2⟩ | ⟨b, ob, cap, arr, el, fz, hne, rfl, hm, hn, hc, hfit, h2, h3, h4, h5⟩
  · refine empty_call conS0_ok (r := ()) (by kernel_rfl) rfl hw h1 (fun c' e' hw' hE hv hm => ?_)
    refine hP c' e' hw' (hE.weaken fun _ hh => absurd hh id) (fun j _ => hm j) (fun h => by cases h) (fun _ => ⟨hv, ?_⟩)
    have hy : ys = xs := by rw [← hys, h2]; unfold sortS; simp
    rw [hy]
    exact hb.mono hE hw id
  · have hH := holds_of (e := e) (k := k) (cap := cap) h2 h3 h4 h5
    have hlt : b < e.w.heap.size := (Array.getElem?_eq_some_iff.1 h2).1
    refine (Any.slices_Sort_string lays190 b ob cap xs e.w hH hlt hlen).mono fun en w' ⟨he, n, os, hw'⟩ => ?_
    subst he
    obtain ⟨arr', g1, g2, g3, g4, g5, g6⟩ := put_world (n := n) (ob := ob) (d := (xs.mergeSort fun x y => decide (x ≤ y)).toArray) (os := os) h2
    rw [← hw'] at g1 g4 g5 g6
    have hyl : ys.length = xs.length := by rw [← hys]; exact sortS_length xs
    have hE : Evo (fun j => j = k) e { e with w := w' } := by
      refine ⟨g4, fun b' hb' hk => g5 b' hb' (by rintro rfl; exact hk k ob rfl hm), fun b' a2 el2 fz2 h => ?_, fun _ _ h => .inl h, fun _ _ _ => rfl, fun _ _ _ h => .inl h, fun _ h => h, fun _ h => .inl h, g6⟩
      by_cases hbb : b' = b
      · subst hbb
        rw [h2] at h; cases h
        exact ⟨arr', g1, g2⟩
      · exact ⟨a2, by rw [← h]; exact g5 b' (Array.getElem?_eq_some_iff.1 h).1 hbb, rfl⟩
    have hW : WF { e with w := w' } := ⟨fun b hb => Nat.lt_of_lt_of_le (hw.iLt b hb) g4, fun k b o h => Nat.lt_of_lt_of_le (hw.mLt k b o h) g4, hw.mI, hw.inj⟩
    refine hP (.tuple #[]) { e with w := w' } hW hE (fun _ _ => rfl) (fun h => by cases h) (fun _ => ⟨Rel.of_tup RelL.nil, ?_⟩)
    refine ⟨by show e.n k = ys.length; rw [hyl]; exact hn, .inr ⟨b, ob, arr', el, fz, hm, g1, ?_, by rw [g2]; exact h4, fun i x hx => ?_⟩⟩
    · show ob + ys.length * 1 ≤ arr'.size
      rw [hyl, g2]; omega
    · have hi : i < List.length (α := List UInt8) ys := (List.getElem?_eq_some_iff (α := List UInt8).1 hx).1
      have hd : (xs.mergeSort fun x y => decide (x ≤ y)).toArray.size = xs.length := by simp
      refine cells_str ?_
      show arr'[ob + i * 1]? = _
      have hys' : xs.mergeSort (fun x y => decide (x ≤ y)) = ys := hys
      rw [g3, if_pos ⟨by omega, by rw [hd]; omega⟩, if_pos (by omega), hys']
      have hxx : ys[i] = x := (List.getElem?_eq_some_iff (α := List UInt8).1 hx).2
      have hlast : ys.toArray[ob + i * 1 - ob]! = x := by
        rw [show ob + i * 1 - ob = i by omega]
        exact (getElem!_pos ys.toArray i (by simpa using hi)).trans hxx
      exact congrArg (fun y => some (encStr y)) hlast

theorem compact_le (xs : List (List UInt8)) : (Lib.compact xs).length ≤ xs.length := by
  unfold Lib.compact Lib.compactUpTo
  rw [List.length_map]
  exact Nat.le_trans (List.length_filter_le _ _) (by simp)

theorem procK_ok : ProcOK Try.prog 32 procK := by
  refine ⟨conK0_ok.enters, fun e k c (xs ys : List (List UInt8)) hw hr hb hfn Post hP => ?_⟩
  obtain ⟨hlen, hys⟩ := chk_some (show chk _ _ = some ys from hfn)
  have hys : Lib.compact xs = ys := Option.some.inj hys
  have hlen := of_decide_eq_true hlen
  have dead : ∀ {e1 : En} {I : Nat → Prop}, WF e1 → Evo noD e e1 → (∀ j, e1.m j = e.m j) → (∀ b, I b → e1.I b) → (∀ b, e.I b → I b) → (∀ b, I b → e.I b ∨ e.w.heap.size ≤ b) →
      WF { w := e1.w, m := fun j => if j = k then some .dead else e.m j, n := e.n, I := I } ∧ Evo (fun j => j = k) e { w := e1.w, m := fun j => if j = k then some .dead else e.m j, n := e.n, I := I } := by
    intro e1 I hw1 hE hm hI1 hI2 hI3
    refine ⟨⟨fun b hb => hw1.iLt b (hI1 b hb), fun j b o h => ?_, fun j b o h hb => ?_, fun j j' b o o' h h' => ?_⟩, ⟨hE.size, fun b hb _ => hE.keep b hb (fun k o hD => absurd hD id), hE.shape, fun j l h => ?_, fun _ _ _ => rfl, fun j b o h => ?_, hI2, fun b hb => (hI3 b hb).imp id .inl, hE.io⟩⟩
    · dsimp only at h
      split at h
      · cases h
      · rw [← hm j] at h; exact hw1.mLt j b o h
    · dsimp only at h
      split at h
      · cases h
      · rw [← hm j] at h; exact hw1.mI j b o h (hI1 b hb)
    · dsimp only at h h'
      split at h
      · cases h
      · split at h'
        · cases h'
        · exact hw.inj j j' b o o' h h'
    · dsimp only
      split
      · rename_i hj; exact .inr ⟨hj, rfl⟩
      · exact .inl h
    · dsimp only at h
      split at h
      · cases h
      · exact .inl h
  rcases row_at hr hb with ⟨h1, h2⟩ | ⟨b, ob, cap, arr, el, fz, hne, rfl, hm, hn, hc, hfit, h2, h3, h4, h5⟩
  · refine empty_call conK0_ok (r := []) (by kernel_rfl) rfl hw h1 (fun c' e' hw' hE hv hm => ?_)
    have hy : ys = [] := by rw [← hys, h2]; rfl
    obtain ⟨q1, q2⟩ := dead (I := e'.I) hw' hE hm (fun _ h => h) hE.iOld (fun b hb => by
      rcases hE.iNew b hb with h | h | ⟨_, _, h, _⟩
      · exact .inl h
      · exact .inr h
      · exact absurd h id)
    refine hP c' { w := e'.w, m := fun j => if j = k then some .dead else e.m j, n := e.n, I := e'.I } q1 q2 (fun j hj => by simp [hj]) (fun _ => ?_) (fun h => by cases h)
    have hv : Rel (U := UU) e' (.fsl Ty.str []) c' := hv
    show Rel (U := UU) _ (.fsl Ty.str ys) c'
    rw [hy]
    exact hv.still (e := e') (e' := { w := e'.w, m := fun j => if j = k then some .dead else e.m j, n := e.n, I := e'.I }) (fun _ h => h) (fun _ _ => rfl) rfl
  · have hH := holds_of (e := e) (k := k) (cap := cap) h2 h3 h4 h5
    have hlt : b < e.w.heap.size := (Array.getElem?_eq_some_iff.1 h2).1
    refine (Any.slices_Compact_string lays194 b ob cap xs e.w hH (by omega) hc).mono fun en w' ⟨he, n, hw'⟩ => ?_
    subst he
    have hw' : w' = Sort.grow (Sort.putRow encStr (Sort.ahead e.w n) b ob (Lib.compact xs ++ List.replicate (xs.length - (Lib.compact xs).length) []).toArray) #[] := by rw [Sort.grow_empty]; exact hw'
    obtain ⟨arr', g1, g2, g3, g4, g5, g6⟩ := put_world (n := n) (ob := ob) (d := (Lib.compact xs ++ List.replicate (xs.length - (Lib.compact xs).length) []).toArray) (os := #[]) h2
    rw [← hw'] at g1 g4 g5 g6
    have hyl : ys.length ≤ xs.length := by rw [← hys]; exact compact_le xs
    have hWE : WF { w := w', m := fun j => if j = k then some .dead else e.m j, n := e.n, I := fun b' => e.I b' ∨ b' = b } ∧ Evo (fun j => j = k) e { w := w', m := fun j => if j = k then some .dead else e.m j, n := e.n, I := fun b' => e.I b' ∨ b' = b } := by
      refine ⟨⟨fun b' hb' => ?_, fun j b' o h => ?_, fun j b' o h hb' => ?_, fun j j' b' o o' h h' => ?_⟩, ⟨g4, fun b' hb' hk => g5 b' hb' (by rintro rfl; exact hk k ob rfl hm), fun b' a2 el2 fz2 h => ?_, fun j l h => ?_, fun _ _ _ => rfl, fun j b' o h => ?_, fun _ h => .inl h, fun b' hb' => ?_, g6⟩⟩
      · rcases hb' with h | h
        · exact Nat.lt_of_lt_of_le (hw.iLt b' h) g4
        · subst h; exact Nat.lt_of_lt_of_le hlt g4
      · dsimp only at h
        split at h
        · cases h
        · exact Nat.lt_of_lt_of_le (hw.mLt j b' o h) g4
      · dsimp only at h
        split at h
        · cases h
        · rename_i hj
          rcases hb' with h' | h'
          · exact hw.mI j b' o h h'
          · subst h'; exact hj (hw.inj j k b' o ob h hm)
      · dsimp only at h h'
        split at h
        · cases h
        · split at h'
          · cases h'
          · exact hw.inj j j' b' o o' h h'
      · by_cases hbb : b' = b
        · subst hbb
          rw [h2] at h; cases h
          exact ⟨arr', g1, g2⟩
        · exact ⟨a2, by rw [← h]; exact g5 b' (Array.getElem?_eq_some_iff.1 h).1 hbb, rfl⟩
      · dsimp only
        split
        · rename_i hj; exact .inr ⟨hj, rfl⟩
        · exact .inl h
      · dsimp only at h
        split at h
        · cases h
        · exact .inl h
      · rcases hb' with h | h
        · exact .inl h
        · subst h; exact .inr (.inr ⟨k, ob, rfl, hm⟩)
    refine hP _ { w := w', m := fun j => if j = k then some .dead else e.m j, n := e.n, I := fun b' => e.I b' ∨ b' = b } hWE.1 hWE.2 (fun j hj => by simp [hj]) (fun _ => ?_) (fun h => by cases h)
    rw [hys]
    refine Rel.mk_fsl (U := UU) (e := { w := w', m := fun j => if j = k then some .dead else e.m j, n := e.n, I := fun b' => e.I b' ∨ b' = b }) (t := Ty.str) (xs := ys) (b := b) (ob := ob) (.inr rfl) (Nat.le_trans hyl hc) (fun i x hx j y hy => ?_)
    have hi : i < List.length (α := List UInt8) ys := (List.getElem?_eq_some_iff (α := List UInt8).1 hx).1
    cases j with
    | succ j => cases hy
    | zero =>
      have hy : some (AV.str (U := UU) x) = some y := hy
      cases hy
      refine ⟨encStr x, ?_, .str⟩
      have hd : (Lib.compact xs ++ List.replicate (xs.length - (Lib.compact xs).length) []).toArray.size = xs.length := by
        have := compact_le xs
        simp; omega
      have hxx : ys[i] = x := (List.getElem?_eq_some_iff (α := List UInt8).1 hx).2
      rw [cell_of_arr g1]
      show arr'[ob + i * 1 + 0]? = _
      rw [g3, if_pos ⟨by omega, by rw [hd]; omega⟩, if_pos (by omega), hys]
      have hlast : ∀ (l : List (List UInt8)) (h : i < l.length) (m : Nat), (l ++ List.replicate m ([] : List UInt8)).toArray[i]! = l[i] := fun l h m => by
        rw [getElem!_pos _ i (by simp; omega)]
        simp [h]
      have hlast2 := (hlast ys hi (xs.length - List.length (α := List UInt8) ys)).trans hxx
      rw [show ob + i * 1 + 0 - ob = i by omega]
      exact congrArg (fun y => some (encStr y)) hlast2

def procs (f : FuncId) : Option (Proc UU) := match Nat.beq f 31 with
  | true => some procS
  | false => match Nat.beq f 32 with
    | true => some procK
    | false => none

theorem procs_ok : ∀ f p, procs f = some p → ProcOK Try.prog f p := by
  intro f p h
  unfold procs at h
  split at h
  · rename_i hf
    have hf : f = 31 := Nat.eq_of_beq_eq_true hf
    subst hf
    cases h; exact procS_ok
  · split at h
    · rename_i hf
      have hf : f = 32 := Nat.eq_of_beq_eq_true hf
      subst hf
      cases h; exact procK_ok
    · cases h
end Am
