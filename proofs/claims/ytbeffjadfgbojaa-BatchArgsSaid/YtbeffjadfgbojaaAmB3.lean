/- The seat's types as they are read; what a bound on the readings gives. -/
import Derived.Test.YtbeffjadfgbojaaAmB2
import Derived.Test.YtbeffjadfgbojaaAmL7
import Derived.Test.YtbeffjadfgbojaaRows
namespace Am
open Go Go.Proofs
set_option maxRecDepth 100000

def cellEq : Cell Ty → Cell Ty → Bool
  | .int k, .int k' => IntKind.same k k'
  | .bool, .bool => true
  | .str, .str => true
  | .sl a, .sl b => decide (a = b)
  | _, _ => false

def cellsEq : List (Cell Ty) → List (Cell Ty) → Bool
  | [], [] => true
  | a :: l, b :: r => cellEq a b && cellsEq l r
  | _, _ => false

theorem cellEq_spec : ∀ {a b : Cell Ty}, cellEq a b = true → a = b
  | .int k, .int k', h => by
    have : k = k' := by cases k <;> cases k' <;> first | rfl | cases h
    rw [this]
  | .bool, .bool, _ => rfl
  | .str, .str, _ => rfl
  | .sl a, .sl b, h => by rw [of_decide_eq_true h]
  | .int _, .bool, h => by cases h
  | .int _, .str, h => by cases h
  | .int _, .sl _, h => by cases h
  | .bool, .int _, h => by cases h
  | .bool, .str, h => by cases h
  | .bool, .sl _, h => by cases h
  | .str, .int _, h => by cases h
  | .str, .bool, h => by cases h
  | .str, .sl _, h => by cases h
  | .sl _, .int _, h => by cases h
  | .sl _, .bool, h => by cases h
  | .sl _, .str, h => by cases h

theorem cellsEq_spec : ∀ {a b : List (Cell Ty)}, cellsEq a b = true → a = b
  | [], [], _ => rfl
  | a :: l, b :: r, h => by
    unfold cellsEq at h
    rw [Bool.and_eq_true] at h
    rw [cellEq_spec h.1, cellsEq_spec h.2]
  | [], _ :: _, h => by cases h
  | _ :: _, [], h => by cases h

/-- Go's sizes, in bytes -/
def tyBytes : Ty → Nat
  | .action => 872
  | .affine => 48
  | .arg => 24
  | .bind => 32
  | .bool => 1
  | .brush => 144
  | .dynamic => 40
  | .edit => 848
  | .image => 40
  | .int => 8
  | .knot => 16
  | .l_bind => 24
  | .mask => 40
  | .node => 440
  | .pixel => 32
  | .point => 16
  | .rect => 32
  | .sample => 40
  | .seg => 56
  | .stop => 40
  | .str => 16
  | .u8 => 1
  | .warp => 48

def bulk1 (_ : UU.T) : Nat := 1
def bytesB (t : UU.T) : Nat := tyBytes t

noncomputable def shapeB (t : Nat) (i : TI UU) : Bool := match i.ty with
  | some c => match shapeOf (U := UU) tiTree.get 8 t with
    | some s => cellsEq s (tyShape c) && Nat.beq i.bytes (tyBytes c)
    | none => false
  | none => true

theorem shapes_ok : tiTree.all shapeB = true := by kernel_rfl

theorem hsh2 : ∀ (e : TypeId) (i : TI UU) (c : UU.T), (E [] []).ti e = some i → i.ty = some c → shapeOf (U := UU) (E [] []).ti 8 e = some (UU.shape c) ∧ i.bytes = bytesB c := by
  intro e i c hi hc
  have h := tiTree.all_get shapes_ok hi
  unfold shapeB at h
  rw [hc] at h
  dsimp only at h
  split at h
  · rename_i s hs
    rw [Bool.and_eq_true] at h
    have := cellsEq_spec h.1
    subst this
    exact ⟨hs, Nat.eq_of_beq_eq_true h.2⟩
  · cases h

theorem hsh : ∀ (e : TypeId) (i : TI UU) (c : UU.T), (E [] []).ti e = some i → i.ty = some c → shapeOf (U := UU) (E [] []).ti 8 e = some (UU.shape c) := fun e i c hi hc => (hsh2 e i c hi hc).1

theorem tis : TIs Try.prog (E [] []) := (E_ok (cons := []) (cuts := []) trivial).ti

theorem hBulk : ∀ (e : TypeId) (i : TI UU) (c : UU.T), (E [] []).ti e = some i → i.ty = some c → (fun _ => 1 : TypeId → Nat) e = bulk1 c := fun _ _ _ _ _ => rfl
theorem hBytes : ∀ (e : TypeId) (i : TI UU) (c : UU.T), (E [] []).ti e = some i → i.ty = some c → Try.prog.bytesOf e = bytesB c := fun e i c hi hc => by
  obtain ⟨inf, h1, _, h2, _⟩ := (tis e i hi).info
  rw [← (hsh2 e i c hi hc).2, ← h2]
  unfold Program.bytesOf
  rw [h1]; rfl

/-! ## The bound -/
open Go.Proofs.Ytbeffjadfgbojaa in
theorem one_le {H : Type} (d : DataW H) : 1 ≤ Rows.uptoBulk d := by
  cases d with
  | lit l => cases l <;> simp [Rows.uptoBulk]
  | nil => simp [Rows.uptoBulk]
  | ptr d => simp [Rows.uptoBulk]
  | slice elems spare => simp [Rows.uptoBulk]
  | agg parts => simp [Rows.uptoBulk]
  | iface t d => simp [Rows.uptoBulk]
  | map entries => simp [Rows.uptoBulk]
  | held h => simp [Rows.uptoBulk]

open Go.Proofs.Ytbeffjadfgbojaa in
theorem bulk_part {H : Type} {d : DataW H} : ∀ {l : List (DataW H)}, d ∈ l → Rows.uptoBulk d ≤ Rows.uptoBulkAll l
  | x :: r, h => by
    simp only [Rows.uptoBulkAll]
    rcases List.mem_cons.1 h with h | h
    · subst h; omega
    · have := bulk_part h; omega

open Go.Proofs.Ytbeffjadfgbojaa in
theorem bulk_length {H : Type} : ∀ (l : List (DataW H)), l.length ≤ Rows.uptoBulkAll l
  | [] => by simp [Rows.uptoBulkAll]
  | x :: r => by have := one_le x; have := bulk_length r; simp only [Rows.uptoBulkAll, List.length_cons]; omega

open Go.Proofs.Ytbeffjadfgbojaa in
theorem smallD {H : Type} : SmallD (H := H) Try.prog 1048576 (fun _ => 1) (fun _ d => Rows.uptoBulk d ≤ 1048576) where
  str t bs h := by simp only [Rows.uptoBulk] at h; omega
  slice t e es sp _ h := by
    simp only [Rows.uptoBulk] at h
    have := bulk_length es
    exact ⟨by omega, fun d hd => by have := bulk_part hd; omega⟩
  struct t fs ps _ h i f d _ hd := by
    simp only [Rows.uptoBulk] at h
    have := bulk_part (List.mem_of_getElem? hd); omega
  array t n e ps _ h d hd := by
    simp only [Rows.uptoBulk] at h
    have := bulk_part hd; omega

theorem weightsAll_mem {H : Type} {P : Program} {e : TypeId} {d : DataW H} {n : Nat} (hn : n ∈ d.weights P e) : ∀ {l : List (DataW H)}, d ∈ l → n ∈ DataW.weightsAll P e l
  | x :: r, h => by
    unfold DataW.weightsAll
    rcases List.mem_cons.1 h with h | h
    · subst h; exact List.mem_append_left _ hn
    · exact List.mem_append_right _ (weightsAll_mem hn h)

theorem weightsEach_mem {H : Type} {P : Program} {t : TypeId} {d : DataW H} {n : Nat} (hn : n ∈ d.weights P t) : ∀ {ts : List TypeId} {l : List (DataW H)} {i : Nat}, ts[i]? = some t → l[i]? = some d → n ∈ DataW.weightsEach P ts l
  | [], _, i, h, _ => by simp at h
  | _ :: _, [], i, _, h => by simp at h
  | t' :: ts, x :: r, 0, h1, h2 => by
    simp at h1 h2
    subst h1; subst h2
    unfold DataW.weightsEach
    exact List.mem_append_left _ hn
  | t' :: ts, x :: r, i + 1, h1, h2 => by
    unfold DataW.weightsEach
    exact List.mem_append_right _ (weightsEach_mem hn (by simpa using h1) (by simpa using h2))

theorem smallW {H : Type} : SmallD (H := H) Try.prog 140737488351232 Try.prog.bytesOf (fun t d => ∀ n ∈ d.weights Try.prog t, n ≤ 140737488351232) where
  str t bs h := h bs.length (by simp [DataW.weights])
  slice t e es sp hu h := by
    have hw : (DataW.slice es sp).weights Try.prog t = (es.length + sp.length) * Try.prog.bytesOf e :: (DataW.weightsAll Try.prog e es ++ DataW.weightsAll Try.prog e sp) := by
      unfold DataW.weights
      rw [hu]
    refine ⟨?_, fun d hd n hn => h n (by rw [hw]; exact List.mem_cons_of_mem _ (List.mem_append_left _ (weightsAll_mem hn hd)))⟩
    have h1 := h ((es.length + sp.length) * Try.prog.bytesOf e) (by rw [hw]; exact List.mem_cons_self ..)
    have h2 : es.length * Try.prog.bytesOf e ≤ (es.length + sp.length) * Try.prog.bytesOf e := Nat.mul_le_mul_right _ (by omega)
    omega
  struct t fs ps hu h i f d hf hd n hn := by
    refine h n ?_
    have hw : (DataW.agg ps).weights Try.prog t = DataW.weightsEach Try.prog (fs.toList.map (·.type)) ps := by
      unfold DataW.weights
      rw [hu]
    rw [hw]
    exact weightsEach_mem (i := i) hn (by rw [List.getElem?_map, Array.getElem?_toList, hf]; rfl) hd
  array t m e ps hu h d hd n hn := by
    refine h n ?_
    have hw : (DataW.agg ps).weights Try.prog t = DataW.weightsAll Try.prog e ps := by
      unfold DataW.weights
      rw [hu]
    rw [hw]
    exact weightsAll_mem hn hd

theorem small_fsl {N : Nat} {B : UU.T → Nat} {t : UU.T} {xs : List (UU.den t)} (h : SmallV (U := UU) N B (.fsl t xs)) : xs.length * B t ≤ N ∧ ∀ x ∈ xs, ∀ c ∈ enc t x, SmallV N B c := by
  cases h with
  | fsl h1 h2 => exact ⟨h1, h2⟩
theorem small_str {N : Nat} {B : UU.T → Nat} {s : List UInt8} (h : SmallV (U := UU) N B (.str s)) : s.length ≤ N := by cases h; assumption

theorem bind_small {x : Dbind} (h : ∀ c ∈ enc (U := UU) Ty.bind x, SmallV 1048576 bulk1 c) : x.param.length < 9223372036854775807 := by
  have h0 : x.param.length ≤ 1048576 := small_str (h (.str x.param) (List.mem_of_getElem? (i := 1) (by kernel_rfl)))
  omega

theorem edit_small {a : Dedit} (h : ∀ c ∈ enc (U := UU) Ty.edit a, SmallV 1048576 bulk1 c) : EditSm a where
  nmask := by have h0 : a.node.mask.v.length * 1 ≤ 1048576 := (small_fsl (t := Ty.int) (xs := a.node.mask.v) (h (.fsl Ty.int a.node.mask.v) (List.mem_of_getElem? (i := 19) (by kernel_rfl)))).1; omega
  nimage := by have h0 : a.node.image.pix.length * 1 ≤ 1048576 := (small_fsl (t := Ty.pixel) (xs := a.node.image.pix) (h (.fsl Ty.pixel a.node.image.pix) (List.mem_of_getElem? (i := 29) (by kernel_rfl)))).1; omega
  params := by have h0 : a.node.params.length * 1 ≤ 1048576 := (small_fsl (t := Ty.int) (xs := a.node.params) (h (.fsl Ty.int a.node.params) (List.mem_of_getElem? (i := 35) (by kernel_rfl)))).1; omega
  stops := by have h0 : a.node.stops.length * 1 ≤ 1048576 := (small_fsl (t := Ty.stop) (xs := a.node.stops) (h (.fsl Ty.stop a.node.stops) (List.mem_of_getElem? (i := 37) (by kernel_rfl)))).1; omega
  segs := by have h0 : a.node.segs.length * 1 ≤ 1048576 := (small_fsl (t := Ty.seg) (xs := a.node.segs) (h (.fsl Ty.seg a.node.segs) (List.mem_of_getElem? (i := 38) (by kernel_rfl)))).1; omega
  warp := by have h0 : a.node.warp.d.length * 1 ≤ 1048576 := (small_fsl (t := Ty.point) (xs := a.node.warp.d) (h (.fsl Ty.point a.node.warp.d) (List.mem_of_getElem? (i := 50) (by kernel_rfl)))).1; omega
  mask := by have h0 : a.mask.v.length * 1 ≤ 1048576 := (small_fsl (t := Ty.int) (xs := a.mask.v) (h (.fsl Ty.int a.mask.v) (List.mem_of_getElem? (i := 53) (by kernel_rfl)))).1; omega
  image := by have h0 : a.image.pix.length * 1 ≤ 1048576 := (small_fsl (t := Ty.pixel) (xs := a.image.pix) (h (.fsl Ty.pixel a.image.pix) (List.mem_of_getElem? (i := 56) (by kernel_rfl)))).1; omega
  samples := by have h0 : a.samples.length * 1 ≤ 1048576 := (small_fsl (t := Ty.sample) (xs := a.samples) (h (.fsl Ty.sample a.samples) (List.mem_of_getElem? (i := 73) (by kernel_rfl)))).1; omega
  dynamics := by have h0 : a.brush.dynamics.length * 1 ≤ 1048576 := (small_fsl (t := Ty.dynamic) (xs := a.brush.dynamics) (h (.fsl Ty.dynamic a.brush.dynamics) (List.mem_of_getElem? (i := 71) (by kernel_rfl)))).1; omega
  curves := fun x hx => by
    have h1 := (small_fsl (t := Ty.dynamic) (xs := a.brush.dynamics) (h (.fsl Ty.dynamic a.brush.dynamics) (List.mem_of_getElem? (i := 71) (by kernel_rfl)))).2 x hx
    have h0 : x.curve.length * 1 ≤ 1048576 := (small_fsl (t := Ty.knot) (xs := x.curve) (h1 (.fsl Ty.knot x.curve) (List.mem_of_getElem? (i := 2) (by kernel_rfl)))).1
    omega

theorem action_small {a : Daction} (h : ∀ c ∈ enc (U := UU) Ty.action a, SmallV 1048576 bulk1 c) : EditSm a.edit where
  nmask := by have h0 : a.edit.node.mask.v.length * 1 ≤ 1048576 := (small_fsl (t := Ty.int) (xs := a.edit.node.mask.v) (h (.fsl Ty.int a.edit.node.mask.v) (List.mem_of_getElem? (i := 19) (by kernel_rfl)))).1; omega
  nimage := by have h0 : a.edit.node.image.pix.length * 1 ≤ 1048576 := (small_fsl (t := Ty.pixel) (xs := a.edit.node.image.pix) (h (.fsl Ty.pixel a.edit.node.image.pix) (List.mem_of_getElem? (i := 29) (by kernel_rfl)))).1; omega
  params := by have h0 : a.edit.node.params.length * 1 ≤ 1048576 := (small_fsl (t := Ty.int) (xs := a.edit.node.params) (h (.fsl Ty.int a.edit.node.params) (List.mem_of_getElem? (i := 35) (by kernel_rfl)))).1; omega
  stops := by have h0 : a.edit.node.stops.length * 1 ≤ 1048576 := (small_fsl (t := Ty.stop) (xs := a.edit.node.stops) (h (.fsl Ty.stop a.edit.node.stops) (List.mem_of_getElem? (i := 37) (by kernel_rfl)))).1; omega
  segs := by have h0 : a.edit.node.segs.length * 1 ≤ 1048576 := (small_fsl (t := Ty.seg) (xs := a.edit.node.segs) (h (.fsl Ty.seg a.edit.node.segs) (List.mem_of_getElem? (i := 38) (by kernel_rfl)))).1; omega
  warp := by have h0 : a.edit.node.warp.d.length * 1 ≤ 1048576 := (small_fsl (t := Ty.point) (xs := a.edit.node.warp.d) (h (.fsl Ty.point a.edit.node.warp.d) (List.mem_of_getElem? (i := 50) (by kernel_rfl)))).1; omega
  mask := by have h0 : a.edit.mask.v.length * 1 ≤ 1048576 := (small_fsl (t := Ty.int) (xs := a.edit.mask.v) (h (.fsl Ty.int a.edit.mask.v) (List.mem_of_getElem? (i := 53) (by kernel_rfl)))).1; omega
  image := by have h0 : a.edit.image.pix.length * 1 ≤ 1048576 := (small_fsl (t := Ty.pixel) (xs := a.edit.image.pix) (h (.fsl Ty.pixel a.edit.image.pix) (List.mem_of_getElem? (i := 56) (by kernel_rfl)))).1; omega
  samples := by have h0 : a.edit.samples.length * 1 ≤ 1048576 := (small_fsl (t := Ty.sample) (xs := a.edit.samples) (h (.fsl Ty.sample a.edit.samples) (List.mem_of_getElem? (i := 73) (by kernel_rfl)))).1; omega
  dynamics := by have h0 : a.edit.brush.dynamics.length * 1 ≤ 1048576 := (small_fsl (t := Ty.dynamic) (xs := a.edit.brush.dynamics) (h (.fsl Ty.dynamic a.edit.brush.dynamics) (List.mem_of_getElem? (i := 71) (by kernel_rfl)))).1; omega
  curves := fun x hx => by
    have h1 := (small_fsl (t := Ty.dynamic) (xs := a.edit.brush.dynamics) (h (.fsl Ty.dynamic a.edit.brush.dynamics) (List.mem_of_getElem? (i := 71) (by kernel_rfl)))).2 x hx
    have h0 : x.curve.length * 1 ≤ 1048576 := (small_fsl (t := Ty.knot) (xs := x.curve) (h1 (.fsl Ty.knot x.curve) (List.mem_of_getElem? (i := 2) (by kernel_rfl)))).1
    omega

theorem binds_small {a : Daction} (h : ∀ c ∈ enc (U := UU) Ty.action a, SmallV 1048576 bulk1 c) : BindsLen a := fun b hb => bind_small ((small_fsl (t := Ty.bind) (xs := a.binds) (h (.fsl Ty.bind a.binds) (List.mem_of_getElem? (i := 84) (by kernel_rfl)))).2 b hb)

theorem fill_small {a : Daction} {args : List Darg} (h : ∀ c ∈ enc (U := UU) Ty.action a, SmallV 1048576 bulk1 c) (h2 : SmallV (U := UU) 1048576 bulk1 (.fsl Ty.arg args)) : FillSm a args where
  edit := action_small h
  args := by
    have h0 : args.length * 1 ≤ 1048576 := (small_fsl h2).1
    omega
  names := binds_small h

theorem rec_small {l : List Dedit} {binds : List (List Dbind)} (h : SmallV (U := UU) 1048576 bulk1 (.fsl Ty.edit l)) (h2 : SmallV (U := UU) 1048576 bulk1 (.fsl Ty.l_bind binds)) : RecSm l binds where
  len := by
    have h0 : l.length * 1 ≤ 1048576 := (small_fsl h).1
    omega
  edits := fun e he => edit_small ((small_fsl h).2 e he)
  each := fun b hb => by
    have h0 : b.length * 1 ≤ 1048576 := (small_fsl (t := Ty.bind) (xs := b) ((small_fsl h2).2 b hb (.fsl Ty.bind b) (List.mem_of_getElem? (i := 0) (by kernel_rfl)))).1
    omega
  names := fun b hb x hx => bind_small ((small_fsl (t := Ty.bind) (xs := b) ((small_fsl h2).2 b hb (.fsl Ty.bind b) (List.mem_of_getElem? (i := 0) (by kernel_rfl)))).2 x hx)

theorem bind_smallW {x : Dbind} (h : ∀ c ∈ enc (U := UU) Ty.bind x, SmallV 140737488351232 bytesB c) : x.param.length < 9223372036854775807 := by
  have h0 : x.param.length ≤ 140737488351232 := small_str (h (.str x.param) (List.mem_of_getElem? (i := 1) (by kernel_rfl)))
  omega

theorem edit_smallW {a : Dedit} (h : ∀ c ∈ enc (U := UU) Ty.edit a, SmallV 140737488351232 bytesB c) : EditSm a where
  nmask := by have h0 : a.node.mask.v.length * 8 ≤ 140737488351232 := (small_fsl (t := Ty.int) (xs := a.node.mask.v) (h (.fsl Ty.int a.node.mask.v) (List.mem_of_getElem? (i := 19) (by kernel_rfl)))).1; omega
  nimage := by have h0 : a.node.image.pix.length * 32 ≤ 140737488351232 := (small_fsl (t := Ty.pixel) (xs := a.node.image.pix) (h (.fsl Ty.pixel a.node.image.pix) (List.mem_of_getElem? (i := 29) (by kernel_rfl)))).1; omega
  params := by have h0 : a.node.params.length * 8 ≤ 140737488351232 := (small_fsl (t := Ty.int) (xs := a.node.params) (h (.fsl Ty.int a.node.params) (List.mem_of_getElem? (i := 35) (by kernel_rfl)))).1; omega
  stops := by have h0 : a.node.stops.length * 40 ≤ 140737488351232 := (small_fsl (t := Ty.stop) (xs := a.node.stops) (h (.fsl Ty.stop a.node.stops) (List.mem_of_getElem? (i := 37) (by kernel_rfl)))).1; omega
  segs := by have h0 : a.node.segs.length * 56 ≤ 140737488351232 := (small_fsl (t := Ty.seg) (xs := a.node.segs) (h (.fsl Ty.seg a.node.segs) (List.mem_of_getElem? (i := 38) (by kernel_rfl)))).1; omega
  warp := by have h0 : a.node.warp.d.length * 16 ≤ 140737488351232 := (small_fsl (t := Ty.point) (xs := a.node.warp.d) (h (.fsl Ty.point a.node.warp.d) (List.mem_of_getElem? (i := 50) (by kernel_rfl)))).1; omega
  mask := by have h0 : a.mask.v.length * 8 ≤ 140737488351232 := (small_fsl (t := Ty.int) (xs := a.mask.v) (h (.fsl Ty.int a.mask.v) (List.mem_of_getElem? (i := 53) (by kernel_rfl)))).1; omega
  image := by have h0 : a.image.pix.length * 32 ≤ 140737488351232 := (small_fsl (t := Ty.pixel) (xs := a.image.pix) (h (.fsl Ty.pixel a.image.pix) (List.mem_of_getElem? (i := 56) (by kernel_rfl)))).1; omega
  samples := by have h0 : a.samples.length * 40 ≤ 140737488351232 := (small_fsl (t := Ty.sample) (xs := a.samples) (h (.fsl Ty.sample a.samples) (List.mem_of_getElem? (i := 73) (by kernel_rfl)))).1; omega
  dynamics := by have h0 : a.brush.dynamics.length * 40 ≤ 140737488351232 := (small_fsl (t := Ty.dynamic) (xs := a.brush.dynamics) (h (.fsl Ty.dynamic a.brush.dynamics) (List.mem_of_getElem? (i := 71) (by kernel_rfl)))).1; omega
  curves := fun x hx => by
    have h1 := (small_fsl (t := Ty.dynamic) (xs := a.brush.dynamics) (h (.fsl Ty.dynamic a.brush.dynamics) (List.mem_of_getElem? (i := 71) (by kernel_rfl)))).2 x hx
    have h0 : x.curve.length * 16 ≤ 140737488351232 := (small_fsl (t := Ty.knot) (xs := x.curve) (h1 (.fsl Ty.knot x.curve) (List.mem_of_getElem? (i := 2) (by kernel_rfl)))).1
    omega

theorem action_smallW {a : Daction} (h : ∀ c ∈ enc (U := UU) Ty.action a, SmallV 140737488351232 bytesB c) : EditSm a.edit where
  nmask := by have h0 : a.edit.node.mask.v.length * 8 ≤ 140737488351232 := (small_fsl (t := Ty.int) (xs := a.edit.node.mask.v) (h (.fsl Ty.int a.edit.node.mask.v) (List.mem_of_getElem? (i := 19) (by kernel_rfl)))).1; omega
  nimage := by have h0 : a.edit.node.image.pix.length * 32 ≤ 140737488351232 := (small_fsl (t := Ty.pixel) (xs := a.edit.node.image.pix) (h (.fsl Ty.pixel a.edit.node.image.pix) (List.mem_of_getElem? (i := 29) (by kernel_rfl)))).1; omega
  params := by have h0 : a.edit.node.params.length * 8 ≤ 140737488351232 := (small_fsl (t := Ty.int) (xs := a.edit.node.params) (h (.fsl Ty.int a.edit.node.params) (List.mem_of_getElem? (i := 35) (by kernel_rfl)))).1; omega
  stops := by have h0 : a.edit.node.stops.length * 40 ≤ 140737488351232 := (small_fsl (t := Ty.stop) (xs := a.edit.node.stops) (h (.fsl Ty.stop a.edit.node.stops) (List.mem_of_getElem? (i := 37) (by kernel_rfl)))).1; omega
  segs := by have h0 : a.edit.node.segs.length * 56 ≤ 140737488351232 := (small_fsl (t := Ty.seg) (xs := a.edit.node.segs) (h (.fsl Ty.seg a.edit.node.segs) (List.mem_of_getElem? (i := 38) (by kernel_rfl)))).1; omega
  warp := by have h0 : a.edit.node.warp.d.length * 16 ≤ 140737488351232 := (small_fsl (t := Ty.point) (xs := a.edit.node.warp.d) (h (.fsl Ty.point a.edit.node.warp.d) (List.mem_of_getElem? (i := 50) (by kernel_rfl)))).1; omega
  mask := by have h0 : a.edit.mask.v.length * 8 ≤ 140737488351232 := (small_fsl (t := Ty.int) (xs := a.edit.mask.v) (h (.fsl Ty.int a.edit.mask.v) (List.mem_of_getElem? (i := 53) (by kernel_rfl)))).1; omega
  image := by have h0 : a.edit.image.pix.length * 32 ≤ 140737488351232 := (small_fsl (t := Ty.pixel) (xs := a.edit.image.pix) (h (.fsl Ty.pixel a.edit.image.pix) (List.mem_of_getElem? (i := 56) (by kernel_rfl)))).1; omega
  samples := by have h0 : a.edit.samples.length * 40 ≤ 140737488351232 := (small_fsl (t := Ty.sample) (xs := a.edit.samples) (h (.fsl Ty.sample a.edit.samples) (List.mem_of_getElem? (i := 73) (by kernel_rfl)))).1; omega
  dynamics := by have h0 : a.edit.brush.dynamics.length * 40 ≤ 140737488351232 := (small_fsl (t := Ty.dynamic) (xs := a.edit.brush.dynamics) (h (.fsl Ty.dynamic a.edit.brush.dynamics) (List.mem_of_getElem? (i := 71) (by kernel_rfl)))).1; omega
  curves := fun x hx => by
    have h1 := (small_fsl (t := Ty.dynamic) (xs := a.edit.brush.dynamics) (h (.fsl Ty.dynamic a.edit.brush.dynamics) (List.mem_of_getElem? (i := 71) (by kernel_rfl)))).2 x hx
    have h0 : x.curve.length * 16 ≤ 140737488351232 := (small_fsl (t := Ty.knot) (xs := x.curve) (h1 (.fsl Ty.knot x.curve) (List.mem_of_getElem? (i := 2) (by kernel_rfl)))).1
    omega

theorem binds_smallW {a : Daction} (h : ∀ c ∈ enc (U := UU) Ty.action a, SmallV 140737488351232 bytesB c) : BindsLen a := fun b hb => bind_smallW ((small_fsl (t := Ty.bind) (xs := a.binds) (h (.fsl Ty.bind a.binds) (List.mem_of_getElem? (i := 84) (by kernel_rfl)))).2 b hb)

theorem fill_smallW {a : Daction} {args : List Darg} (h : ∀ c ∈ enc (U := UU) Ty.action a, SmallV 140737488351232 bytesB c) (h2 : SmallV (U := UU) 140737488351232 bytesB (.fsl Ty.arg args)) : FillSm a args where
  edit := action_smallW h
  args := by
    have h0 : args.length * 24 ≤ 140737488351232 := (small_fsl h2).1
    omega
  names := binds_smallW h

theorem rec_smallW {l : List Dedit} {binds : List (List Dbind)} (h : SmallV (U := UU) 140737488351232 bytesB (.fsl Ty.edit l)) (h2 : SmallV (U := UU) 140737488351232 bytesB (.fsl Ty.l_bind binds)) : RecSm l binds where
  len := by
    have h0 : l.length * 848 ≤ 140737488351232 := (small_fsl h).1
    omega
  edits := fun e he => edit_smallW ((small_fsl h).2 e he)
  each := fun b hb => by
    have h0 : b.length * 32 ≤ 140737488351232 := (small_fsl (t := Ty.bind) (xs := b) ((small_fsl h2).2 b hb (.fsl Ty.bind b) (List.mem_of_getElem? (i := 0) (by kernel_rfl)))).1
    omega
  names := fun b hb x hx => bind_smallW ((small_fsl (t := Ty.bind) (xs := b) ((small_fsl h2).2 b hb (.fsl Ty.bind b) (List.mem_of_getElem? (i := 0) (by kernel_rfl)))).2 x hx)

theorem laid_out : laidOutB Try.prog = true := by kernel_rfl
end Am
