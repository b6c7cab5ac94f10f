/- The seat's types as they are read; what a bound on the readings gives. -/
import Derived.Test.YtlogoccciaopnaaGreatDoorAmB2
import Derived.Test.YtlogoccciaopnaaGreatDoorAmC1
import Derived.Test.YtlogoccciaopnaaGreatDoorChecked
namespace Am
open Go Go.Proofs
set_option maxRecDepth 100000

def cellEq : Cell Ty → Cell Ty → Bool
  | .int k, .int k' => IntKind.same k k'
  | .bool, .bool => true
  | .str, .str => true
  | .sl a, .sl b => decide (a = b)
  | _, _ => false

def cellsEq : List (Cell Ty) → List (Cell Ty) → Bool
  | [], [] => true
  | a :: l, b :: r => cellEq a b && cellsEq l r
  | _, _ => false

theorem cellEq_spec : ∀ {a b : Cell Ty}, cellEq a b = true → a = b
  | .int k, .int k', h => by
    have : k = k' := by cases k <;> cases k' <;> first | rfl | cases h
    rw [this]
  | .bool, .bool, _ => rfl
  | .str, .str, _ => rfl
  | .sl a, .sl b, h => by rw [of_decide_eq_true h]
  | .int _, .bool, h => by cases h
  | .int _, .str, h => by cases h
  | .int _, .sl _, h => by cases h
  | .bool, .int _, h => by cases h
  | .bool, .str, h => by cases h
  | .bool, .sl _, h => by cases h
  | .str, .int _, h => by cases h
  | .str, .bool, h => by cases h
  | .str, .sl _, h => by cases h
  | .sl _, .int _, h => by cases h
  | .sl _, .bool, h => by cases h
  | .sl _, .str, h => by cases h

theorem cellsEq_spec : ∀ {a b : List (Cell Ty)}, cellsEq a b = true → a = b
  | [], [], _ => rfl
  | a :: l, b :: r, h => by
    unfold cellsEq at h
    rw [Bool.and_eq_true] at h
    rw [cellEq_spec h.1, cellsEq_spec h.2]
  | [], _ :: _, h => by cases h
  | _ :: _, [], h => by cases h

/-- Go's sizes, in bytes -/
def tyBytes : Ty → Nat
  | .int => 8
  | .bool => 1
  | .u8 => 1
  | .str => 16
  | .mask => 40
  | .affine => 48
  | .image => 40
  | .pixel => 32
  | .l_point => 24
  | .warp => 48
  | .node => 440
  | .brush => 144
  | .point => 16
  | .rect => 32
  | .edit => 848
  | .imageeditorlaw45_op => 864
  | .disk => 32
  | .doc => 144
  | .meta_ => 32
  | .link => 80
  | .state => 176
  | .history_state => 184
  | .record => 32
  | .stop => 40
  | .seg => 56
  | .dynamic => 40
  | .knot => 16
  | .sample => 40
  | .profile => 112
  | .font => 72
  | .dab => 40
  | .glyph => 40
  | .kern => 16
  | .stroke_edge => 80

def bulk1 (_ : UU.T) : Nat := 1
def bytesB (t : UU.T) : Nat := tyBytes t

noncomputable def shapeB (t : Nat) (i : TI UU) : Bool := match i.ty with
  | some c => match shapeOf (U := UU) tiTree.get 12 t with
    | some s => cellsEq s (tyShape c) && Nat.beq i.bytes (tyBytes c)
    | none => false
  | none => true

theorem shapes_ok : tiTree.all shapeB = true := by kernel_rfl

theorem hsh2 : ∀ (e : TypeId) (i : TI UU) (c : UU.T), (E [] []).ti e = some i → i.ty = some c → shapeOf (U := UU) (E [] []).ti 12 e = some (UU.shape c) ∧ i.bytes = bytesB c := by
  intro e i c hi hc
  have h := tiTree.all_get shapes_ok hi
  unfold shapeB at h
  rw [hc] at h
  dsimp only at h
  split at h
  · rename_i s hs
    rw [Bool.and_eq_true] at h
    have := cellsEq_spec h.1
    subst this
    exact ⟨hs, Nat.eq_of_beq_eq_true h.2⟩
  · cases h

theorem hsh : ∀ (e : TypeId) (i : TI UU) (c : UU.T), (E [] []).ti e = some i → i.ty = some c → shapeOf (U := UU) (E [] []).ti 12 e = some (UU.shape c) := fun e i c hi hc => (hsh2 e i c hi hc).1

theorem tis : TIs Tryz.prog (E [] []) := (E_ok (cons := []) (cuts := []) trivial).ti

theorem hBulk : ∀ (e : TypeId) (i : TI UU) (c : UU.T), (E [] []).ti e = some i → i.ty = some c → (fun _ => 1 : TypeId → Nat) e = bulk1 c := fun _ _ _ _ _ => rfl
theorem hBytes : ∀ (e : TypeId) (i : TI UU) (c : UU.T), (E [] []).ti e = some i → i.ty = some c → Tryz.prog.bytesOf e = bytesB c := fun e i c hi hc => by
  obtain ⟨inf, h1, _, h2, _⟩ := (tis e i hi).info
  rw [← (hsh2 e i c hi hc).2, ← h2]
  unfold Program.bytesOf
  rw [h1]; rfl

theorem weightsAll_mem {H : Type} {P : Program} {e : TypeId} {d : DataW H} {n : Nat} (hn : n ∈ d.weights P e) : ∀ {l : List (DataW H)}, d ∈ l → n ∈ DataW.weightsAll P e l
  | x :: r, h => by
    unfold DataW.weightsAll
    rcases List.mem_cons.1 h with h | h
    · subst h; exact List.mem_append_left _ hn
    · exact List.mem_append_right _ (weightsAll_mem hn h)

theorem weightsEach_mem {H : Type} {P : Program} {t : TypeId} {d : DataW H} {n : Nat} (hn : n ∈ d.weights P t) : ∀ {ts : List TypeId} {l : List (DataW H)} {i : Nat}, ts[i]? = some t → l[i]? = some d → n ∈ DataW.weightsEach P ts l
  | [], _, i, h, _ => by simp at h
  | _ :: _, [], i, _, h => by simp at h
  | t' :: ts, x :: r, 0, h1, h2 => by
    simp at h1 h2
    subst h1; subst h2
    unfold DataW.weightsEach
    exact List.mem_append_left _ hn
  | t' :: ts, x :: r, i + 1, h1, h2 => by
    unfold DataW.weightsEach
    exact List.mem_append_right _ (weightsEach_mem hn (by simpa using h1) (by simpa using h2))

theorem smallW {H : Type} : SmallD (H := H) Tryz.prog 140737488351232 Tryz.prog.bytesOf (fun t d => ∀ n ∈ d.weights Tryz.prog t, n ≤ 140737488351232) where
  str t bs h := h bs.length (by simp [DataW.weights])
  slice t e es sp hu h := by
    have hw : (DataW.slice es sp).weights Tryz.prog t = (es.length + sp.length) * Tryz.prog.bytesOf e :: (DataW.weightsAll Tryz.prog e es ++ DataW.weightsAll Tryz.prog e sp) := by
      unfold DataW.weights
      rw [hu]
    refine ⟨?_, fun d hd n hn => h n (by rw [hw]; exact List.mem_cons_of_mem _ (List.mem_append_left _ (weightsAll_mem hn hd)))⟩
    have h1 := h ((es.length + sp.length) * Tryz.prog.bytesOf e) (by rw [hw]; exact List.mem_cons_self ..)
    have h2 : es.length * Tryz.prog.bytesOf e ≤ (es.length + sp.length) * Tryz.prog.bytesOf e := Nat.mul_le_mul_right _ (by omega)
    omega
  struct t fs ps hu h i f d hf hd n hn := by
    refine h n ?_
    have hw : (DataW.agg ps).weights Tryz.prog t = DataW.weightsEach Tryz.prog (fs.toList.map (·.type)) ps := by
      unfold DataW.weights
      rw [hu]
    rw [hw]
    exact weightsEach_mem (i := i) hn (by rw [List.getElem?_map, Array.getElem?_toList, hf]; rfl) hd
  array t m e ps hu h d hd n hn := by
    refine h n ?_
    have hw : (DataW.agg ps).weights Tryz.prog t = DataW.weightsAll Tryz.prog e ps := by
      unfold DataW.weights
      rw [hu]
    rw [hw]
    exact weightsAll_mem hn hd

theorem small_fsl {N : Nat} {B : UU.T → Nat} {t : UU.T} {xs : List (UU.den t)} (h : SmallV (U := UU) N B (.fsl t xs)) : xs.length * B t ≤ N ∧ ∀ x ∈ xs, ∀ c ∈ enc t x, SmallV N B c := by
  cases h with
  | fsl h1 h2 => exact ⟨h1, h2⟩
theorem small_str {N : Nat} {B : UU.T → Nat} {s : List UInt8} (h : SmallV (U := UU) N B (.str s)) : s.length ≤ N := by cases h; assumption

theorem laid_out : laidOutB Tryz.prog = true := by kernel_rfl
end Am
