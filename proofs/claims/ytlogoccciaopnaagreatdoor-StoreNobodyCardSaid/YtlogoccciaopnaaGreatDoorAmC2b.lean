/- Tables of runs, by their arguments. -/
import Derived.Test.YtlogoccciaopnaaGreatDoorAmC2
namespace Am
open Go Go.Proofs
set_option maxRecDepth 100000

def eqLL {α : Type} (f : α → α → Bool) : List α → List α → Bool
  | [], [] => true
  | a :: l, b :: m => match f a b with
    | true => eqLL f l m
    | false => false
  | _, _ => false
theorem eqLL_spec {α : Type} {f : α → α → Bool} (hf : ∀ x y, f x y = true → x = y) : ∀ {l m : List α}, eqLL f l m = true → l = m
  | [], [], _ => rfl
  | [], _ :: _, h => by cases h
  | _ :: _, [], h => by cases h
  | a :: l, b :: m, h => by
    unfold eqLL at h
    split at h
    · rename_i hab
      rw [hf a b hab, eqLL_spec hf h]
    · cases h

theorem untup_tup (t : Ty) (x : tyDen t) : tyUntup t (tyTup t x) = x := by cases t <;> rfl

theorem encC_inj : ∀ {c : Cell UU.T} {x y : c.den UU.toTyU0}, encC (U := UU) c x = encC c y → x = y := by
  intro c x y h
  cases c with
  | int k => have h : AV.int (U := UU) k x = .int k y := h; cases h; rfl
  | bool => have h : AV.bool (U := UU) x = .bool y := h; cases h; rfl
  | str => have h : AV.str (U := UU) x = .str y := h; cases h; rfl
  | sl t => have h : AV.fsl (U := UU) t x = .fsl t y := h; cases h; rfl

theorem encT_inj : ∀ (sh : List (Cell UU.T)) {x y : Tup UU.toTyU0 sh}, encT (U := UU) sh x = encT sh y → x = y
  | [], _, _, _ => rfl
  | c :: sh, x, y, h => by
    unfold encT at h
    obtain ⟨h1, h2⟩ := List.cons.inj h
    exact Prod.ext (encC_inj h1) (encT_inj sh h2)

theorem enc_inj {t : UU.T} {x y : UU.den t} (h : enc t x = enc t y) : x = y := by
  have h1 := encT_inj _ h
  have h2 : tyUntup t (tyTup t x) = tyUntup t (tyTup t y) := congrArg (tyUntup t) h1
  exact (untup_tup t x).symm.trans (h2.trans (untup_tup t y))

def eqV : Nat → AV UU → AV UU → Bool
  | 0, _, _ => false
  | n + 1, a, b => match a, b with
    | .bool a, .bool b => eqB a b
    | .int k a, .int k' b => IntKind.same k k' && eqI a b
    | .str a, .str b => eqB8 a b
    | .nilsl, .nilsl => true
    | .nilp, .nilp => true
    | .agg a, .agg b => eqLL (eqV n) a b
    | .tup a, .tup b => eqLL (eqV n) a b
    | .fsl t xs, .fsl t' ys => match UU.deq t' t with
      | .isTrue h => eqLL (fun x y => eqLL (eqV n) (enc t x) (enc t y)) xs (h ▸ ys)
      | .isFalse _ => false
    | _, _ => false

theorem eqV_spec : ∀ (n : Nat) {a b : AV UU}, eqV n a b = true → a = b
  | 0, _, _, h => by cases h
  | n + 1, a, b, h => by
    have ih := fun x y (h : eqV n x y = true) => eqV_spec n h
    unfold eqV at h
    split at h
    · rename_i x y; have : x = y := by simpa [eqB] using h
      rw [this]
    · rename_i k x k' y
      rw [Bool.and_eq_true] at h
      have h1 : k = k' := by cases k <;> cases k' <;> first | rfl | cases h.1
      have h2 : x = y := by simpa [eqI] using h.2
      rw [h1, h2]
    · rw [eqB8_spec h]
    · rfl
    · rfl
    · rw [eqLL_spec ih h]
    · rw [eqLL_spec ih h]
    · rename_i t xs t' ys
      split at h
      · rename_i ht _
        subst ht
        have : xs = ys := eqLL_spec (fun x y hxy => enc_inj (eqLL_spec ih hxy)) h
        rw [this]
      · cases h
    · cases h

def lookA (a : List (AV UU)) : List (List (AV UU) × AV UU) → Option (AV UU)
  | [] => none
  | (b, v) :: l => match eqLL (eqV 20) a b with
    | true => some v
    | false => lookA a l
theorem lookA_mem {s : List (AV UU)} {v : AV UU} : ∀ {l : List (List (AV UU) × AV UU)}, lookA s l = some v → (s, v) ∈ l
  | [], h => by cases h
  | (a, w) :: l, h => by
    unfold lookA at h
    split at h
    · rename_i ha
      cases h
      rw [eqLL_spec (fun x y hxy => eqV_spec 20 hxy) ha]; exact List.mem_cons_self ..
    · exact List.mem_cons_of_mem _ (lookA_mem h)

def conTabA (tab : List (List (AV UU) × AV UU)) (fl : Bool) : Con UU :=
  { β := AV UU, app := fun args => lookA args tab, ret := fun r => match good fl r with
      | true => r
      | false => .bool true, flat := fl }

theorem conTbA {cons : List (Nat × Con UU)} {f : Nat} {fn : Func} (h1 : ConsOK Tryz.prog cons) (hf : FnOK Tryz.prog f fn) (hb : fn.body.isSome = true) (hg : fnTree.get f = some fn) {n : Nat} {fl : Bool} {tab : List (List (AV UU) × AV UU)}
    (h : ∀ p ∈ tab, runT (E cons []) n f p.1 [] (finT fl) = some p.2) : ConOK Tryz.prog f (conTabA tab fl) := by
  refine ⟨fun args r ha _ => ?_, fun _ _ _ _ h => (by cases h), fun _ _ _ h => (by cases h), fun r => ?_, fun hh r => ?_, entersOf hf hb⟩
  · have hk := callRT h1 hf hb hg (h _ (lookA_mem ha))
    show CallOK Tryz.prog f _ (match good fl r with | true => r | false => .bool true)
    rw [hk.1]; exact hk.2
  · show refs (match good fl r with | true => r | false => .bool true) = []
    cases hg : good fl r with
    | true => exact (good_inv hg).1
    | false => rfl
  · show flatV (match good fl r with | true => r | false => .bool true) = true
    cases hg : good fl r with
    | true => exact (good_inv hg).2 hh
    | false => rfl

end Am
