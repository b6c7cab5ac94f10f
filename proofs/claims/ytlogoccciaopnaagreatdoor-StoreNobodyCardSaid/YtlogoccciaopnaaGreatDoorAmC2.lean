/- Contracts that are runs, and tables of runs, at the seat. -/
import Derived.Test.YtlogoccciaopnaaGreatDoorAmC1
import Derived.Test.YtlogoccciaopnaaGreatDoorAmFc
namespace Am
open Go Go.Proofs
set_option maxRecDepth 100000

/-- a function, by its run -/
theorem conRT {cons : List (Nat × Con UU)} {f : Nat} {fn : Func} (h1 : ConsOK Tryz.prog cons) (hf : FnOK Tryz.prog f fn) (hb : fn.body.isSome = true) (hg : fnTree.get f = some fn) (n : Nat) (fl bo : Bool) : ConOK Tryz.prog f (conRunT (E cons []) n f fl bo) := by
  rw [conRunT_eq]
  exact conR h1 hf hb hg n fl bo

theorem callRT {cons : List (Nat × Con UU)} {f : Nat} {fn : Func} (h1 : ConsOK Tryz.prog cons) (hf : FnOK Tryz.prog f fn) (hb : fn.body.isSome = true) (hg : fnTree.get f = some fn) {n : Nat} {fl : Bool} {args : List (AV UU)} {v : AV UU} (h : runT (E cons []) n f args [] (finT fl) = some v) :
    good fl v = true ∧ CallOK Tryz.prog f args v := by
  obtain ⟨body, hb⟩ := isSome_body hb
  rw [runT_eq] at h
  exact call_of_runV (E_ok h1) (E_cuts (cuts := []) trivial) mixed hf.1 hb hg (n := n) (fl := fl) h

theorem entersOf {f : Nat} {fn : Func} (hf : FnOK Tryz.prog f fn) (hb : fn.body.isSome = true) : Enters Tryz.prog f := ⟨fn, hf.1, by cases h : fn.body <;> simp_all, hf.2⟩

/-- bytes, compared -/
def eqB8 : List UInt8 → List UInt8 → Bool
  | [], [] => true
  | a :: l, b :: m => match Nat.beq a.toNat b.toNat with
    | true => eqB8 l m
    | false => false
  | _, _ => false

theorem eqB8_spec : ∀ {a b : List UInt8}, eqB8 a b = true → a = b
  | [], [], _ => rfl
  | [], _ :: _, h => by cases h
  | _ :: _, [], h => by cases h
  | a :: l, b :: m, h => by
    unfold eqB8 at h
    split at h
    · rename_i hab
      rw [eqB8_spec h, UInt8.toNat_inj.1 (Nat.eq_of_beq_eq_true hab)]
    · cases h

/-- a function of one string, at the strings of a table -/
def lookS (s : List UInt8) : List (List UInt8 × AV UU) → Option (AV UU)
  | [] => none
  | (a, v) :: l => match eqB8 s a with
    | true => some v
    | false => lookS s l
theorem lookS_mem {s : List UInt8} {v : AV UU} : ∀ {l : List (List UInt8 × AV UU)}, lookS s l = some v → (s, v) ∈ l
  | [], h => by cases h
  | (a, w) :: l, h => by
    unfold lookS at h
    split at h
    · rename_i ha
      cases h
      rw [eqB8_spec ha]; exact List.mem_cons_self ..
    · exact List.mem_cons_of_mem _ (lookS_mem h)

def conTab (tab : List (List UInt8 × AV UU)) (fl : Bool) : Con UU :=
  { β := AV UU, app := fun args => match args with
      | [.str s] => lookS s tab
      | _ => none, ret := fun r => match good fl r with
      | true => r
      | false => .bool true, flat := fl }

theorem conTb {cons : List (Nat × Con UU)} {f : Nat} {fn : Func} (h1 : ConsOK Tryz.prog cons) (hf : FnOK Tryz.prog f fn) (hb : fn.body.isSome = true) (hg : fnTree.get f = some fn) {n : Nat} {fl : Bool} {tab : List (List UInt8 × AV UU)}
    (h : ∀ p ∈ tab, runT (E cons []) n f [.str p.1] [] (finT fl) = some p.2) : ConOK Tryz.prog f (conTab tab fl) := by
  refine ⟨fun args r ha _ => ?_, fun _ _ _ _ h => (by cases h), fun _ _ _ h => (by cases h), fun r => ?_, fun hh r => ?_, entersOf hf hb⟩
  · unfold conTab at ha
    dsimp only at ha
    split at ha
    · have hk := callRT h1 hf hb hg (h _ (lookS_mem ha))
      show CallOK Tryz.prog f _ (match good fl r with | true => r | false => .bool true)
      rw [hk.1]; exact hk.2
    · cases ha
  · show refs (match good fl r with | true => r | false => .bool true) = []
    cases hg : good fl r with
    | true => exact (good_inv hg).1
    | false => rfl
  · show flatV (match good fl r with | true => r | false => .bool true) = true
    cases hg : good fl r with
    | true => exact (good_inv hg).2 hh
    | false => rfl

/-- a function without arguments -/
def conNo (v : AV UU) (fl : Bool) : Con UU := conAt (fun a => match a with
  | [] => true
  | _ => false) v fl
theorem conNo_ok {cons : List (Nat × Con UU)} {f : Nat} {fn : Func} (h1 : ConsOK Tryz.prog cons) (hf : FnOK Tryz.prog f fn) (hb : fn.body.isSome = true) (hg : fnTree.get f = some fn) {n : Nat} {fl : Bool} {v : AV UU}
    (h : runT (E cons []) n f [] [] (finT fl) = some v) : ConOK Tryz.prog f (conNo v fl) := by
  have hk := callRT h1 hf hb hg h
  refine conAt_ok (good_inv hk.1).1 (good_inv hk.1).2 (entersOf hf hb) (fun a ha => ?_)
  split at ha
  · exact hk.2
  · cases ha

end Am
