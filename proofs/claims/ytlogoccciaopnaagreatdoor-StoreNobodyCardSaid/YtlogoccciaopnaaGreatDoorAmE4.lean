/- Contracts that are runs: nothing is to be proved of the function. -/
import Derived.Test.YtlogoccciaopnaaGreatDoorAmE3
namespace Am
open Go
variable {U : TyU} {R : Type} {P : Program} {G : Env U}

/-- a result without memory that may change (and, where 'fl', without any) -/
def good (fl : Bool) (v : AV U) : Bool := match refs v with
  | [] => match fl with
    | true => flatV v
    | false => true
  | _ => false

theorem good_inv {fl : Bool} {v : AV U} (h : good fl v = true) : refs v = [] ∧ (fl = true → flatV v = true) := by
  unfold good at h
  split at h
  · rename_i h1
    refine ⟨h1, fun hf => ?_⟩
    rw [hf] at h; exact h
  · cases h

theorem call_of_runV (hG : EnvOK P G) (hC : CutsOK P G) (hm : P.follows .mixedOrders = true) {f : FuncId} {fn : Func} {body : Code} (hf : P.funcs[f]? = some fn) (hb : fn.body = some body)
    {n : Nat} (hGf : G.fn f = some fn) {fl : Bool} {args : List (AV U)} {r : AV U} (h : run G n f args [] (fun v H => match frz H v with
      | some v => match good fl v with
        | true => some v
        | false => none
      | none => none) = some r) : good fl r = true ∧ CallOK P f args r := by
  unfold run at h
  rw [hGf] at h
  dsimp only at h
  rw [hb] at h
  dsimp only at h
  obtain ⟨ex, st', h1, h2, h3⟩ := exec_sound hG hC hm n f body _ _ _ ⟨fn, body, hf, hb, fun b hb => hb⟩ h
  have fin : (∀ j, ex ≠ .exit j) → resultsK G fn.results.toList st' (fun vs => match frz st'.H (oneOrTup vs) with
      | some v => match good fl v with
        | true => some v
        | false => none
      | none => none) = some r → good fl r = true ∧ CallOK P f args r := by
    intro hex hres
    obtain ⟨vs, hvs, hr⟩ := resultsK_sound hG _ st' _ r hres
    split at hvs
    case h_2 => cases hvs
    rename_i v' hz
    split at hvs
    case h_2 => cases hvs
    rename_i hgood
    cases hvs
    refine ⟨hgood, ?_⟩
    intro e cs hw hnone hargs Post hP
    refine body_calls hf hb hex h3 hr hw (fun k b hb => by simp [Heap.get] at hb) hargs (fun k _ => hnone k) (fun c e' hw' hE hv hh' hf' => ?_)
    have hv2 := frz_rel hh' hv r hz
    refine hP c e'.frozen (En.frozen_wf hw') ?_ hv2
    refine ⟨hE.size, fun b hb _ => hE.keep b hb (fun k o _ hk => absurd hk (by rw [hnone k]; simp)), hE.shape, fun k l hl => absurd hl (by rw [hnone k]; simp), fun k l hl => absurd hl (by rw [hnone k]; simp), fun k b o hk => (by cases hk), fun b hb => .inl (hE.iOld b hb), fun b hb => ?_, hE.io⟩
    rcases hb with hb | ⟨k, o, hk⟩
    · rcases hE.iNew b hb with h1 | h1 | ⟨k2, o2, _, h1⟩
      · exact .inl h1
      · exact .inr (.inl h1)
      · rw [hnone k2] at h1; cases h1
    · rcases hE.new k b o hk with h1 | h1 | ⟨k2, o2, _, h1⟩
      · rw [hnone k] at h1; cases h1
      · exact .inr (.inl h1)
      · rw [hnone k2] at h1; cases h1
  cases ex with
  | normal => exact fin (by simp) h1
  | ret => exact fin (by simp) h1
  | exit j => cases h1

/-- a function, by its run -/
def conRun (G : Env U) (n : Nat) (f : FuncId) (fl : Bool) (bo : Bool := false) : Con U :=
  { bor := bo, β := AV U, app := fun args => run G n f args [] fun v H => match frz H v with
      | some v => match good fl v with
        | true => some v
        | false => none
      | none => none, ret := fun r => match good fl r with
      | true => r
      | false => .bool true, flat := fl }

theorem conRun_ok (hG : EnvOK P G) (hC : CutsOK P G) (hm : P.follows .mixedOrders = true) {f : FuncId} {fn : Func} {body : Code} (hf : P.funcs[f]? = some fn) (hb : fn.body = some body) (hname : (fn.name == "runtime.NumGoroutine") = false)
    (n : Nat) (hGf : G.fn f = some fn) (fl : Bool) (bo : Bool) : ConOK P f (conRun G n f fl bo) := by
  refine ⟨fun args r h _ => ?_, fun _ _ _ _ h => (by cases h), fun _ _ _ h => (by cases h), fun r => ?_, fun hh r => ?_, ⟨fn, hf, by rw [hb]; rfl, hname⟩⟩
  · have hk := call_of_runV hG hC hm hf hb hGf (r := r) (args := args) (n := n) (fl := fl) h
    show CallOK P f args (match good fl r with | true => r | false => .bool true)
    rw [hk.1]; exact hk.2
  · show refs (match good fl r with | true => r | false => .bool true) = []
    cases hg : good fl r with
    | true => exact (good_inv hg).1
    | false => rfl
  · show flatV (match good fl r with | true => r | false => .bool true) = true
    cases hg : good fl r with
    | true => exact (good_inv hg).2 hh
    | false => rfl

/-- a function at one list of arguments -/
def conAt (args : List (AV U) → Bool) (v : AV U) (fl : Bool) : Con U :=
  { β := Unit, app := fun a => match args a with
      | true => some ()
      | false => none, ret := fun _ => v, flat := fl }

theorem conAt_ok {f : FuncId} {args : List (AV U) → Bool} {v : AV U} {fl : Bool} (hr : refs v = []) (hfl : fl = true → flatV v = true) (hen : Enters P f) (h : ∀ a, args a = true → CallOK P f a v) : ConOK P f (conAt args v fl) := by
  refine ⟨fun a r ha _ => ?_, fun _ _ _ _ h => (by cases h), fun _ _ _ h => (by cases h), fun _ => hr, fun hh _ => hfl hh, hen⟩
  have ha : (match args a with | true => some () | false => none) = some r := ha
  split at ha
  · rename_i h1; exact h a h1
  · cases ha

end Am
