/- Fill of the batch layer and of its reference: the same edit, or the same error. -/
import Derived.Test.YtbeffjadfgbojaaAmL5
namespace Am
open Go Go.Proofs
set_option maxRecDepth 100000
set_option maxHeartbeats 4000000

def st7 (args : List Darg) (binds : List Dbind) (i : Int) (e : Dedit) : D7_15.X := ((((), (), (), binds, (binds.length : Int), i, ()), (zeroE, esOf args, tupE e, e.node.mask.v, e.node.params, e.mask.v, e.brush.dynamics, ())) : D7_15.X)

/-- one bind's value, put in its place -/
theorem step7_set (args : List Darg) (binds : List Dbind) (i : Nat) (b : Dbind) (e : Dedit) (v : Int) (hb : binds[i]? = some b) (hl : binds.length < 9223372036854775807) (hv : lookA args b.param = some v)
    (hf : (fieldsL.any fun x => eqS b.field x) = true) (hp : leI (e.node.params.length : Int) (indexB b.field) = false) :
    step7_15 (st7 args binds (i : Int) e) = some (.inl (st7 args binds ((i + 1 : Nat) : Int) (setE e b.field v))) := by
  have hi := get_lt hb
  have hv : lookS b.param (esOf args) = some v := hv
  rw [← addI_one i (by omega)]
  show (match ltI (i : Int) (binds.length : Int) with | true => _ | false => _) = _
  rw [ltI_nat, decide_eq_true hi]
  show (ix binds (i : Int)).bind _ = _
  rw [ix_nat, hb]
  show (match lookS b.param (esOf args) with | some _ => _ | none => _) = _
  rw [hv]
  obtain ⟨fld, par⟩ := b
  dsimp only at hf hp ⊢
  rcases field_cases hf with rfl | rfl | rfl | rfl | rfl | rfl | rfl | rfl | rfl | rfl | rfl | rfl | rfl | rfl | rfl | rfl | rfl | rfl | rfl | rfl
  · rfl
  · rfl
  · rfl
  · rfl
  · rfl
  · rfl
  · rfl
  · rfl
  · rfl
  · have hlt : 0 < e.node.params.length := by
      have hp : leI (e.node.params.length : Int) ((0 : Nat) : Int) = false := hp
      rw [leI_nat] at hp
      have := of_decide_eq_false hp
      omega
    have h1 : ltI (0 : Int) (e.node.params.length : Int) = true := (ltI_nat 0 e.node.params.length).trans (decide_eq_true hlt)
    have h2 : inB (0 : Int) e.node.params.length = true := by
      unfold inB
      rw [decide_eq_true (by omega), decide_eq_true (by omega)]; rfl
    show (match ltI (0 : Int) (e.node.params.length : Int) with | true => _ | false => none) = _
    rw [h1]
    show chk (inB (0 : Int) e.node.params.length) _ = _
    rw [h2]
    show (e.node.params[0]?).bind _ = _
    rw [List.getElem?_eq_getElem hlt]
    rfl
  · have hlt : 1 < e.node.params.length := by
      have hp : leI (e.node.params.length : Int) ((1 : Nat) : Int) = false := hp
      rw [leI_nat] at hp
      have := of_decide_eq_false hp
      omega
    have h1 : ltI (1 : Int) (e.node.params.length : Int) = true := (ltI_nat 1 e.node.params.length).trans (decide_eq_true hlt)
    have h2 : inB (1 : Int) e.node.params.length = true := by
      unfold inB
      rw [decide_eq_true (by omega), decide_eq_true (by omega)]; rfl
    show (match ltI (1 : Int) (e.node.params.length : Int) with | true => _ | false => none) = _
    rw [h1]
    show chk (inB (1 : Int) e.node.params.length) _ = _
    rw [h2]
    show (e.node.params[1]?).bind _ = _
    rw [List.getElem?_eq_getElem hlt]
    rfl
  · have hlt : 2 < e.node.params.length := by
      have hp : leI (e.node.params.length : Int) ((2 : Nat) : Int) = false := hp
      rw [leI_nat] at hp
      have := of_decide_eq_false hp
      omega
    have h1 : ltI (2 : Int) (e.node.params.length : Int) = true := (ltI_nat 2 e.node.params.length).trans (decide_eq_true hlt)
    have h2 : inB (2 : Int) e.node.params.length = true := by
      unfold inB
      rw [decide_eq_true (by omega), decide_eq_true (by omega)]; rfl
    show (match ltI (2 : Int) (e.node.params.length : Int) with | true => _ | false => none) = _
    rw [h1]
    show chk (inB (2 : Int) e.node.params.length) _ = _
    rw [h2]
    show (e.node.params[2]?).bind _ = _
    rw [List.getElem?_eq_getElem hlt]
    rfl
  · have hlt : 3 < e.node.params.length := by
      have hp : leI (e.node.params.length : Int) ((3 : Nat) : Int) = false := hp
      rw [leI_nat] at hp
      have := of_decide_eq_false hp
      omega
    have h1 : ltI (3 : Int) (e.node.params.length : Int) = true := (ltI_nat 3 e.node.params.length).trans (decide_eq_true hlt)
    have h2 : inB (3 : Int) e.node.params.length = true := by
      unfold inB
      rw [decide_eq_true (by omega), decide_eq_true (by omega)]; rfl
    show (match ltI (3 : Int) (e.node.params.length : Int) with | true => _ | false => none) = _
    rw [h1]
    show chk (inB (3 : Int) e.node.params.length) _ = _
    rw [h2]
    show (e.node.params[3]?).bind _ = _
    rw [List.getElem?_eq_getElem hlt]
    rfl
  · rfl
  · rfl
  · rfl
  · rfl
  · rfl
  · rfl
  · rfl

theorem step7_none (args : List Darg) (binds : List Dbind) (i : Nat) (b : Dbind) (e : Dedit) (hb : binds[i]? = some b) (hv : lookA args b.param = none) :
    step7_15 (st7 args binds (i : Int) e) = some (.inr (.inl (((), (9 : Int), ()), (zeroE, ())))) := by
  have hi := get_lt hb
  have hv : lookS b.param (esOf args) = none := hv
  show (match ltI (i : Int) (binds.length : Int) with | true => _ | false => _) = _
  rw [ltI_nat, decide_eq_true hi]
  show (ix binds (i : Int)).bind _ = _
  rw [ix_nat, hb]
  show (match lookS b.param (esOf args) with | some _ => _ | none => _) = _
  rw [hv]
  rfl

/-- each bind of an action without error has a field, and its parameter is there -/
theorem single_binds {a : Daction} (h : eqI (singleE a) 0 = true) : a.binds.length ≤ 16 ∧ ∀ (i : Nat) (b : Dbind), a.binds[i]? = some b → (fieldsL.any fun x => eqS b.field x) = true ∧ leI (a.edit.node.params.length : Int) (indexB b.field) = false := by
  unfold singleE at h
  cases h16 : ltI 16 (a.binds.length : Int) with
  | true => rw [h16] at h; cases h
  | false =>
    rw [h16] at h
    have hl : (a.binds.length : Int) ≤ 16 := by simpa [ltI] using h16
    refine ⟨by omega, ?_⟩
    have go : ∀ (l : List Dbind) (k : Nat), eqI (foldAt (S := Unit) (fun i b s => errOr (bindE a b i) id s) (fun _ => 0) l k ()) 0 = true → ∀ (i : Nat) (b : Dbind), l[i]? = some b → eqI (bindE a b (k + i)) 0 = true := by
      intro l
      induction l with
      | nil => intro k _ i b hb; simp at hb
      | cons c l ih =>
        intro k hk i b hb
        unfold foldAt errOr at hk
        cases hc : eqI (bindE a c k) 0 with
        | false => rw [hc] at hk; exact absurd (hc.symm.trans hk) (by simp)
        | true =>
          rw [hc] at hk
          cases i with
          | zero => simp at hb; subst hb; exact hc
          | succ i =>
            have := ih (k + 1) hk i b (by simpa using hb)
            rw [show k + (i + 1) = k + 1 + i by omega]; exact this
    intro i b hb
    have := go a.binds 0 h i b hb
    unfold bindE at this
    cases h1 : isNameB b.param with
    | false => rw [h1] at this; cases this
    | true =>
      rw [h1] at this
      cases h2 : (fieldsL.any fun x => eqS b.field x) with
      | false => rw [h2] at this; cases this
      | true =>
        rw [h2] at this
        refine ⟨rfl, ?_⟩
        cases h3 : ((a.binds.take (0 + i)).any fun o => eqS o.field b.field) with
        | true => rw [h3] at this; cases this
        | false =>
          rw [h3] at this
          cases h4 : leI (a.edit.node.params.length : Int) (indexB b.field) with
          | true => rw [h4] at this; cases this
          | false => rfl

structure FillSm (a : Daction) (args : List Darg) : Prop where
  edit : EditSm a.edit
  args : args.length ≤ 4611686018427387904
  names : BindsLen a

def res7 (y : Y7_15) : Dedit × Int × Unit := match y with
  | .inl z => (z.2.1, z.1.2.1, ())
  | .inr z => ((⟨z.2.2.1.1, z.2.2.1.2.1, z.2.2.1.2.2.1, z.2.2.1.2.2.2.1, z.2.2.1.2.2.2.2.1, z.2.2.1.2.2.2.2.2.1, z.2.2.1.2.2.2.2.2.2.1, z.2.2.1.2.2.2.2.2.2.2.1, ⟨z.2.2.1.2.2.2.2.2.2.2.2.1, z.2.2.1.2.2.2.2.2.2.2.2.2.1, z.2.2.1.2.2.2.2.2.2.2.2.2.2.1, z.2.2.1.2.2.2.2.2.2.2.2.2.2.2.1, z.2.2.1.2.2.2.2.2.2.2.2.2.2.2.2.1, z.2.2.1.2.2.2.2.2.2.2.2.2.2.2.2.2.1, z.2.2.1.2.2.2.2.2.2.2.2.2.2.2.2.2.2.1, z.2.2.1.2.2.2.2.2.2.2.2.2.2.2.2.2.2.2.1, z.2.2.1.2.2.2.2.2.2.2.2.2.2.2.2.2.2.2.2.1, ⟨z.2.2.1.2.2.2.2.2.2.2.2.2.2.2.2.2.2.2.2.2.1, z.2.2.1.2.2.2.2.2.2.2.2.2.2.2.2.2.2.2.2.2.2.1, z.2.2.2.1⟩, ⟨z.2.2.1.2.2.2.2.2.2.2.2.2.2.2.2.2.2.2.2.2.2.2.2.1, z.2.2.1.2.2.2.2.2.2.2.2.2.2.2.2.2.2.2.2.2.2.2.2.2.1, z.2.2.1.2.2.2.2.2.2.2.2.2.2.2.2.2.2.2.2.2.2.2.2.2.2.1, z.2.2.1.2.2.2.2.2.2.2.2.2.2.2.2.2.2.2.2.2.2.2.2.2.2.2.1, z.2.2.1.2.2.2.2.2.2.2.2.2.2.2.2.2.2.2.2.2.2.2.2.2.2.2.2.1, z.2.2.1.2.2.2.2.2.2.2.2.2.2.2.2.2.2.2.2.2.2.2.2.2.2.2.2.2.1⟩, z.2.2.1.2.2.2.2.2.2.2.2.2.2.2.2.2.2.2.2.2.2.2.2.2.2.2.2.2.2.1, ⟨z.2.2.1.2.2.2.2.2.2.2.2.2.2.2.2.2.2.2.2.2.2.2.2.2.2.2.2.2.2.2.1, z.2.2.1.2.2.2.2.2.2.2.2.2.2.2.2.2.2.2.2.2.2.2.2.2.2.2.2.2.2.2.2.1, z.2.2.1.2.2.2.2.2.2.2.2.2.2.2.2.2.2.2.2.2.2.2.2.2.2.2.2.2.2.2.2.2.1⟩, ⟨z.2.2.1.2.2.2.2.2.2.2.2.2.2.2.2.2.2.2.2.2.2.2.2.2.2.2.2.2.2.2.2.2.2.1, z.2.2.1.2.2.2.2.2.2.2.2.2.2.2.2.2.2.2.2.2.2.2.2.2.2.2.2.2.2.2.2.2.2.2.1, z.2.2.1.2.2.2.2.2.2.2.2.2.2.2.2.2.2.2.2.2.2.2.2.2.2.2.2.2.2.2.2.2.2.2.2.1, z.2.2.1.2.2.2.2.2.2.2.2.2.2.2.2.2.2.2.2.2.2.2.2.2.2.2.2.2.2.2.2.2.2.2.2.2.1⟩, z.2.2.1.2.2.2.2.2.2.2.2.2.2.2.2.2.2.2.2.2.2.2.2.2.2.2.2.2.2.2.2.2.2.2.2.2.2.1, z.2.2.2.2.1, z.2.2.1.2.2.2.2.2.2.2.2.2.2.2.2.2.2.2.2.2.2.2.2.2.2.2.2.2.2.2.2.2.2.2.2.2.2.2.2.1, z.2.2.1.2.2.2.2.2.2.2.2.2.2.2.2.2.2.2.2.2.2.2.2.2.2.2.2.2.2.2.2.2.2.2.2.2.2.2.2.2.1, z.2.2.1.2.2.2.2.2.2.2.2.2.2.2.2.2.2.2.2.2.2.2.2.2.2.2.2.2.2.2.2.2.2.2.2.2.2.2.2.2.2.1, z.2.2.1.2.2.2.2.2.2.2.2.2.2.2.2.2.2.2.2.2.2.2.2.2.2.2.2.2.2.2.2.2.2.2.2.2.2.2.2.2.2.2.1, z.2.2.1.2.2.2.2.2.2.2.2.2.2.2.2.2.2.2.2.2.2.2.2.2.2.2.2.2.2.2.2.2.2.2.2.2.2.2.2.2.2.2.2.1, z.2.2.1.2.2.2.2.2.2.2.2.2.2.2.2.2.2.2.2.2.2.2.2.2.2.2.2.2.2.2.2.2.2.2.2.2.2.2.2.2.2.2.2.2.1, z.2.2.1.2.2.2.2.2.2.2.2.2.2.2.2.2.2.2.2.2.2.2.2.2.2.2.2.2.2.2.2.2.2.2.2.2.2.2.2.2.2.2.2.2.2.1, z.2.2.1.2.2.2.2.2.2.2.2.2.2.2.2.2.2.2.2.2.2.2.2.2.2.2.2.2.2.2.2.2.2.2.2.2.2.2.2.2.2.2.2.2.2.2.1, z.2.2.1.2.2.2.2.2.2.2.2.2.2.2.2.2.2.2.2.2.2.2.2.2.2.2.2.2.2.2.2.2.2.2.2.2.2.2.2.2.2.2.2.2.2.2.2.1, z.2.2.1.2.2.2.2.2.2.2.2.2.2.2.2.2.2.2.2.2.2.2.2.2.2.2.2.2.2.2.2.2.2.2.2.2.2.2.2.2.2.2.2.2.2.2.2.2.1, z.2.2.1.2.2.2.2.2.2.2.2.2.2.2.2.2.2.2.2.2.2.2.2.2.2.2.2.2.2.2.2.2.2.2.2.2.2.2.2.2.2.2.2.2.2.2.2.2.2.1, ⟨z.2.2.1.2.2.2.2.2.2.2.2.2.2.2.2.2.2.2.2.2.2.2.2.2.2.2.2.2.2.2.2.2.2.2.2.2.2.2.2.2.2.2.2.2.2.2.2.2.2.2.1, z.2.2.1.2.2.2.2.2.2.2.2.2.2.2.2.2.2.2.2.2.2.2.2.2.2.2.2.2.2.2.2.2.2.2.2.2.2.2.2.2.2.2.2.2.2.2.2.2.2.2.2.1, z.2.2.1.2.2.2.2.2.2.2.2.2.2.2.2.2.2.2.2.2.2.2.2.2.2.2.2.2.2.2.2.2.2.2.2.2.2.2.2.2.2.2.2.2.2.2.2.2.2.2.2.2.1, z.2.2.1.2.2.2.2.2.2.2.2.2.2.2.2.2.2.2.2.2.2.2.2.2.2.2.2.2.2.2.2.2.2.2.2.2.2.2.2.2.2.2.2.2.2.2.2.2.2.2.2.2.2.1⟩⟩, ⟨z.2.2.1.2.2.2.2.2.2.2.2.2.2.2.2.2.2.2.2.2.2.2.2.2.2.2.2.2.2.2.2.2.2.2.2.2.2.2.2.2.2.2.2.2.2.2.2.2.2.2.2.2.2.2.1, z.2.2.1.2.2.2.2.2.2.2.2.2.2.2.2.2.2.2.2.2.2.2.2.2.2.2.2.2.2.2.2.2.2.2.2.2.2.2.2.2.2.2.2.2.2.2.2.2.2.2.2.2.2.2.2.1, z.2.2.2.2.2.1⟩, ⟨z.2.2.1.2.2.2.2.2.2.2.2.2.2.2.2.2.2.2.2.2.2.2.2.2.2.2.2.2.2.2.2.2.2.2.2.2.2.2.2.2.2.2.2.2.2.2.2.2.2.2.2.2.2.2.2.2.2.1, z.2.2.1.2.2.2.2.2.2.2.2.2.2.2.2.2.2.2.2.2.2.2.2.2.2.2.2.2.2.2.2.2.2.2.2.2.2.2.2.2.2.2.2.2.2.2.2.2.2.2.2.2.2.2.2.2.2.2.1, z.2.2.1.2.2.2.2.2.2.2.2.2.2.2.2.2.2.2.2.2.2.2.2.2.2.2.2.2.2.2.2.2.2.2.2.2.2.2.2.2.2.2.2.2.2.2.2.2.2.2.2.2.2.2.2.2.2.2.2.1⟩, ⟨z.2.2.1.2.2.2.2.2.2.2.2.2.2.2.2.2.2.2.2.2.2.2.2.2.2.2.2.2.2.2.2.2.2.2.2.2.2.2.2.2.2.2.2.2.2.2.2.2.2.2.2.2.2.2.2.2.2.2.2.2.1, z.2.2.1.2.2.2.2.2.2.2.2.2.2.2.2.2.2.2.2.2.2.2.2.2.2.2.2.2.2.2.2.2.2.2.2.2.2.2.2.2.2.2.2.2.2.2.2.2.2.2.2.2.2.2.2.2.2.2.2.2.2.1, z.2.2.1.2.2.2.2.2.2.2.2.2.2.2.2.2.2.2.2.2.2.2.2.2.2.2.2.2.2.2.2.2.2.2.2.2.2.2.2.2.2.2.2.2.2.2.2.2.2.2.2.2.2.2.2.2.2.2.2.2.2.2.1, z.2.2.1.2.2.2.2.2.2.2.2.2.2.2.2.2.2.2.2.2.2.2.2.2.2.2.2.2.2.2.2.2.2.2.2.2.2.2.2.2.2.2.2.2.2.2.2.2.2.2.2.2.2.2.2.2.2.2.2.2.2.2.2.1, z.2.2.1.2.2.2.2.2.2.2.2.2.2.2.2.2.2.2.2.2.2.2.2.2.2.2.2.2.2.2.2.2.2.2.2.2.2.2.2.2.2.2.2.2.2.2.2.2.2.2.2.2.2.2.2.2.2.2.2.2.2.2.2.2.1, z.2.2.1.2.2.2.2.2.2.2.2.2.2.2.2.2.2.2.2.2.2.2.2.2.2.2.2.2.2.2.2.2.2.2.2.2.2.2.2.2.2.2.2.2.2.2.2.2.2.2.2.2.2.2.2.2.2.2.2.2.2.2.2.2.2.1, z.2.2.1.2.2.2.2.2.2.2.2.2.2.2.2.2.2.2.2.2.2.2.2.2.2.2.2.2.2.2.2.2.2.2.2.2.2.2.2.2.2.2.2.2.2.2.2.2.2.2.2.2.2.2.2.2.2.2.2.2.2.2.2.2.2.2.1, z.2.2.1.2.2.2.2.2.2.2.2.2.2.2.2.2.2.2.2.2.2.2.2.2.2.2.2.2.2.2.2.2.2.2.2.2.2.2.2.2.2.2.2.2.2.2.2.2.2.2.2.2.2.2.2.2.2.2.2.2.2.2.2.2.2.2.2.1, z.2.2.1.2.2.2.2.2.2.2.2.2.2.2.2.2.2.2.2.2.2.2.2.2.2.2.2.2.2.2.2.2.2.2.2.2.2.2.2.2.2.2.2.2.2.2.2.2.2.2.2.2.2.2.2.2.2.2.2.2.2.2.2.2.2.2.2.2.1, ⟨z.2.2.1.2.2.2.2.2.2.2.2.2.2.2.2.2.2.2.2.2.2.2.2.2.2.2.2.2.2.2.2.2.2.2.2.2.2.2.2.2.2.2.2.2.2.2.2.2.2.2.2.2.2.2.2.2.2.2.2.2.2.2.2.2.2.2.2.2.2.1, z.2.2.1.2.2.2.2.2.2.2.2.2.2.2.2.2.2.2.2.2.2.2.2.2.2.2.2.2.2.2.2.2.2.2.2.2.2.2.2.2.2.2.2.2.2.2.2.2.2.2.2.2.2.2.2.2.2.2.2.2.2.2.2.2.2.2.2.2.2.2.1, z.2.2.1.2.2.2.2.2.2.2.2.2.2.2.2.2.2.2.2.2.2.2.2.2.2.2.2.2.2.2.2.2.2.2.2.2.2.2.2.2.2.2.2.2.2.2.2.2.2.2.2.2.2.2.2.2.2.2.2.2.2.2.2.2.2.2.2.2.2.2.2.1, z.2.2.1.2.2.2.2.2.2.2.2.2.2.2.2.2.2.2.2.2.2.2.2.2.2.2.2.2.2.2.2.2.2.2.2.2.2.2.2.2.2.2.2.2.2.2.2.2.2.2.2.2.2.2.2.2.2.2.2.2.2.2.2.2.2.2.2.2.2.2.2.2.1⟩, z.2.2.1.2.2.2.2.2.2.2.2.2.2.2.2.2.2.2.2.2.2.2.2.2.2.2.2.2.2.2.2.2.2.2.2.2.2.2.2.2.2.2.2.2.2.2.2.2.2.2.2.2.2.2.2.2.2.2.2.2.2.2.2.2.2.2.2.2.2.2.2.2.2.1, z.2.2.2.2.2.2.1, z.2.2.1.2.2.2.2.2.2.2.2.2.2.2.2.2.2.2.2.2.2.2.2.2.2.2.2.2.2.2.2.2.2.2.2.2.2.2.2.2.2.2.2.2.2.2.2.2.2.2.2.2.2.2.2.2.2.2.2.2.2.2.2.2.2.2.2.2.2.2.2.2.2.2.2.1⟩, z.2.2.1.2.2.2.2.2.2.2.2.2.2.2.2.2.2.2.2.2.2.2.2.2.2.2.2.2.2.2.2.2.2.2.2.2.2.2.2.2.2.2.2.2.2.2.2.2.2.2.2.2.2.2.2.2.2.2.2.2.2.2.2.2.2.2.2.2.2.2.2.2.2.2.2.2.1, ⟨z.2.2.1.2.2.2.2.2.2.2.2.2.2.2.2.2.2.2.2.2.2.2.2.2.2.2.2.2.2.2.2.2.2.2.2.2.2.2.2.2.2.2.2.2.2.2.2.2.2.2.2.2.2.2.2.2.2.2.2.2.2.2.2.2.2.2.2.2.2.2.2.2.2.2.2.2.2.1, z.2.2.1.2.2.2.2.2.2.2.2.2.2.2.2.2.2.2.2.2.2.2.2.2.2.2.2.2.2.2.2.2.2.2.2.2.2.2.2.2.2.2.2.2.2.2.2.2.2.2.2.2.2.2.2.2.2.2.2.2.2.2.2.2.2.2.2.2.2.2.2.2.2.2.2.2.2.2.1⟩, ⟨z.2.2.1.2.2.2.2.2.2.2.2.2.2.2.2.2.2.2.2.2.2.2.2.2.2.2.2.2.2.2.2.2.2.2.2.2.2.2.2.2.2.2.2.2.2.2.2.2.2.2.2.2.2.2.2.2.2.2.2.2.2.2.2.2.2.2.2.2.2.2.2.2.2.2.2.2.2.2.2.1, z.2.2.1.2.2.2.2.2.2.2.2.2.2.2.2.2.2.2.2.2.2.2.2.2.2.2.2.2.2.2.2.2.2.2.2.2.2.2.2.2.2.2.2.2.2.2.2.2.2.2.2.2.2.2.2.2.2.2.2.2.2.2.2.2.2.2.2.2.2.2.2.2.2.2.2.2.2.2.2.2.1, z.2.2.1.2.2.2.2.2.2.2.2.2.2.2.2.2.2.2.2.2.2.2.2.2.2.2.2.2.2.2.2.2.2.2.2.2.2.2.2.2.2.2.2.2.2.2.2.2.2.2.2.2.2.2.2.2.2.2.2.2.2.2.2.2.2.2.2.2.2.2.2.2.2.2.2.2.2.2.2.2.2.1, z.2.2.1.2.2.2.2.2.2.2.2.2.2.2.2.2.2.2.2.2.2.2.2.2.2.2.2.2.2.2.2.2.2.2.2.2.2.2.2.2.2.2.2.2.2.2.2.2.2.2.2.2.2.2.2.2.2.2.2.2.2.2.2.2.2.2.2.2.2.2.2.2.2.2.2.2.2.2.2.2.2.2.1⟩, ⟨z.2.2.1.2.2.2.2.2.2.2.2.2.2.2.2.2.2.2.2.2.2.2.2.2.2.2.2.2.2.2.2.2.2.2.2.2.2.2.2.2.2.2.2.2.2.2.2.2.2.2.2.2.2.2.2.2.2.2.2.2.2.2.2.2.2.2.2.2.2.2.2.2.2.2.2.2.2.2.2.2.2.2.2.1, z.2.2.1.2.2.2.2.2.2.2.2.2.2.2.2.2.2.2.2.2.2.2.2.2.2.2.2.2.2.2.2.2.2.2.2.2.2.2.2.2.2.2.2.2.2.2.2.2.2.2.2.2.2.2.2.2.2.2.2.2.2.2.2.2.2.2.2.2.2.2.2.2.2.2.2.2.2.2.2.2.2.2.2.2.1, z.2.2.1.2.2.2.2.2.2.2.2.2.2.2.2.2.2.2.2.2.2.2.2.2.2.2.2.2.2.2.2.2.2.2.2.2.2.2.2.2.2.2.2.2.2.2.2.2.2.2.2.2.2.2.2.2.2.2.2.2.2.2.2.2.2.2.2.2.2.2.2.2.2.2.2.2.2.2.2.2.2.2.2.2.2.1, z.2.2.1.2.2.2.2.2.2.2.2.2.2.2.2.2.2.2.2.2.2.2.2.2.2.2.2.2.2.2.2.2.2.2.2.2.2.2.2.2.2.2.2.2.2.2.2.2.2.2.2.2.2.2.2.2.2.2.2.2.2.2.2.2.2.2.2.2.2.2.2.2.2.2.2.2.2.2.2.2.2.2.2.2.2.2.1⟩⟩ : Dedit), 0, ())

theorem L7b_eq (a : Daction) (args : List Darg) (h : EditSm a.edit) (hs : eqI (singleE a) 0 = true) :
    ∃ y, loopOf step7_15 (st7 args a.binds (0 : Int) a.edit) = some y ∧ res7 y = fillB args a.binds a.edit := by
  obtain ⟨hl, hbs⟩ := single_binds hs
  have := fold_loop (S := Dedit) (step := step7_15) a.binds (st := fun i e => st7 args a.binds (i : Int) e) (fun _ e => e.node.params.length = a.edit.node.params.length)
    (F := fun _ b e => match lookA args b.param with | some v => .inl (setE e b.field v) | none => .inr (.inl (((), (9 : Int), ()), (zeroE, ()))))
    (fin := fun e => .inr (((), (), ()), (zeroE, tupE e, e.node.mask.v, e.node.params, e.mask.v, e.brush.dynamics, ()))) (s := a.edit) rfl
    (fun i b e hb he => by
      obtain ⟨q1, q2⟩ := hbs i b hb
      cases hv : lookA args b.param with
      | none => exact step7_none args a.binds i b e hb hv
      | some v => exact step7_set args a.binds i b e v hb (by omega) hv q1 (by rw [he]; exact q2))
    (fun i b e e' hb he hF => by
      cases hv : lookA args b.param with
      | none => rw [hv] at hF; cases hF
      | some v => rw [hv] at hF; cases hF; rw [setE_len]; exact he)
    (fun e _ => by
      show (match ltI (a.binds.length : Int) (a.binds.length : Int) with | true => _ | false => _) = _
      rw [ltI_nat, decide_eq_false (Nat.lt_irrefl _)]
      rfl)
  refine ⟨_, this, ?_⟩
  unfold fillB
  refine (foldAt_map (S := Dedit) res7 (fun i b e => ?_) (fun e => ?_) a.binds 0 a.edit).symm
  · cases lookA args b.param <;> rfl
  · rfl

theorem g7_eq (a : Daction) (args : List Darg) (h : FillSm a args) : g7 a args = some (fillR a args) := by
  unfold g7 fillR
  rw [g21_eq]
  show (match (!(eqI (singleE a) 0)) with | true => some (zeroE, singleE a, ()) | false => _) = _
  cases hs : eqI (singleE a) 0 with
  | false => rfl
  | true =>
    have hE := h.edit
    refine (congrArg (fun o : Option Y7_6 => Option.bind o _) (L7a_eq a args h.args)).trans ?_
    cases hd : dupA args with
    | true => rfl
    | false =>
      show (g38 a.edit.node.mask.v).bind _ = _
      rw [g38_eq _ hE.nmask]
      show (g39 a.edit.node.image.pix).bind _ = _
      rw [g39_eq _ hE.nimage]
      show (g38 a.edit.node.params).bind _ = _
      rw [g38_eq _ hE.params]
      show (g40 a.edit.node.stops).bind _ = _
      rw [g40_eq _ hE.stops]
      show (g41 a.edit.node.segs).bind _ = _
      rw [g41_eq _ hE.segs]
      show (g42 a.edit.node.warp.d).bind _ = _
      rw [g42_eq _ hE.warp]
      show (g38 a.edit.mask.v).bind _ = _
      rw [g38_eq _ hE.mask]
      show (g39 a.edit.image.pix).bind _ = _
      rw [g39_eq _ hE.image]
      show (g43 a.edit.samples).bind _ = _
      rw [g43_eq _ hE.samples]
      show (g44 a.edit.brush.dynamics).bind _ = _
      rw [g44_eq _ hE.dynamics]
      refine (congrArg (fun o : Option Y22_7 => Option.bind o _) (L22_eq (tupE a.edit) a.edit.node.mask.v a.edit.node.params a.edit.mask.v a.edit.brush.dynamics zeroE hE.dynamics hE.curves)).trans ?_
      obtain ⟨y, h1, h2⟩ := L7b_eq a args hE hs
      refine (congrArg (fun o : Option Y7_15 => Option.bind o _) h1).trans ?_
      show _ = some (fillB args a.binds a.edit)
      rw [← h2]
      rcases y with y | y <;> rfl

/-! ## The reference's -/
/-- what the arguments so far make of an edit -/
def soFar (l : List Darg) (n f : List UInt8) (e : Dedit) : Bool × Dedit := match lookA l n with
  | some v => (true, setE e f v)
  | none => (false, e)

theorem soFar_snoc (l : List Darg) (x : Darg) (n f : List UInt8) (e : Dedit) : soFar (l ++ [x]) n f e = match eqS x.name n with
    | true => (true, setE (soFar l n f e).2 f x.value)
    | false => soFar l n f e := by
  unfold soFar
  rw [lookA_snoc, eqS_comm x.name n]
  cases eqS n x.name with
  | false => rfl
  | true =>
    cases lookA l n with
    | none => rfl
    | some v => simp only [setE_setE]

theorem soFar_sm {l : List Darg} {n f : List UInt8} {e : Dedit} (h : EditSm e) : EditSm (soFar l n f e).2 := by
  unfold soFar
  cases lookA l n with
  | none => exact h
  | some v => exact setE_sm h f v

theorem L8c_eq (a : Daction) (args : List Darg) (i : Nat) (b : Dbind) (e : Dedit) (hb : a.binds[i]? = some b) (ha : args.length ≤ 4611686018427387904) (he : EditSm e) :
    loopOf step8_18 (((args, (), (), (), (i : Int), false, (0 : Int), ()), (a, zeroE, e, ())) : D8_18.X) = some ((args, (), (), (), (i : Int), (soFar args b.param b.field e).1, ()), (a, zeroE, (soFar args b.param b.field e).2, ())) := by
  have := calm_loop (step := step8_18) args.length (st := fun k => (((args, (), (), (), (i : Int), (soFar (args.take k) b.param b.field e).1, (k : Int), ()), (a, zeroE, (soFar (args.take k) b.param b.field e).2, ())) : D8_18.X))
    (y := ((args, (), (), (), (i : Int), (soFar args b.param b.field e).1, ()), (a, zeroE, (soFar args b.param b.field e).2, ()))) (fun k hk => by
      have hx := List.getElem?_eq_getElem hk
      have hsm := soFar_sm (l := args.take k) (n := b.param) (f := b.field) he
      have key : ∀ p p' : Bool × Dedit, EditSm p.2 → p' = (match eqS args[k].name b.param with | true => (true, setE p.2 b.field args[k].value) | false => p) →
          step8_18 (((args, (), (), (), (i : Int), p.1, (k : Int), ()), (a, zeroE, p.2, ())) : D8_18.X) = some (.inl (((args, (), (), (), (i : Int), p'.1, ((k + 1 : Nat) : Int), ()), (a, zeroE, p'.2, ())) : D8_18.X)) := by
        intro p p' hsm hp
        subst hp
        rw [← addI_one k (by omega)]
        show (match ltI (k : Int) (args.length : Int) with | true => _ | false => _) = _
        rw [ltI_nat, decide_eq_true hk]
        show (ix args (k : Int)).bind _ = _
        rw [ix_nat, hx]
        show (ix a.binds (i : Int)).bind _ = _
        rw [ix_nat, hb]
        show (match eqS args[k].name b.param with | true => _ | false => _) = _
        cases eqS args[k].name b.param with
        | false => rfl
        | true =>
          show (g24 p.2 b.field args[k].value).bind _ = _
          rw [g24_eq _ _ _ hsm.params]
          rfl
      exact key _ _ hsm (by rw [take_snoc hx, soFar_snoc])) (by
    show (match ltI (args.length : Int) (args.length : Int) with | true => _ | false => _) = _
    rw [ltI_nat, decide_eq_false (Nat.lt_irrefl _), List.take_length])
  exact this

def res8 (y : Y8_14) : Dedit × Int × Unit := match y with
  | .inl z => (z.2.1, z.1.2.1, ())
  | .inr z => (z.2.2.1, 0, ())

theorem L8b_eq (a : Daction) (args : List Darg) (h : EditSm a.edit) (ha : args.length ≤ 4611686018427387904) (hs : eqI (singleE a) 0 = true) :
    ∃ y, loopOf step8_14 (((args, (), (), (), (0 : Int), ()), (a, zeroE, a.edit, ())) : D8_14.X) = some y ∧ res8 y = fillB args a.binds a.edit := by
  obtain ⟨hl, _⟩ := single_binds hs
  have := fold_loop (S := Dedit) (step := step8_14) a.binds (st := fun i e => (((args, (), (), (), (i : Int), ()), (a, zeroE, e, ())) : D8_14.X)) (fun _ e => EditSm e)
    (F := fun _ b e => match lookA args b.param with | some v => .inl (setE e b.field v) | none => .inr (.inl (((), (9 : Int), ()), (zeroE, ()))))
    (fin := fun e => .inr (((), (), ()), (zeroE, e, ()))) (s := a.edit) h
    (fun i b e hb he => by
      have hi := get_lt hb
      show (match ltI (i : Int) (a.binds.length : Int) with | true => _ | false => _) = _
      rw [ltI_nat, decide_eq_true hi]
      refine (congrArg (fun o : Option Y8_18 => Option.bind o _) (L8c_eq a args i b e hb ha he)).trans ?_
      unfold soFar
      cases lookA args b.param with
      | none => rfl
      | some v =>
        show some (Sum.inl (((args, (), (), (), (addI .i64 (i : Int) 1), ()), (a, zeroE, setE e b.field v, ())) : D8_14.X)) = _
        rw [addI_one i (by omega)]; rfl)
    (fun i b e e' hb he hF => by
      cases hv : lookA args b.param with
      | none => rw [hv] at hF; cases hF
      | some v => rw [hv] at hF; cases hF; exact setE_sm he _ _)
    (fun e _ => by
      show (match ltI (a.binds.length : Int) (a.binds.length : Int) with | true => _ | false => _) = _
      rw [ltI_nat, decide_eq_false (Nat.lt_irrefl _)])
  refine ⟨_, this, ?_⟩
  unfold fillB
  refine (foldAt_map (S := Dedit) res8 (fun i b e => ?_) (fun e => ?_) a.binds 0 a.edit).symm
  · cases lookA args b.param <;> rfl
  · rfl

theorem checkE_one (a : Daction) : checkE [a] = singleE a := by
  unfold checkE
  rw [show ltI 256 (([a].length : Nat) : Int) = false from rfl]
  dsimp only
  unfold foldAt errOr
  cases h : eqI (singleE a) 0 with
  | true =>
    simp only [eqI, beq_iff_eq] at h
    rw [h]; rfl
  | false => rfl

theorem g8_eq (a : Daction) (args : List Darg) (h : FillSm a args) : g8 a args = some (fillR a args) := by
  unfold g8 fillR
  rw [g18_eq [a] (fun x hx => by rw [List.mem_singleton] at hx; subst hx; exact h.names), checkE_one]
  show (match (!(eqI (singleE a) 0)) with | true => some (zeroE, singleE a, ()) | false => _) = _
  cases hs : eqI (singleE a) 0 with
  | false => rfl
  | true =>
    refine (congrArg (fun o : Option Y8_5 => Option.bind o _) (L8a_eq a args h.args)).trans ?_
    cases hd : dupA args with
    | true => rfl
    | false =>
      obtain ⟨y, h1, h2⟩ := L8b_eq a args h.edit h.args hs
      refine (congrArg (fun o : Option Y8_14 => Option.bind o _) h1).trans ?_
      show _ = some (fillB args a.binds a.edit)
      rw [← h2]
      rcases y with y | y <;> rfl

theorem fillB_sm (args : List Darg) : ∀ (binds : List Dbind) (i : Nat) (e : Dedit), EditSm e → EditSm zeroE → EditSm (foldAt (fun _ b e => match lookA args b.param with | some v => .inl (setE e b.field v) | none => .inr ((zeroE, 9, ()) : Dedit × Int × Unit)) (fun e => ((e, 0, ()) : Dedit × Int × Unit)) binds i e).1
  | [], _, e, h, _ => h
  | b :: l, i, e, h, hz => by
    unfold foldAt
    cases lookA args b.param with
    | none => exact hz
    | some v => exact fillB_sm args l (i + 1) (setE e b.field v) (setE_sm h _ _) hz

theorem zeroE_sm : EditSm zeroE := ⟨by decide, by decide, by decide, by decide, by decide, by decide, by decide, by decide, by decide, by decide, fun x hx => by cases hx⟩

theorem fillR_sm (a : Daction) (args : List Darg) (h : FillSm a args) : EditSm (fillR a args).1 := by
  unfold fillR
  cases eqI (singleE a) 0 with
  | false => exact zeroE_sm
  | true =>
    cases dupA args with
    | true => exact zeroE_sm
    | false => exact fillB_sm args _ _ _ h.edit zeroE_sm

end Am
