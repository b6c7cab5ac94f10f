/- Descriptors of states: typed data in and out. Definitions only. -/
import Derived.Test.YtlogoccciaopnaaGreatDoorAmX
namespace Am
open Go
variable {U : TyU} {R : Type}

/-- a value at a place that is known -/
inductive VD (U : TyU) where
  | ty (t : U.T)
  | cell (c : Cell U.T)
  | ptr (j sz i o : Nat)
  | row (j sz : Nat)
  | map (j : Nat)
  | nilp
  /-- a function that holds pointers -/
  | fn (g : FuncId) (ps : List (Nat × Nat × Nat × Nat))
  /-- a function that holds pointers to frozen data -/
  | fnt (g : FuncId) (l : List (U.T × Nat))
  /-- a slice of a row that the caller keeps -/
  | bor (t : U.T)

def FPs : List (U.T × Nat) → Type
  | [] => Unit
  | d :: l => U.den d.1 × FPs l

def VD.den : VD U → Type
  | .ty t => U.den t
  | .cell c => c.den U.toTyU0
  | .fnt _ l => FPs l
  | .bor t => List (U.den t)
  | _ => Unit

def VDs : List (VD U) → Type
  | [] => Unit
  | d :: l => d.den × VDs l

def Slots : List (Nat × VD U) → Type
  | [] => Unit
  | d :: l => d.2.den × Slots l

inductive BD (U : TyU) where
  | tbox (t : U.T)
  | cells (l : List (VD U))
  | row (t : U.T)
  | tm (kt vt : U.T)

def BD.den : BD U → Type
  | .tbox t => U.den t
  | .cells l => VDs l
  | .row t => List (U.den t)
  | .tm kt vt => List (U.den kt × U.den vt)

def BDs : List (BD U) → Type
  | [] => Unit
  | d :: l => d.den × BDs l

structure Desc (U : TyU) where
  n : Nat
  slots : List (Nat × VD U)
  blocks : List (BD U)

def Desc.X (D : Desc U) : Type := Slots D.slots × BDs D.blocks

/-! ## Out of data -/
def encPs : List (Nat × Nat × Nat × Nat) → List (AV U)
  | [] => []
  | (j, sz, i, o) :: l => .ptr j sz i o :: encPs l

def encFPs : (l : List (U.T × Nat)) → FPs l → List (AV U)
  | [], _ => []
  | d :: l, x => .fptr (enc d.1 x.1) d.2 :: encFPs l x.2

def encVD : (d : VD U) → d.den → AV U
  | .ty t, x => encV t x
  | .cell c, x => encC c x
  | .ptr j sz i o, _ => .ptr j sz i o
  | .row j sz, _ => .mrow j sz
  | .map j, _ => .map j
  | .nilp, _ => .nilp
  | .fn g ps, _ => .fn (.func g) [] (encPs ps)
  | .fnt g l, x => .fn (.func g) [] (encFPs l x)
  | .bor t, xs => .bsl t xs

def encVDs : (l : List (VD U)) → VDs l → List (AV U)
  | [], _ => []
  | d :: l, x => encVD d x.1 :: encVDs l x.2

def encSlots : (l : List (Nat × VD U)) → Slots l → List (AV U) → List (AV U)
  | [], _, fr => fr
  | d :: l, x, fr => encSlots l x.2 (fr.set d.1 (encVD d.2 x.1))

def encBD : (d : BD U) → d.den → Blk U
  | .tbox t, x => .box (enc t x)
  | .cells l, x => .box (encVDs l x)
  | .row t, xs => .row t xs
  | .tm kt vt, es => .tm kt vt es

def encBDs : (l : List (BD U)) → BDs l → Heap U
  | [], _ => []
  | d :: l, x => some (encBD d x.1) :: encBDs l x.2

def Desc.enc (D : Desc U) (x : D.X) : St U := { fr := encSlots D.slots x.1 (List.replicate D.n .junk), H := encBDs D.blocks x.2 }

/-! ## Into data; 'ρ': where each block is ('none': nowhere yet, and empty) -/
def isAt (ρ : List (Option Nat)) (j k : Nat) : Bool := match ρ[j]? with
  | some (some k') => Nat.beq k' k
  | _ => false

def isVirt (ρ : List (Option Nat)) (j : Nat) : Bool := match ρ[j]? with
  | some none => true
  | _ => false

def unitIf (b : Bool) : Option Unit := match b with
  | true => some ()
  | false => none

def matchPs (ρ : List (Option Nat)) : List (Nat × Nat × Nat × Nat) → List (AV U) → Bool
  | [], [] => true
  | (j, sz, i, o) :: l, .ptr k sz' i' o' :: r => isAt ρ j k && Nat.beq sz sz' && Nat.beq i i' && Nat.beq o o' && matchPs ρ l r
  | _, _ => false

def matchFPs : (l : List (U.T × Nat)) → List (AV U) → Option (FPs l)
  | [], [] => some ()
  | d :: l, .fptr cs o :: r => match Nat.beq d.2 o with
    | true => match dec d.1 cs with
      | some x => match matchFPs l r with
        | some y => some (x, y)
        | none => none
      | none => none
    | false => none
  | _, _ => none

def matchVD (ρ : List (Option Nat)) : (d : VD U) → AV U → Option d.den
  | .ty t, v => decV t v
  | .cell c, v => decC c v
  | .ptr j sz i o, .ptr k sz' i' o' => unitIf (isAt ρ j k && Nat.beq sz sz' && Nat.beq i i' && Nat.beq o o')
  | .row j sz, .mrow k sz' => unitIf (isAt ρ j k && Nat.beq sz sz')
  | .row j _, .nilsl => unitIf (isVirt ρ j)
  | .map j, .map k => unitIf (isAt ρ j k)
  | .nilp, .nilp => some ()
  | .fn g ps, .fn (.func g') [] cs => unitIf (Nat.beq g g' && matchPs ρ ps cs)
  | .fnt g l, .fn (.func g') [] cs => match Nat.beq g g' with
    | true => matchFPs l cs
    | false => none
  | .bor t, .bsl t' xs => match U.deq t' t with
    | .isTrue h => some (h ▸ xs)
    | .isFalse _ => none
  | _, _ => none

def matchVDs (ρ : List (Option Nat)) : (l : List (VD U)) → List (AV U) → Option (VDs l)
  | [], [] => some ()
  | d :: l, v :: vs => match matchVD ρ d v with
    | some x => match matchVDs ρ l vs with
      | some y => some (x, y)
      | none => none
    | none => none
  | _, _ => none

def matchSlots (ρ : List (Option Nat)) (fr : List (AV U)) : (l : List (Nat × VD U)) → Option (Slots l)
  | [] => some ()
  | d :: l => match matchVD ρ d.2 (fr.getD d.1 .junk) with
    | some x => match matchSlots ρ fr l with
      | some y => some (x, y)
      | none => none
    | none => none

def matchBD (ρ : List (Option Nat)) (H : Heap U) : (d : BD U) → Option Nat → Option d.den
  | .tbox t, some k => match H.get k with
    | some (.box cs) => dec t cs
    | _ => none
  | .cells l, some k => match H.get k with
    | some (.box cs) => matchVDs ρ l cs
    | _ => none
  | .row t, some k => match H.get k with
    | some (.row t' xs) => match U.deq t' t with
      | .isTrue h => some (h ▸ xs)
      | .isFalse _ => none
    | _ => none
  | .row _, none => some []
  | .tm kt vt, some k => match H.get k with
    | some (.tm a b es) => match U.deq a kt, U.deq b vt with
      | .isTrue h, .isTrue h' => some (h ▸ h' ▸ es)
      | _, _ => none
    | _ => none
  | _, _ => none

def matchBDs (ρ : List (Option Nat)) (H : Heap U) : (l : List (BD U)) → List (Option Nat) → Option (BDs l)
  | [], [] => some ()
  | d :: l, k :: ks => match matchBD ρ H d k with
    | some x => match matchBDs ρ H l ks with
      | some y => some (x, y)
      | none => none
    | none => none
  | _, _ => none

def somes : List (Option Nat) → List Nat
  | [] => []
  | some k :: l => k :: somes l
  | none :: l => somes l

def distinct : List Nat → Bool
  | [] => true
  | k :: l => match mem k l with
    | true => false
    | false => distinct l

/-! ### A guess where each block is -/
def guessPs : List (Option Nat) → List (Nat × Nat × Nat × Nat) → List (AV U) → List (Option Nat)
  | ρ, (j, _) :: l, .ptr k _ _ _ :: r => guessPs (ρ.set j (some k)) l r
  | ρ, _, _ => ρ

def guessVD (ρ : List (Option Nat)) : VD U → AV U → List (Option Nat)
  | .ptr j _ _ _, .ptr k _ _ _ => ρ.set j (some k)
  | .row j _, .mrow k _ => ρ.set j (some k)
  | .map j, .map k => ρ.set j (some k)
  | .fn _ ps, .fn _ _ cs => guessPs ρ ps cs
  | _, _ => ρ

def guessVDs : List (Option Nat) → List (VD U) → List (AV U) → List (Option Nat)
  | ρ, d :: l, v :: vs => guessVDs (guessVD ρ d v) l vs
  | ρ, _, _ => ρ

def guessSlots (fr : List (AV U)) : List (Option Nat) → List (Nat × VD U) → List (Option Nat)
  | ρ, [] => ρ
  | ρ, d :: l => guessSlots fr (guessVD ρ d.2 (fr.getD d.1 .junk)) l

def guessBDs (H : Heap U) : List (Option Nat) → List (BD U) → Nat → List (Option Nat)
  | ρ, [], _ => ρ
  | ρ, .cells l :: r, j => guessBDs H (match ρ[j]? with
    | some (some k) => match H.get k with
      | some (.box cs) => guessVDs ρ l cs
      | _ => ρ
    | _ => ρ) r (j + 1)
  | ρ, _ :: r, j => guessBDs H ρ r (j + 1)

def Desc.guess (D : Desc U) (st : St U) : List (Option Nat) := guessBDs st.H (guessSlots st.fr (List.replicate D.blocks.length none) D.slots) D.blocks 0

/-! ### What must be frozen -/
def frzVD : VD U → AV U → List Nat
  | .ty _, v => refs v
  | .cell _, v => refs v
  | _, _ => []

def frzVDs : List (VD U) → List (AV U) → List Nat
  | d :: l, v :: vs => frzVD d v ++ frzVDs l vs
  | _, _ => []

def frzSlots (fr : List (AV U)) : List (Nat × VD U) → List Nat
  | [] => []
  | d :: l => frzVD d.2 (fr.getD d.1 .junk) ++ frzSlots fr l

def frzBDs (H : Heap U) : List (BD U) → List (Option Nat) → List Nat
  | .tbox _ :: l, some k :: ks => (match H.get k with
    | some (.box cs) => refsL cs
    | _ => []) ++ frzBDs H l ks
  | .cells ds :: l, some k :: ks => (match H.get k with
    | some (.box cs) => frzVDs ds cs
    | _ => []) ++ frzBDs H l ks
  | _ :: l, _ :: ks => frzBDs H l ks
  | _, _ => []

def Desc.check (D : Desc U) (ρ : List (Option Nat)) (st : St U) : Option D.X := match Nat.beq st.fr.length D.n && distinct (somes ρ) with
  | true => match matchSlots ρ st.fr D.slots with
    | some x => match matchBDs ρ st.H D.blocks ρ with
      | some y => some (x, y)
      | none => none
    | none => none
  | false => none

def Desc.dec (D : Desc U) (st : St U) : Option (D.X × Heap U) :=
  (fun st : St U => (fun ρ => match D.check ρ st with
    | some x => some (x, killH (somes ρ) st.H)
    | none => none) (D.guess st)) (freezeSt (frzSlots st.fr D.slots ++ frzBDs st.H D.blocks (D.guess st)) st)

def Desc.go (D : Desc U) (st : St U) : Option D.X := match D.dec st with
  | some x => some x.1
  | none => none

/-! ## A state of its own, put behind a heap -/
mutual
def shift (n : Nat) : AV U → AV U
  | .ptr k sz i o => .ptr (n + k) sz i o
  | .mrow k sz => .mrow (n + k) sz
  | .msl k sz lo len => .msl (n + k) sz lo len
  | .map k => .map (n + k)
  | .fptr cs o => .fptr (shiftL n cs) o
  | .bsl _ _ | .bptr _ _ => .junk
  | .brow k el => .brow (n + k) el
  | .tptr k el => .tptr (n + k) el
  | .fn f a b => .fn f (shiftL n a) (shiftL n b)
  | .iface t v => .iface t (shift n v)
  | .agg cs => .agg (shiftL n cs)
  | .tup vs => .tup (shiftL n vs)
  | v => v
def shiftL (n : Nat) : List (AV U) → List (AV U)
  | [] => []
  | v :: l => shift n v :: shiftL n l
end

def shiftB (n : Nat) : Blk U → Blk U
  | .box cs => .box (shiftL n cs)
  | .urow sz es => .urow sz (es.map (shiftL n))
  | b => b

def shiftH (n : Nat) : Heap U → Heap U
  | [] => []
  | none :: l => none :: shiftH n l
  | some b :: l => some (shiftB n b) :: shiftH n l

def pushSt (H : Heap U) (st : St U) : St U := { fr := shiftL H.length st.fr, H := H ++ shiftH H.length st.H }

/-! ## Loops -/
def iter {X Y : Type} (step : X → Option (X ⊕ Y)) : Nat → X → Option Y
  | 0, _ => none
  | n + 1, x => match step x with
    | some (.inl x) => iter step n x
    | some (.inr y) => some y
    | none => none

open Classical in
noncomputable def loopOf {X Y : Type} (step : X → Option (X ⊕ Y)) (x : X) : Option Y := if h : ∃ n y, iter step n x = some y then some h.choose_spec.choose else none

/-- a loop whose data is 'D'; 'outs': the states behind it -/
def loopCut (D : Desc U) {Y : Type} (L : D.X → Option Y) (outs : Y → AExit × St U) (kont : {R : Type} → Y → (AExit → St U → Option R) → Option R) : Cut U :=
  { X := D.X, Y := Y, dec := D.dec, fn := L, out := fun y H => ((outs y).1, pushSt H (outs y).2), outk := fun y H k => kont y fun ex st => k ex (pushSt H st) }

end Am
