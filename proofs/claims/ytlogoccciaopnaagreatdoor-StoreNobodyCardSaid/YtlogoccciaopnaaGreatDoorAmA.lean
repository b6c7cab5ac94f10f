/- The abstract machine: a deterministic evaluator of the model's code over abstract values (frozen typed data, and a local heap of mutable blocks). Definitions only. -/
import GoSem.Step
namespace Am
open Go

/-! ## Typed data -/
inductive Cell (T : Type) where
  | int (k : IntKind) | bool | str | sl (t : T)

structure TyU0 where
  T : Type
  deq : DecidableEq T
  den : T → Type
  shape : T → List (Cell T)

def Cell.den (U : TyU0) : Cell U.T → Type
  | .int _ => Int
  | .bool => Bool
  | .str => List UInt8
  | .sl t => List (U.den t)

def Tup (U : TyU0) : List (Cell U.T) → Type
  | [] => Unit
  | c :: r => c.den U × Tup U r

structure TyU extends TyU0 where
  tup : (t : T) → den t → Tup toTyU0 (shape t)
  untup : (t : T) → Tup toTyU0 (shape t) → den t
  tup_untup : ∀ t x, tup t (untup t x) = x
  /-- a value of the type is one '.agg' (a struct or an array), not one cell -/
  isAgg : T → Bool

instance (U : TyU) : DecidableEq U.T := U.deq

/-! ## Abstract values -/
inductive AV (U : TyU) : Type where
  | junk
  | bool (b : Bool)
  | int (k : IntKind) (n : Int)
  | str (s : List UInt8)
  | nilp
  | ptr (k sz i o : Nat)
  | fptr (cs : List (AV U)) (o : Nat)
  | nilsl
  | fsl (t : U.T) (xs : List (U.den t))
  /-- a slice of a row that the caller keeps, and a pointer into it -/
  | bsl (t : U.T) (xs : List (U.den t))
  | bptr (cs : List (AV U)) (o : Nat)
  /-- the same, and not nil -/
  | nsl (t : U.T) (xs : List (U.den t))
  | mrow (k sz : Nat)
  /-- the same, of bytes: it begins where its block begins, whose elements are of that type -/
  | brow (k : Nat) (el : TypeId)
  /-- a pointer to a block of two cells, of that type -/
  | tptr (k : Nat) (el : TypeId)
  | msl (k sz lo len : Nat)
  | nilmap
  | map (k : Nat)
  | fn (f : Fn) (first captured : List (AV U))
  | nilfn
  | iface (t : TypeId) (v : AV U)
  | nilif
  | agg (cs : List (AV U))
  | tup (vs : List (AV U))

variable {U : TyU}

def encC : (c : Cell U.T) → c.den U.toTyU0 → AV U
  | .int k, n => .int k n
  | .bool, b => .bool b
  | .str, s => .str s
  | .sl t, xs => .fsl t xs

def encT : (sh : List (Cell U.T)) → Tup U.toTyU0 sh → List (AV U)
  | [], _ => []
  | c :: r, x => encC c x.1 :: encT r x.2

/-- the cells of an element -/
def enc (t : U.T) (x : U.den t) : List (AV U) := encT (U.shape t) (U.tup t x)

def IntKind.same : IntKind → IntKind → Bool
  | .i8, .i8 | .i16, .i16 | .i32, .i32 | .i64, .i64 | .u8, .u8 | .u16, .u16 | .u32, .u32 | .u64, .u64 => true
  | _, _ => false

def decC : (c : Cell U.T) → AV U → Option (c.den U.toTyU0)
  | .int k, .int k' n => match IntKind.same k k' with | true => some n | false => none
  | .bool, .bool b => some b
  | .str, .str s => some s
  | .sl _, .nilsl => some []
  | .sl t, .fsl t' xs => match U.deq t' t with
    | .isTrue h => some (h ▸ xs)
    | .isFalse _ => none
  | .sl t, .nsl t' xs => match U.deq t' t with
    | .isTrue h => some (h ▸ xs)
    | .isFalse _ => none
  | _, _ => none

def decT : (sh : List (Cell U.T)) → List (AV U) → Option (Tup U.toTyU0 sh)
  | [], [] => some ()
  | c :: r, a :: l => match decC c a with
    | some x => match decT r l with
      | some y => some (x, y)
      | none => none
    | none => none
  | _, _ => none

def dec (t : U.T) (cs : List (AV U)) : Option (U.den t) := match decT (U.shape t) cs with
  | some x => some (U.untup t x)
  | none => none

/-- a typed value as one value: an '.agg', or its one cell -/
def encV (t : U.T) (x : U.den t) : AV U := match U.isAgg t with
  | true => .agg (enc t x)
  | false => (enc t x).headD .junk

def cellsOf : AV U → List (AV U)
  | .agg cs => cs
  | v => [v]

def decV (t : U.T) (v : AV U) : Option (U.den t) := match U.isAgg t, v with
  | true, .agg cs => dec t cs
  | false, .agg _ => none
  | false, v => dec t [v]
  | true, _ => none

/-! ## The heap -/
inductive Blk (U : TyU) where
  | box (cs : List (AV U))
  | row (t : U.T) (xs : List (U.den t))
  | urow (sz : Nat) (es : List (List (AV U)))
  | tm (kt vt : U.T) (es : List (U.den kt × U.den vt))

abbrev Heap (U : TyU) := List (Option (Blk U))

def Heap.get (H : Heap U) (k : Nat) : Option (Blk U) := match H[k]? with
  | some b => b
  | none => none

structure St (U : TyU) where
  fr : List (AV U)
  H : Heap U

/-! ## The tables of types -/
inductive TK where
  | int (k : IntKind) | bool | str
  | struct (fs : List (Nat × TypeId))
  | array (n : Nat) (e : TypeId)
  | slice (e : TypeId)
  | map (k v : TypeId)
  | ptr (e : TypeId)
  | func | iface | tuple

inductive FK where
  | i | s | b

structure TI (U : TyU) where
  size : Nat
  bytes : Nat
  tk : TK
  /-- the zero value's cells -/
  zero : List (AV U)
  ty : Option U.T
  /-- where all cells are integers, bools and strings, and '==' is theirs: what they are -/
  flat : List FK

def TK.isAgg : TK → Bool
  | .struct _ | .array _ _ => true
  | _ => false

/-! ## Scalar operations -/
def addI (k : IntKind) (a b : Int) : Int := k.wrap (a + b)
def subI (k : IntKind) (a b : Int) : Int := k.wrap (a - b)
def mulI (k : IntKind) (a b : Int) : Int := k.wrap (a * b)
def quoI (k : IntKind) (a b : Int) : Int := k.wrap (a.tdiv b)
def remI (a b : Int) : Int := a.tmod b
def shlI (k : IntKind) (a b : Int) : Int := k.wrap (a * 2 ^ (min b.toNat k.bits))
def shrI (k : IntKind) (a b : Int) : Int := a.fdiv (2 ^ (min b.toNat k.bits))
def andI (k : IntKind) (a b : Int) : Int := k.wrap (BitVec.ofInt k.bits a &&& BitVec.ofInt k.bits b).toNat
def orI (k : IntKind) (a b : Int) : Int := k.wrap (BitVec.ofInt k.bits a ||| BitVec.ofInt k.bits b).toNat
def xorI (k : IntKind) (a b : Int) : Int := k.wrap (BitVec.ofInt k.bits a ^^^ BitVec.ofInt k.bits b).toNat
def andNotI (k : IntKind) (a b : Int) : Int := k.wrap (BitVec.ofInt k.bits a &&& ~~~BitVec.ofInt k.bits b).toNat
def eqI (a b : Int) : Bool := a == b
def ltI (a b : Int) : Bool := decide (a < b)
def leI (a b : Int) : Bool := decide (a ≤ b)
def eqS (a b : List UInt8) : Bool := a == b
def eqB (a b : Bool) : Bool := a == b
def inB (n : Int) (len : Nat) : Bool := decide (0 ≤ n) && decide (n < len)
def upTo (n : Int) (len : Nat) : Bool := decide (0 ≤ n) && decide (n ≤ len)
/-- an element by an integer index -/
def ix {α : Type} (xs : List α) (n : Int) : Option α := match decide (0 ≤ n) with
  | true => xs[n.toNat]?
  | false => none
def chk {R : Type} (b : Bool) (x : Option R) : Option R := match b with
  | true => x
  | false => none

/-- lists longer than this (in bytes) are never made -/
def roomy (n bytes : Nat) : Bool := decide (n * bytes ≤ 140737488355328) || decide ((n + n / 4 + 192) * bytes ≤ 281474976710656)

def eqCells : List FK → List (AV U) → List (AV U) → Option Bool
  | [], [], [] => some true
  | .i :: ks, .int k a :: xs, .int k' b :: ys => match IntKind.same k k' with
    | true => match eqCells ks xs ys with
      | some r => some (eqI a b && r)
      | none => none
    | false => none
  | .s :: ks, .str a :: xs, .str b :: ys => match eqCells ks xs ys with
    | some r => some (eqS a b && r)
    | none => none
  | .b :: ks, .bool a :: xs, .bool b :: ys => match eqCells ks xs ys with
    | some r => some (eqB a b && r)
    | none => none
  | _, _, _ => none

def intOp (op : BinOp) (k : IntKind) (a b : Int) : Option (AV U) := match op with
  | .add => some (.int k (addI k a b))
  | .sub => some (.int k (subI k a b))
  | .mul => some (.int k (mulI k a b))
  | .and => some (.int k (andI k a b))
  | .or => some (.int k (orI k a b))
  | .xor => some (.int k (xorI k a b))
  | .andNot => some (.int k (andNotI k a b))
  | .eql => some (.bool (eqI a b))
  | .neq => some (.bool (!eqI a b))
  | .lss => some (.bool (ltI a b))
  | .leq => some (.bool (leI a b))
  | .gtr => some (.bool (ltI b a))
  | .geq => some (.bool (leI b a))
  | _ => none

def ltS (a b : List UInt8) : Bool := Op.bytesLess a b

/-- which slices are nil -/
def isNilS : AV U → Option Bool
  | .nilsl => some true
  | .nsl .. => some false
  | _ => none

/-- which pointers are nil -/
def isNil : AV U → Option Bool
  | .nilp => some true
  | .ptr .. | .fptr .. | .bptr .. => some false
  | _ => none

end Am
