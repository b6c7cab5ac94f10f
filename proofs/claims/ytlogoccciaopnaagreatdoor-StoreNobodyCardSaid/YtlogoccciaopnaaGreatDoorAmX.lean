/- The abstract machine's operations and its evaluator. Definitions only. The abstract machine's evaluator of regions and code. Definitions only. -/
import Derived.Test.YtlogoccciaopnaaGreatDoorAmA
namespace Am
open Go
variable {U : TyU}

/-! ## References -/
mutual
def refs : AV U → List Nat
  | .ptr k _ _ _ => [k]
  | .mrow k _ => [k]
  | .brow k _ => [k]
  | .tptr k _ => [k]
  | .msl k _ _ _ => [k]
  | .map k => [k]
  | .fptr cs _ => refsL cs
  | .bsl _ _ | .bptr _ _ => [1000000]
  | .fn _ a b => refsL a ++ refsL b
  | .iface _ v => refs v
  | .agg cs => refsL cs
  | .tup vs => refsL vs
  | _ => []
def refsL : List (AV U) → List Nat
  | [] => []
  | v :: l => refs v ++ refsL l
end

mutual
/-- the value with its slices of rows as frozen data -/
def frz (H : Heap U) : AV U → Option (AV U)
  | .mrow k sz => match H.get k with
    | some (.row t xs) => match Nat.beq sz (U.shape t).length with
      | true => some (.fsl t xs)
      | false => none
    | _ => none
  | .msl k sz lo len => match H.get k with
    | some (.row t xs) => match Nat.beq sz (U.shape t).length && Nat.ble (lo + len) xs.length with
      | true => some (.fsl t ((xs.drop lo).take len))
      | false => none
    | _ => none
  | .ptr k _ i o => match H.get k with
    | some (.box cs) => match refsL cs with
      | [] => match Nat.beq i 0 with
        | true => some (.fptr cs o)
        | false => none
      | _ => none
    | _ => none
  | .map _ | .junk | .bsl _ _ | .bptr _ _ | .brow _ _ | .tptr _ _ => none
  | .fptr cs o => match refsL cs with
    | [] => some (.fptr cs o)
    | _ => none
  | .fn f a b => match frzL H a with
    | some a => match frzL H b with
      | some b => some (.fn f a b)
      | none => none
    | none => none
  | .iface t v => match frz H v with
    | some v => some (.iface t v)
    | none => none
  | .agg cs => match frzL H cs with
    | some cs => some (.agg cs)
    | none => none
  | .tup vs => match frzL H vs with
    | some vs => some (.tup vs)
    | none => none
  | v => some v
def frzL (H : Heap U) : List (AV U) → Option (List (AV U))
  | [] => some []
  | v :: l => match frz H v with
    | some v => match frzL H l with
      | some l => some (v :: l)
      | none => none
    | none => none
end

/-- a row, lent for one call -/
def borV1 (H : Heap U) (v : AV U) : Option (AV U) := match refs v with
  | [] => some v
  | _ => match v with
    | .mrow k sz => match H.get k with
      | some (.row t xs) => match Nat.beq sz (U.shape t).length with
        | true => some (.bsl t xs)
        | false => none
      | _ => none
    | _ => none
def borL1 (H : Heap U) : List (AV U) → Option (List (AV U))
  | [] => some []
  | v :: l => match borV1 H v with
    | some v => match borL1 H l with
      | some l => some (v :: l)
      | none => none
    | none => none
/-- the same, or a pointer to a block that holds such -/
def borV (H : Heap U) (v : AV U) : Option (AV U) := match v with
  | .ptr k sz i o => match H.get k with
    | some (.box cs) => match Nat.beq i 0 with
      | true => match borL1 H cs with
        | some cs => some (.bptr cs o)
        | none => none
      | false => none
    | _ => none
  | v => borV1 H v
def borL (H : Heap U) : List (AV U) → Option (List (AV U))
  | [] => some []
  | v :: l => match borV H v with
    | some v => match borL H l with
      | some l => some (v :: l)
      | none => none
    | none => none

def mem (k : Nat) : List Nat → Bool
  | [] => false
  | j :: l => match Nat.beq j k with
    | true => true
    | false => mem k l

mutual
/-- slices of the rows 'ids' become frozen data -/
def sub (H : Heap U) (ids : List Nat) : AV U → AV U
  | .mrow k sz => match mem k ids with
    | true => match H.get k with
      | some (.row t xs) => match Nat.beq sz (U.shape t).length with
        | true => .fsl t xs
        | false => .mrow k sz
      | _ => .mrow k sz
    | false => .mrow k sz
  | .msl k sz lo len => match mem k ids with
    | true => match H.get k with
      | some (.row t xs) => match Nat.beq sz (U.shape t).length && Nat.ble (lo + len) xs.length with
        | true => .fsl t ((xs.drop lo).take len)
        | false => .msl k sz lo len
      | _ => .msl k sz lo len
    | false => .msl k sz lo len
  | .fn f a b => .fn f (subL H ids a) (subL H ids b)
  | .iface t v => .iface t (sub H ids v)
  | .agg cs => .agg (subL H ids cs)
  | .tup vs => .tup (subL H ids vs)
  | v => v
def subL (H : Heap U) (ids : List Nat) : List (AV U) → List (AV U)
  | [] => []
  | v :: l => sub H ids v :: subL H ids l
end

def subB (H : Heap U) (ids : List Nat) : Blk U → Blk U
  | .box cs => .box (subL H ids cs)
  | .urow sz es => .urow sz (es.map (subL H ids))
  | b => b

def killH : List Nat → Heap U → Heap U
  | [], H => H
  | k :: l, H => killH l (H.set k none)

def subH (H : Heap U) (ids : List Nat) : Heap U → Heap U
  | [] => []
  | none :: l => none :: subH H ids l
  | some b :: l => some (subB H ids b) :: subH H ids l

def freezeSt (ids : List Nat) (st : St U) : St U := match ids with
  | [] => st
  | _ => { fr := subL st.H ids st.fr, H := killH ids (subH st.H ids st.H) }

/-! ## Contracts, cuts, the environment -/
structure Own (U : TyU) where
  t : U.T
  xs : List (U.den t)

structure Con (U : TyU) where
  β : Type
  app : List (AV U) → Option β
  ret : β → AV U
  flat : Bool
  /-- the result is a row of its own -/
  own : β → Option (Own U) := fun _ => none
  /-- rows may be lent to it -/
  bor : Bool := false

inductive AExit where
  | normal | exit (id : Nat) | ret

/-- a loop: out of a state its own data and the heap of all else; what comes of it; the state behind it -/
structure Cut (U : TyU) where
  X : Type
  Y : Type
  dec : St U → Option (X × Heap U)
  fn : X → Option Y
  out : Y → Heap U → AExit × St U
  /-- the same, for what follows -/
  outk : {R : Type} → Y → Heap U → (AExit → St U → Option R) → Option R

/-- a function of one row: it turns the row in its place, or takes it and hands it back as frozen data -/
structure Proc (U : TyU) where
  t : U.T
  fn : List (U.den t) → Option (List (U.den t))
  eat : Bool

structure Env (U : TyU) where
  ti : TypeId → Option (TI U)
  fn : FuncId → Option Func
  con : FuncId → Option (Con U)
  cuts : FuncId → Nat → List (Cut U)
  proc : FuncId → Option (Proc U) := fun _ => none
  /-- strings.Builder: pointers to it keep its type -/
  isBld : TypeId → Bool := fun _ => false
  /-- functions that are not run: what they hand back, and the heap behind them -/
  spec : FuncId → Option (List (AV U) → Heap U → Option (AV U × Heap U)) := fun _ => none

/-! ## Operations -/
def ofVal : Value → AV U
  | .bool b => .bool b
  | .int k n => .int k n
  | .string s => .str s.data.toList
  | .pointer none => .nilp
  | .slice none 0 0 => .nilsl
  | .map none => .nilmap
  | .nilFunc => .nilfn
  | .nilIface => .nilif
  | _ => .junk

def ev (fr : List (AV U)) : Operand → AV U
  | .tmp t => fr.getD t .junk
  | .const v => ofVal v
  | .func f => .fn (.func f) [] []
  | .global _ => .junk

section ops
variable {R : Type} (G : Env U)

def okCell : AV U → Bool
  | .junk | .agg _ | .tup _ | .bsl _ _ | .bptr _ _ => false
  | _ => true

def okCells : List (AV U) → Bool
  | [] => true
  | c :: l => match okCell c with
    | true => okCells l
    | false => false

/-- a pointer to a new block -/
def allocV (bld : Bool) (e : TypeId) (size : Nat) (zero : List (AV U)) (k : Nat) : AV U := match bld, zero with
  | true, [_, _] => .tptr k e
  | _, _ => .ptr k size 0 0

/-- what is done at a pointer into a row that the caller keeps -/
def bptrK (v : AV U) (f : List (AV U) → Nat → Option R) : Option R := match v with
  | .bptr cs o => f cs o
  | _ => none

/-- what is done with a slice of a row that the caller keeps -/
def bslK (v : AV U) (f : (t : U.T) → List (U.den t) → Option R) : Option R := match v with
  | .bsl t xs => f t xs
  | _ => none

theorem bptrK_inv {v : AV U} {f : List (AV U) → Nat → Option R} {r : R} (h : bptrK v f = some r) : ∃ cs o, v = .bptr cs o ∧ f cs o = some r := by
  unfold bptrK at h
  split at h
  · exact ⟨_, _, rfl, h⟩
  · cases h

theorem bslK_inv {v : AV U} {f : (t : U.T) → List (U.den t) → Option R} {r : R} (h : bslK v f = some r) : ∃ t xs, v = .bsl t xs ∧ f t xs = some r := by
  unfold bslK at h
  split at h
  · exact ⟨_, _, rfl, h⟩
  · cases h

def partK (i : TI U) (cs : List (AV U)) (o : Nat) (k : AV U → Option R) : Option R := match i.tk.isAgg with
  | true => match Nat.beq ((cs.drop o).take i.size).length i.size with
    | true => k (.agg ((cs.drop o).take i.size))
    | false => none
  | false => match cs[o]? with
    | some c => k c
    | none => none

def setCells (cs : List (AV U)) (o : Nat) (vs : List (AV U)) : List (AV U) := cs.take o ++ vs ++ cs.drop (o + vs.length)

def loadK (t : TypeId) (p : AV U) (H : Heap U) (k : AV U → Option R) : Option R := match G.ti t with
  | none => none
  | some i => match p with
    | .ptr kk sz ii o => match H.get kk with
      | some (.box cs) => match Nat.beq ii 0 with
        | true => partK i cs o k
        | false => none
      | some (.row t xs) => match Nat.beq sz (U.shape t).length with
        | true => (xs[ii]?).bind fun x => partK i (enc t x) o k
        | false => none
      | some (.urow sz' es) => match Nat.beq sz sz' with
        | true => (es[ii]?).bind fun cs => partK i cs o k
        | false => none
      | _ => none
    | .fptr cs o => partK i cs o k
    | v => bptrK v fun cs o => partK i cs o k

def storeK (t : TypeId) (p v : AV U) (H : Heap U) (k : Heap U → Option R) : Option R := match G.ti t with
  | none => none
  | some i => match Nat.beq (cellsOf v).length i.size with
    | false => none
    | true => match okCells (cellsOf v) with
      | false => none
      | true => match p with
        | .ptr kk sz ii o => match H.get kk with
          | some (.box cs) => match Nat.beq ii 0 with
            | false => none
            | true => match Nat.ble (o + i.size) cs.length with
              | true => k (H.set kk (some (.box (setCells cs o (cellsOf v)))))
              | false => none
          | some (.row t xs) => match Nat.beq sz (U.shape t).length with
            | true => (xs[ii]?).bind fun x => match Nat.ble (o + i.size) (enc t x).length with
              | true => match dec t (setCells (enc t x) o (cellsOf v)) with
                | some y => k (H.set kk (some (.row t (xs.set ii y))))
                | none => none
              | false => none
            | false => none
          | some (.urow sz' es) => match Nat.beq sz sz' with
            | true => (es[ii]?).bind fun cs => match Nat.ble (o + i.size) cs.length with
              | true => k (H.set kk (some (.urow sz' (es.set ii (setCells cs o (cellsOf v))))))
              | false => none
            | false => none
          | _ => none
        | _ => none

/-- a field's offset and type -/
def fieldOf (i : TI U) (f : Nat) : Option (Nat × TypeId) := match i.tk with
  | .struct fs => fs[f]?
  | _ => none

def fieldAddrK (s : TypeId) (p : AV U) (f : Nat) (k : AV U → Option R) : Option R := match G.ti s with
  | none => none
  | some i => match fieldOf i f with
    | none => none
    | some (off, t) => match G.ti t with
      | none => none
      | some j => match Nat.beq j.size 0 with
        | true => none
        | false => match p with
          | .ptr kk sz ii o => k (.ptr kk sz ii (o + off))
          | .fptr cs o => k (.fptr cs (o + off))
          | .tptr kk _ => k (.ptr kk 2 0 (0 + off))
          | v => bptrK v fun cs o => k (.bptr cs (o + off))

/-- how many elements a mutable row has -/
def rowLen (H : Heap U) (k : Nat) : Option Nat := match H.get k with
  | some (.row _ xs) => some xs.length
  | some (.urow _ es) => some es.length
  | _ => none

def indexAddrK (t : TypeId) (x ind : AV U) (H : Heap U) (k : AV U → Option R) : Option R := match G.ti t with
  | none => none
  | some i => match i.tk, ind with
    | .slice e, .int _ n => match G.ti e with
      | none => none
      | some j => match x with
        | .fsl t xs => match Nat.beq j.size (U.shape t).length with
          | true => (ix xs n).bind fun x => k (.fptr (enc t x) 0)
          | false => none
        | .mrow kk sz => match Nat.beq j.size sz, rowLen H kk with
          | true, some len => chk (inB n len) (k (.ptr kk sz n.toNat 0))
          | _, _ => none
        | .msl kk sz lo len => match Nat.beq j.size sz with
          | true => chk (inB n len) (k (.ptr kk sz (lo + n.toNat) 0))
          | false => none
        | v => bslK v fun t xs => match Nat.beq j.size (U.shape t).length with
          | true => (ix xs n).bind fun x => k (.bptr (enc t x) 0)
          | false => none
    | .array len e, .int _ n => match G.ti e with
      | none => none
      | some j => match inB n len with
        | false => none
        | true => match x with
          | .ptr kk sz ii o => k (.ptr kk sz ii (o + n.toNat * j.size))
          | .fptr cs o => k (.fptr cs (o + n.toNat * j.size))
          | _ => none
    | _, _ => none

def indexK (t : TypeId) (x ind : AV U) (k : AV U → Option R) : Option R := match G.ti t with
  | none => none
  | some i => match i.tk, x, ind with
    | .str, .str s, .int _ n => (ix s n).bind fun b => k (.int .u8 b.toNat)
    | .array len e, .agg cs, .int _ n => match G.ti e with
      | none => none
      | some j => match inB n len with
        | false => none
        | true => partK j cs (n.toNat * j.size) k
    | _, _, _ => none

def binOpK (op : BinOp) (t : TypeId) (x y : AV U) (k : AV U → Option R) : Option R := match x, y with
  | .int ka a, .int kb b => match op with
    | .shl => chk (leI 0 b) (k (.int ka (shlI ka a b)))
    | .shr => chk (leI 0 b) (k (.int ka (shrI ka a b)))
    | .quo => match IntKind.same ka kb with
      | true => chk (!eqI b 0) (k (.int ka (quoI ka a b)))
      | false => none
    | .rem => match IntKind.same ka kb with
      | true => chk (!eqI b 0) (k (.int ka (remI a b)))
      | false => none
    | _ => match IntKind.same ka kb with
      | true => match intOp op ka a b with
        | some v => k v
        | none => none
      | false => none
  | .str a, .str b => match op with
    | .add => chk (decide (a.length + b.length ≤ 4611686018427387904)) (k (.str (a ++ b)))
    | .eql => k (.bool (eqS a b))
    | .neq => k (.bool (!eqS a b))
    | .lss => k (.bool (ltS a b))
    | .leq => k (.bool (ltS a b || eqS a b))
    | .gtr => k (.bool (!(ltS a b || eqS a b)))
    | .geq => k (.bool (!ltS a b))
    | _ => none
  | .bool a, .bool b => match G.ti t with
    | some { tk := .bool, .. } => match op with
      | .eql => k (.bool (eqB a b))
      | .neq => k (.bool (!eqB a b))
      | _ => none
    | _ => none
  | .agg a, .agg b => match G.ti t with
    | some i => match i.flat with
      | [] => none
      | ks => match eqCells ks a b with
        | some r => match op with
          | .eql => k (.bool r)
          | .neq => k (.bool (!r))
          | _ => none
        | none => none
    | none => none
  | .nilsl, v => match isNilS v, G.ti t with
    | some r, some { tk := .slice _, .. } => match op with
      | .eql => k (.bool r)
      | .neq => k (.bool (!r))
      | _ => none
    | _, _ => none
  | v, .nilsl => match isNilS v, G.ti t with
    | some r, some { tk := .slice _, .. } => match op with
      | .eql => k (.bool r)
      | .neq => k (.bool (!r))
      | _ => none
    | _, _ => none
  | .nilp, v => match isNil v, G.ti t with
    | some r, some { tk := .ptr _, .. } => match op with
      | .eql => k (.bool r)
      | .neq => k (.bool (!r))
      | _ => none
    | _, _ => none
  | v, .nilp => match isNil v, G.ti t with
    | some r, some { tk := .ptr _, .. } => match op with
      | .eql => k (.bool r)
      | .neq => k (.bool (!r))
      | _ => none
    | _, _ => none
  | _, _ => none

def unOpK (op : UnOp) (x : AV U) (k : AV U → Option R) : Option R := match op, x with
  | .not, .bool b => k (.bool (!b))
  | .neg, .int kk n => k (.int kk (subI kk 0 n))
  | .xor, .int kk n => k (.int kk (xorI kk (match kk.signed with | true => -1 | false => kk.max) n))
  | _, _ => none

/-- the parts of a literal, laid into the zero value's cells -/
def fillL (place : Nat → Option (Nat × Nat)) (cells : List (AV U)) : List (Nat × AV U) → Option (List (AV U))
  | [] => some cells
  | (i, v) :: rest => match place i with
    | none => none
    | some (off, size) => match Nat.beq (cellsOf v).length size with
      | false => none
      | true => match Nat.ble (off + size) cells.length with
        | true => match okCells (cellsOf v) with
          | true => fillL place (setCells cells off (cellsOf v)) rest
          | false => none
        | false => none

def fieldPlaces : List (Nat × TypeId) → Option (List (Nat × Nat))
  | [] => some []
  | (o, t) :: l => match G.ti t with
    | none => none
    | some j => match fieldPlaces l with
      | some r => some ((o, j.size) :: r)
      | none => none

def buildK (t : TypeId) (parts : List (Nat × AV U)) (k : AV U → Option R) : Option R := match G.ti t with
  | none => none
  | some i => match i.tk with
    | .struct fs => match fieldPlaces G fs with
      | none => none
      | some pl => match fillL (fun n => pl[n]?) i.zero parts with
        | some cs => k (.agg cs)
        | none => none
    | .array _ e => match G.ti e with
      | none => none
      | some j => match fillL (fun n => some (n * j.size, j.size)) i.zero parts with
        | some cs => k (.agg cs)
        | none => none
    | _ => none

/-- the elements of a slice literal: a part, or zero -/
def litElems (j : TI U) (parts : List (Nat × AV U)) : Nat → Nat → Option (List (List (AV U)))
  | 0, _ => some []
  | n + 1, i => match litElems j parts n (i + 1) with
    | none => none
    | some r => match parts.find? (fun p => Nat.beq p.1 i) with
      | none => some (j.zero :: r)
      | some p => match Nat.beq (cellsOf p.2).length j.size with
        | false => none
        | true => match okCells (cellsOf p.2) with
          | true => some (cellsOf p.2 :: r)
          | false => none

def decAll (t : U.T) : List (List (AV U)) → Option (List (U.den t))
  | [] => some []
  | e :: l => match dec t e with
    | some x => match decAll t l with
      | some r => some (x :: r)
      | none => none
    | none => none

def rowOf (j : TI U) (es : List (List (AV U))) : Option (Blk U) := match j.ty with
  | some t => match Nat.beq j.size (U.shape t).length with
    | true => match decAll t es with
      | some xs => some (.row t xs)
      | none => none
    | false => none
  | none => some (.urow j.size es)

def ascending (len : Nat) : List (Nat × AV U) → Nat → Bool
  | [], _ => true
  | p :: l, n => match Nat.ble n p.1 with
    | true => match Nat.ble (p.1 + 1) len with
      | true => ascending len l (p.1 + 1)
      | false => false
    | false => false

def buildSliceK (t : TypeId) (len : Nat) (parts : List (Nat × AV U)) (H : Heap U) (k : AV U → Heap U → Option R) : Option R := match G.ti t with
  | some { tk := .slice e, .. } => match G.ti e with
    | none => none
    | some j => match Nat.beq j.size 0 with
      | true => none
      | false => match ascending len parts 0 with
        | false => none
        | true => match Nat.ble (len * j.size) 16777216 with
          | false => none
          | true => match litElems j parts len 0 with
            | none => none
            | some es => match rowOf j es with
              | none => none
              | some b => k (.mrow H.length j.size) (H ++ [some b])
  | _ => none

def sliceK (t : TypeId) (x : AV U) (lo hi : Option (AV U)) (H : Heap U) (k : AV U → Option R) : Option R := match G.ti t with
  | none => none
  | some i => match i.tk, x with
    | .str, .str s => match lo, hi with
      | none, none => k (.str s)
      | some (.int _ a), none => chk (upTo a s.length) (k (.str (s.drop a.toNat)))
      | none, some (.int _ b) => chk (upTo b s.length) (k (.str (s.take b.toNat)))
      | some (.int _ a), some (.int _ b) => chk (upTo b s.length) (chk (upTo a b.toNat) (k (.str ((s.take b.toNat).drop a.toNat))))
      | _, _ => none
    | .slice e, .fsl t s => match G.ti e with
      | none => none
      | some j => match Nat.beq j.size (U.shape t).length with
        | false => none
        | true => match lo, hi with
          | none, none => k (.fsl t s)
          | some (.int _ a), none => chk (upTo a s.length) (k (.fsl t (s.drop a.toNat)))
          | none, some (.int _ b) => chk (upTo b s.length) (k (.fsl t (s.take b.toNat)))
          | some (.int _ a), some (.int _ b) => chk (upTo b s.length) (chk (upTo a b.toNat) (k (.fsl t ((s.take b.toNat).drop a.toNat))))
          | _, _ => none
    | .slice e, .mrow kk sz => match G.ti e, rowLen H kk with
      | some j, some len => match Nat.beq j.size sz with
        | false => none
        | true => match lo, hi with
          | none, none => k (.mrow kk sz)
          | some (.int _ a), none => chk (upTo a len) (k (.msl kk sz a.toNat (len - a.toNat)))
          | none, some (.int _ b) => chk (upTo b len) (k (.msl kk sz 0 b.toNat))
          | some (.int _ a), some (.int _ b) => chk (upTo b len) (chk (upTo a b.toNat) (k (.msl kk sz a.toNat (b.toNat - a.toNat))))
          | _, _ => none
      | _, _ => none
    | .slice e, .msl kk sz l len => match G.ti e with
      | none => none
      | some j => match Nat.beq j.size sz with
        | false => none
        | true => match lo, hi with
          | none, none => k (.msl kk sz l len)
          | some (.int _ a), none => chk (upTo a len) (k (.msl kk sz (l + a.toNat) (len - a.toNat)))
          | none, some (.int _ b) => chk (upTo b len) (k (.msl kk sz l b.toNat))
          | some (.int _ a), some (.int _ b) => chk (upTo b len) (chk (upTo a b.toNat) (k (.msl kk sz (l + a.toNat) (b.toNat - a.toNat))))
          | _, _ => none
    | _, _ => none

def byteL : List (List (AV U)) → Option (List UInt8)
  | [] => some []
  | [.int .u8 n] :: l => match leI 0 n && ltI n 256 with
    | true => match byteL l with
      | some r => some (UInt8.ofNat n.toNat :: r)
      | none => none
    | false => none
  | _ => none

/-- the bytes of a row -/
def rowBytes (H : Heap U) (k : Nat) : Option (List UInt8) := match H.get k with
  | some (.row t xs) => match Nat.beq (U.shape t).length 1 with
    | true => byteL (xs.map (enc t))
    | false => none
  | _ => none

/-- the bytes of a slice of bytes -/
def bytesOf (H : Heap U) : AV U → Option (List UInt8)
  | .nilsl => some []
  | .mrow k sz => match Nat.beq sz 1 with
    | true => rowBytes H k
    | false => none
  | .brow k _ => rowBytes H k
  | _ => none

def convertK (src dst : TypeId) (x : AV U) (H : Heap U) (k : AV U → Heap U → Option R) : Option R := match G.ti src, G.ti dst with
  | some i, some j => match i.tk, j.tk, x with
    | .int _, .int kd, .int _ n => k (.int kd (kd.wrap n)) H
    | .str, .str, .str s => k (.str s) H
    | .str, .slice e, .str s => match G.ti e with
      | some { tk := .int .u8, size := 1, ty := some t, .. } => match dec t [.int .u8 0] with
        | some z => k (.mrow H.length 1) (H ++ [some (.row t (s.map fun b => match dec t [.int .u8 b.toNat] with
          | some x => x
          | none => z))])
        | none => none
      | _ => none
    | .slice e, .str, x => match G.ti e with
      | some { tk := .int .u8, size := 1, .. } => match bytesOf H x with
        | some s => k (.str s) H
        | none => none
      | _ => none
    | _, _, _ => none
  | _, _ => none

def makeSliceK (t : TypeId) (len cap : AV U) (H : Heap U) (k : AV U → Heap U → Option R) : Option R := match G.ti t, len, cap with
  | some { tk := .slice e, .. }, .int .i64 n, .int .i64 c => match G.ti e with
    | none => none
    | some j => match Nat.beq j.size 0 || Nat.beq j.bytes 0 with
      | true => none
      | false => chk (leI 0 n && leI n c && roomy c.toNat j.bytes) (match j.ty with
        | some t => match Nat.beq j.size (U.shape t).length with
          | true => match dec t j.zero with
            | some z => k (.mrow H.length j.size) (H ++ [some (.row t (List.replicate n.toNat z))])
            | none => none
          | false => none
        | none => k (.mrow H.length j.size) (H ++ [some (.urow j.size (List.replicate n.toNat j.zero))]))
  | _, _, _ => none

/-- what a slice holds, as data of the row's kind -/
def elemsT (t : U.T) (H : Heap U) : AV U → Option (List (U.den t))
  | .nilsl => some []
  | .fsl t' xs => match U.deq t' t with
    | .isTrue h => some (h ▸ xs)
    | .isFalse _ => none
  | .nsl t' xs => match U.deq t' t with
    | .isTrue h => some (h ▸ xs)
    | .isFalse _ => none
  | .mrow k sz => match H.get k with
    | some (.row t' xs) => match U.deq t' t, Nat.beq sz (U.shape t).length with
      | .isTrue h, true => some (h ▸ xs)
      | _, _ => none
    | _ => none
  | .msl k sz lo len => match H.get k with
    | some (.row t' xs) => match U.deq t' t, Nat.beq sz (U.shape t).length && Nat.ble (lo + len) xs.length with
      | .isTrue h, true => some (h ▸ ((xs.drop lo).take len))
      | _, _ => none
    | _ => none
  | .str s => match Nat.beq (U.shape t).length 1 with
    | true => match dec t [.int .u8 0] with
      | some z => some (s.map fun b => match dec t [.int .u8 b.toNat] with
        | some x => x
        | none => z)
      | none => none
    | false => none
  | _ => none

/-- the same, cell by cell; 'size': an element's cells -/
def elemsU (size : Nat) (H : Heap U) : AV U → Option (List (List (AV U)))
  | .nilsl => some []
  | .fsl t xs => match Nat.beq size (U.shape t).length with
    | true => some (xs.map (enc t))
    | false => none
  | .nsl t xs => match Nat.beq size (U.shape t).length with
    | true => some (xs.map (enc t))
    | false => none
  | .str s => match Nat.beq size 1 with
    | true => some (s.map fun b => [.int .u8 b.toNat])
    | false => none
  | .mrow k sz => match H.get k with
    | some (.row t xs) => match Nat.beq size sz && Nat.beq sz (U.shape t).length with
      | true => some (xs.map (enc t))
      | false => none
    | some (.urow sz' es) => match Nat.beq size sz && Nat.beq sz sz' with
      | true => some es
      | false => none
    | _ => none
  | .msl k sz lo len => match H.get k with
    | some (.row t xs) => match Nat.beq size sz && Nat.beq sz (U.shape t).length && Nat.ble (lo + len) xs.length with
      | true => some (((xs.drop lo).take len).map (enc t))
      | false => none
    | some (.urow sz' es) => match Nat.beq size sz && Nat.beq sz sz' && Nat.ble (lo + len) es.length with
      | true => some ((es.drop lo).take len)
      | false => none
    | _ => none
  | _ => none

/-- the old elements may be those of a mutable slice, or none -/
def baseOk : AV U → Bool
  | .nilsl | .mrow .. | .msl .. => true
  | _ => false

def baseKill : AV U → Heap U → Heap U
  | .msl k _ _ _, H | .mrow k _, H => H.set k none
  | _, H => H

def appendK (e : TypeId) (s x : AV U) (H : Heap U) (k : AV U → Heap U → Option R) : Option R := match G.ti e with
  | none => none
  | some j => match Nat.beq j.size 0 || Nat.beq j.bytes 0, baseOk s with
    | false, true => match j.ty with
      | some t => match Nat.beq j.size (U.shape t).length with
        | true => match elemsT t H s, elemsT t H x with
          | some a, some b => chk (roomy (a.length + b.length) j.bytes) (k (.mrow H.length j.size) (baseKill s H ++ [some (.row t (a ++ b))]))
          | _, _ => none
        | false => none
      | none => match elemsU j.size H s, elemsU j.size H x with
        | some a, some b => chk (roomy (a.length + b.length) j.bytes) (k (.mrow H.length j.size) (baseKill s H ++ [some (.urow j.size (a ++ b))]))
        | _, _ => none
    | _, _ => none

/-- append, where bytes stay known as bytes -/
def toB (e : TypeId) (v : AV U) : AV U := match v with
  | .mrow k _ => .brow k e
  | v => v

def isByte (i : Option (TI U)) : Bool := match i with
  | some { tk := .int .u8, size := 1, ty := some _, .. } => true
  | _ => false

def appendB (e : TypeId) (s x : AV U) (H : Heap U) (k : AV U → Heap U → Option R) : Option R := match isByte (G.ti e) with
  | false => appendK G e s x H k
  | true => match s with
    | .nilsl => appendK G e .nilsl x H fun v H => k (toB e v) H
    | .brow kk el => match Nat.beq el e with
      | true => match rowLen H kk with
        | some (_ + 1) => appendK G e (.mrow kk 1) x H fun v H => k (toB e v) H
        | _ => none
      | false => none
    | s => appendK G e s x H k

def lenK (x : AV U) (H : Heap U) (k : AV U → Option R) : Option R := match x with
  | .str s => k (.int .i64 s.length)
  | .nilsl => k (.int .i64 0)
  | .fsl _ xs => k (.int .i64 xs.length)
  | .mrow kk _ => match rowLen H kk with
    | some len => k (.int .i64 len)
    | none => none
  | .msl _ _ _ len => k (.int .i64 len)
  | .brow kk _ => match rowLen H kk with
    | some len => k (.int .i64 len)
    | none => none
  | .nilmap => k (.int .i64 0)
  | .map kk => match H.get kk with
    | some (.tm _ _ es) => k (.int .i64 es.length)
    | _ => none
  | v => bslK v fun _ xs => k (.int .i64 xs.length)

def lenTk : TK → AV U → Bool
  | .str, .str _ => true
  | .slice _, .nilsl | .slice _, .fsl _ _ | .slice _, .bsl _ _ | .slice _, .mrow _ _ | .slice _, .brow _ _ | .slice _, .msl _ _ _ _ => true
  | .map _ _, .nilmap | .map _ _, .map _ => true
  | _, _ => false

def minI (k : IntKind) : List (AV U) → Int → Option Int
  | [], a => some a
  | .int _ b :: l, a => minI k l (if b < a then b else a)
  | _, _ => none
def maxI (k : IntKind) : List (AV U) → Int → Option Int
  | [], a => some a
  | .int _ b :: l, a => maxI k l (if b > a then b else a)
  | _, _ => none

def builtinK (b : Builtin) (ts : List TypeId) (args : List (AV U)) (H : Heap U) (k : AV U → Heap U → Option R) : Option R := match b, args with
  | .len, [x] => match ts with
    | [t] => match G.ti t with
      | some i => match lenTk i.tk x with
        | true => lenK x H fun v => k v H
        | false => none
      | none => none
    | _ => none
  | .append, [s, x] => match ts with
    | [t, tx] => match G.ti t, G.ti tx with
      | some { tk := .slice e, .. }, some { tk := .slice _, .. } | some { tk := .slice e, .. }, some { tk := .str, .. } => appendB G e s x H k
      | _, _ => none
    | _ => none
  | .min, .int kk a :: l => match minI kk l a with
    | some r => k (.int kk r) H
    | none => none
  | .max, .int kk a :: l => match maxI kk l a with
    | some r => k (.int kk r) H
    | none => none
  | _, _ => none

/-! ## Maps whose keys are integers or strings -/
def keyEq (t : U.T) (x y : U.den t) : Bool := match enc t x, enc t y with
  | [.int _ m], [.int _ n] => eqI m n
  | [.str a], [.str b] => eqS a b
  | _, _ => false

def keyOk (t : U.T) (k : TK) : Bool := match U.isAgg t, U.shape t, k with
  | false, [.int k], .int k' => IntKind.same k k'
  | false, [.str], .str => true
  | _, _, _ => false

def lookL {α β : Type} (eq : α → α → Bool) (x : α) : List (α × β) → Option β
  | [] => none
  | (a, b) :: l => match eq x a with
    | true => some b
    | false => lookL eq x l

def setL {α β : Type} (eq : α → α → Bool) (x : α) (v : β) : List (α × β) → List (α × β)
  | [] => [(x, v)]
  | (a, b) :: l => match eq x a with
    | true => (x, v) :: l
    | false => (a, b) :: setL eq x v l

def zeroV (j : TI U) : AV U := match j.tk.isAgg with
  | true => .agg j.zero
  | false => j.zero.headD .junk

def okK (commaOk : Bool) (v : AV U) (ok : Bool) (k : AV U → Option R) : Option R := match commaOk with
  | true => k (.tup [v, .bool ok])
  | false => k v

def lookupK (t : TypeId) (m key : AV U) (commaOk : Bool) (H : Heap U) (k : AV U → Option R) : Option R := match G.ti t with
  | some { tk := .map kt vt, .. } => match G.ti kt, G.ti vt with
    | some i, some j => match m with
      | .map kk => match H.get kk with
        | some (.tm a b es) => match keyOk a i.tk with
          | true => match decV a key with
            | some x => match lookL (keyEq a) x es with
              | some y => okK commaOk (encV b y) true k
              | none => okK commaOk (zeroV j) false k
            | none => none
          | false => none
        | _ => none
      | _ => none
    | _, _ => none
  | _ => none

def mapUpdateK (t : TypeId) (m key v : AV U) (H : Heap U) (k : Heap U → Option R) : Option R := match G.ti t with
  | some { tk := .map kt _, .. } => match G.ti kt with
    | some i => match m with
      | .map kk => match H.get kk with
        | some (.tm a b es) => match keyOk a i.tk with
          | true => match decV a key with
            | some x => match decV b v with
              | some y => k (H.set kk (some (.tm a b (setL (keyEq a) x y es))))
              | none => none
            | none => none
          | false => none
        | _ => none
      | _ => none
    | none => none
  | _ => none

/-- a slice that holds something is not nil -/
def filled (H : Heap U) : AV U → Bool
  | .mrow k _ | .brow k _ => match rowLen H k with
    | some (_ + 1) => true
    | _ => false
  | .msl _ _ _ (_ + 1) => true
  | _ => false
def nilTest (H : Heap U) (x y : AV U) : Bool := match y with
  | .nilsl => filled H x
  | _ => match x with
    | .nilsl => filled H y
    | _ => false

variable (call : FuncId → List (AV U) → Heap U → (AV U → Heap U → Option R) → Option R)

def isNilList : List Nat → Bool
  | [] => true
  | _ => false

def callK (f : FuncId) (args : List (AV U)) (H : Heap U) (k : AV U → Heap U → Option R) : Option R := match G.con f with
  | some C => match C.flat || isNilList (refsL args) with
    | true => match frzL H args with
      | some args => (C.app args).bind fun r => match C.own r with
        | none => k (C.ret r) H
        | some o => k (.mrow H.length (U.shape o.t).length) (H ++ [some (.row o.t o.xs)])
      | none => none
    | false => match borL H args with
      | some args => (C.app args).bind fun r => match C.own r with
        | none => k (C.ret r) H
        | some _ => none
      | none => none
  | none => match G.proc f with
    | some p => match args with
      | [.mrow kk sz] => match H.get kk with
        | some (.row t xs) => match U.deq t p.t with
          | .isTrue h => match Nat.beq sz (U.shape t).length with
            | true => (p.fn (h ▸ xs)).bind fun ys => match p.eat with
              | true => k (.fsl p.t ys) (H.set kk none)
              | false => k (.tup []) (H.set kk (some (.row p.t ys)))
            | false => none
          | .isFalse _ => none
        | _ => none
      | _ => none
    | none => call f args H k

def evs (fr : List (AV U)) : List Operand → List (AV U)
  | [] => []
  | o :: l => ev fr o :: evs fr l

def evParts (fr : List (AV U)) : List (Nat × Operand) → List (Nat × AV U)
  | [] => []
  | (i, o) :: l => (i, ev fr o) :: evParts fr l

def opK (op : Op) (fr : List (AV U)) (H : Heap U) (k : AV U → Heap U → Option R) : Option R := match op with
  | .move x | .assign x => k (ev fr x) H
  | .pick c a b => match ev fr c with
    | .bool t => match t with
      | true => k (ev fr a) H
      | false => k (ev fr b) H
    | _ => none
  | .alloc e => match G.ti e with
    | some i => k (allocV (G.isBld e) e i.size i.zero H.length) (H ++ [some (.box i.zero)])
    | none => none
  | .box e x => match G.ti e with
    | some i => match Nat.beq (cellsOf (ev fr x)).length i.size with
      | true => match okCells (cellsOf (ev fr x)) with
        | true => k (.ptr H.length i.size 0 0) (H ++ [some (.box (cellsOf (ev fr x)))])
        | false => none
      | false => none
    | none => none
  | .build t parts => buildK G t (evParts fr parts.toList) fun v => k v H
  | .buildSlice t len parts => buildSliceK G t len (evParts fr parts.toList) H k
  | .load t a => loadK G t (ev fr a) H fun v => k v H
  | .store t a x => storeK G t (ev fr a) (ev fr x) H fun H => k .junk H
  | .nilCheck x => match ev fr x with
    | .ptr kk sz i o => k (.ptr kk sz i o) H
    | .fptr cs o => k (.fptr cs o) H
    | .fn (.func f) a b => k (.fn (.func f) a b) H
    | .tptr kk el => k (.tptr kk el) H
    | v => bptrK v fun cs o => k (.bptr cs o) H
  | .binOp op t x y _ => match nilTest H (ev fr x) (ev fr y) with
    | true => match G.ti t, op with
      | some { tk := .slice _, .. }, .eql => k (.bool false) H
      | some { tk := .slice _, .. }, .neq => k (.bool true) H
      | _, _ => none
    | false => binOpK G op t (ev fr x) (ev fr y) fun v => k v H
  | .unOp op _ x => unOpK op (ev fr x) fun v => k v H
  | .convert src dst x => convertK G src dst (ev fr x) H k
  | .makeFunc f first captured => k (.fn f (evs fr first.toList) (evs fr captured.toList)) H
  | .makeMap t none => match G.ti t with
    | some { tk := .map kt vt, .. } => match G.ti kt, G.ti vt with
      | some i, some j => match i.ty, j.ty with
        | some a, some b => k (.map H.length) (H ++ [some (.tm a b [])])
        | _, _ => none
      | _, _ => none
    | _ => none
  | .makeSlice t l c => makeSliceK G t (ev fr l) (ev fr c) H k
  | .lookup t m x ok => lookupK G t (ev fr m) (ev fr x) ok H fun v => k v H
  | .mapUpdate t m x v => mapUpdateK G t (ev fr m) (ev fr x) (ev fr v) H fun H => k .junk H
  | .slice t x lo hi none => sliceK G t (ev fr x) (lo.map (ev fr)) (hi.map (ev fr)) H fun v => k v H
  | .fieldAddr s x f => fieldAddrK G s (ev fr x) f fun v => k v H
  | .field t x f => match G.ti t, ev fr x with
    | some i, .agg cs => match fieldOf i f with
      | some (off, ft) => match G.ti ft with
        | some j => partK j cs off fun v => k v H
        | none => none
      | none => none
    | _, _ => none
  | .indexAddr t x i => indexAddrK G t (ev fr x) (ev fr i) H fun v => k v H
  | .index t x i => indexK G t (ev fr x) (ev fr i) fun v => k v H
  | .extract t i => match ev fr t with
    | .tup vs => match vs[i]? with
      | some v => k v H
      | none => none
    | _ => none
  | .call c => match c.callee with
    | .builtin b => builtinK G b c.argTypes.toList (evs fr c.args.toList) H k
    | .value f => match ev fr f with
      | .fn (.func g) first cap => callK G call g (first ++ evs fr c.args.toList ++ cap) H k
      | _ => none
    | _ => none
  | _ => none

end ops
end Am

namespace Am
open Go
variable {U : TyU} {R : Type} (G : Env U)

/-- the rows that must become frozen data ahead of an operation -/
def needFreeze (op : Op) (fr : List (AV U)) (H : Heap U) : List Nat := match op with
  | .store _ a x => match ev fr a with
    | .ptr kk _ _ _ => match H.get kk with
      | some (.row _ _) => refs (ev fr x)
      | _ => []
    | _ => []
  | .buildSlice t _ parts => match G.ti t with
    | some { tk := .slice e, .. } => match G.ti e with
      | some { ty := some _, .. } => refsL ((evParts fr parts.toList).map (·.2))
      | _ => []
    | _ => []
  | .mapUpdate _ _ x v => refs (ev fr x) ++ refs (ev fr v)
  | .call { callee := .value f, args, .. } => match ev fr f with
    | .fn (.func g) first cap => match G.con g with
      | some C => match C.flat || C.bor with
        | true => []
        | false => refsL (first ++ evs fr args.toList ++ cap)
      | none => []
    | _ => []
  | _ => []

def undefA : AV U := .tup []

def put (fr : List (AV U)) (dst : Option Tmp) (v : AV U) : List (AV U) := match dst with
  | some d => fr.set d v
  | none => fr

section
variable (call : FuncId → List (AV U) → Heap U → (AV U → Heap U → Option R) → Option R)

def stepK (o : Oper) (st : St U) (k : St U → Option R) : Option R :=
  (fun st : St U => opK G call o.op st.fr st.H fun v H => k { fr := put st.fr o.dst v, H := H }) (freezeSt (needFreeze G o.op st.fr st.H) st)

def guardSlot (ops : List Oper) (j : Nat) : Option Nat := match ops[j]? with
  | some o => o.dst
  | none => none

/-- a guarded operation: what is done where the guard says yes, and where it says no -/
def guardK (ops : List Oper) (o : Oper) (st : St U) (yes : St U → Option R) (no : St U → Option R) : Option R := match o.guard with
  | none => yes st
  | some (j, want) => match guardSlot ops j with
    | none => none
    | some d => match st.fr.getD d undefA with
      | .bool b => match b with
        | true => match want with
          | true => yes { st with fr := st.fr.set d (.bool true) }
          | false => no { st with fr := st.fr.set d (.bool true) }
        | false => match want with
          | true => no { st with fr := st.fr.set d (.bool false) }
          | false => yes { st with fr := st.fr.set d (.bool false) }
      | .tup [] => no st
      | _ => none

def seqK (ops : List Oper) : List Oper → St U → (St U → Option R) → Option R
  | [], st, k => k st
  | o :: rest, st, k => guardK ops o st
      (fun st => stepK G call o st fun st => seqK ops rest st k)
      (fun st => seqK ops rest { st with fr := put st.fr o.dst undefA } k)

/-! ### Regions that draw their order -/

def rowRefs : AV U → List Nat
  | .mrow k _ | .brow k _ => [k]
  | _ => []

/-- the blocks that an operation looks at or writes -/
def foot (op : Op) (fr : List (AV U)) : Option (List Nat) := match op with
  | .move _ | .assign _ | .pick .. | .alloc _ | .box .. | .build .. | .buildSlice .. | .nilCheck _ | .unOp .. | .makeFunc ..
  | .makeMap .. | .makeSlice .. | .fieldAddr .. | .field .. | .index .. | .extract .. => some []
  | .binOp _ _ x y _ => some (rowRefs (ev fr x) ++ rowRefs (ev fr y))
  | .slice _ x .. | .indexAddr _ x _ => some (refs (ev fr x))
  | .convert _ _ x => some (refs (ev fr x))
  | .load _ a => some (refs (ev fr a))
  | .store _ a _ => some (refs (ev fr a))
  | .lookup _ m _ _ => some (refs (ev fr m))
  | .mapUpdate _ m _ _ => some (refs (ev fr m))
  | .call { callee := .builtin _, args, .. } => some (refsL (evs fr args.toList))
  | .call { callee := .value f, args, .. } => match ev fr f with
    | .fn (.func g) first cap => match G.con g with
      | some _ => some (refsL (first ++ evs fr args.toList ++ cap))
      | none => none
    | _ => none
  | _ => none

def writes : Op → Bool
  | .store .. | .mapUpdate .. | .call { callee := .builtin .append, .. } => true
  | _ => false

def restr (ids : List Nat) : Heap U → Nat → Heap U
  | [], _ => []
  | b :: l, i => (match mem i ids with | true => b | false => none) :: restr ids l (i + 1)

def merge (ids : List Nat) : Heap U → Heap U → Nat → Heap U
  | [], l', _ => l'
  | b :: l, b' :: l', i => (match mem i ids with | true => b' | false => b) :: merge ids l l' (i + 1)
  | b :: l, [], i => (match mem i ids with | true => none | false => b) :: merge ids l [] (i + 1)

structure Rec where
  foot : List Nat
  writes : Bool
  /-- the operations that must be done ahead of this one -/
  pre : Nat
  /-- the blocks that it makes -/
  lo : Nat
  hi : Nat

def tmpsOf : List Operand → List Nat
  | [] => []
  | .tmp t :: l => t :: tmpsOf l
  | _ :: l => tmpsOf l

def guardLooks (ops : List Oper) (o : Oper) : List Nat := match o.guard with
  | some (j, _) => (match guardSlot ops j with | some d => [d] | none => [])
  | none => []

def looks (ops : List Oper) (o : Oper) : List Nat := tmpsOf o.op.operands.toList ++ guardLooks ops o

def meet : List Nat → List Nat → Bool
  | [], _ => false
  | a :: l, m => match mem a m with
    | true => true
    | false => meet l m

def inDst (d : Option Nat) (l : List Nat) : Bool := match d with
  | some d => mem d l
  | none => false

def sameDst : Option Nat → Option Nat → Bool
  | some a, some b => Nat.beq a b
  | _, _ => false

def noneIn (lo hi : Nat) : List Nat → Bool
  | [] => true
  | k :: l => match Nat.ble lo k && Nat.blt k hi with
    | true => false
    | false => noneIn lo hi l

/-- may the two be done in either order? -/
def apartOps (ops : List Oper) (o : Oper) (r : Rec) (o' : Oper) (r' : Rec) : Bool :=
  !(inDst o.dst (looks ops o') || inDst o'.dst (looks ops o) || sameDst o.dst o'.dst || ((r.writes || r'.writes) && meet r.foot r'.foot)) && noneIn r.lo r.hi r'.foot && noneIn r'.lo r'.hi r.foot

/-- is each operation ahead of this one either waited for or apart from it? -/
def apartFrom (ops : List Oper) (o : Oper) (r : Rec) : List (Oper × Rec) → Nat → Bool
  | [], _ => true
  | (o', r') :: l, i => match r.pre.testBit i || apartOps ops o' r' o r with
    | true => apartFrom ops o r l (i + 1)
    | false => false

/-- the operations that this one waits for, out of its edges -/
def preBits (acc : List (Oper × Rec)) : List Edge → Nat
  | [] => 0
  | e :: l => match Region.binds .any e with
    | true => preBits acc l ||| 2 ^ e.on ||| (match acc[e.on]? with | some x => x.2.pre | none => 0)
    | false => preBits acc l

def preOk (i : Nat) : List Edge → Bool
  | [] => true
  | e :: l => match Region.binds .any e with
    | true => match Nat.blt e.on i with
      | true => preOk i l
      | false => false
    | false => preOk i l

/-- the slots 'l' of a frame alone -/
def maskFr (l : List Nat) : List (AV U) → Nat → List (AV U)
  | [], _ => []
  | v :: fr, i => (match mem i l with | true => v | false => .junk) :: maskFr l fr (i + 1)

def mergeD (writes : Bool) (ids : List Nat) (H H' : Heap U) : Heap U := match writes with
  | true => merge ids H H' 0
  | false => H ++ H'.drop H.length

/-! ### Calls in such regions -/
def refsLL : List (List (AV U)) → List Nat
  | [] => []
  | l :: r => refsL l ++ refsLL r

def refsB : Blk U → List Nat
  | .box cs => refsL cs
  | .urow _ es => refsLL es
  | _ => []

/-- what can be reached from the blocks of a list -/
def reach (H : Heap U) : Nat → List Nat → List Nat → List Nat
  | 0, _, seen => seen
  | _ + 1, [], seen => seen
  | n + 1, k :: l, seen => match mem k seen with
    | true => reach H n l seen
    | false => match H.get k with
      | some b => reach H n (refsB b ++ l) (k :: seen)
      | none => reach H n l seen

def allIn (f : Nat → Bool) : List Nat → Bool
  | [] => true
  | k :: l => match f k with
    | true => allIn f l
    | false => false

/-- these blocks are there, and name blocks of 'ids' alone -/
def closedAt (H : Heap U) (ids : List Nat) : List Nat → Bool
  | [] => true
  | k :: l => match H.get k with
    | some b => match allIn (fun j => mem j ids) (refsB b) with
      | true => closedAt H ids l
      | false => false
    | none => false

/-- the blocks that a call may look at and write -/
def callFoot (op : Op) (fr : List (AV U)) (H : Heap U) : Option (List Nat) := match op with
  | .call { callee := .value _, .. } => (fun ids => match closedAt H ids ids && allIn (fun j => mem j ids) (refsL fr) with
    | true => some ids
    | false => none) (reach H 1000 (refsL fr) [])
  | _ => none

def insideB (ids : List Nat) (lo hi k : Nat) : Bool := mem k ids || (Nat.ble lo k && Nat.blt k hi)

def closedFrom (f : Nat → Bool) : Heap U → Nat → Bool
  | [], _ => true
  | none :: l, i => closedFrom f l (i + 1)
  | some b :: l, i => match f i && allIn f (refsB b) with
    | true => closedFrom f l (i + 1)
    | false => false

/-- nothing but those blocks and new ones is named behind the call -/
def closedPost (ids : List Nat) (lo : Nat) (v : AV U) (H' : Heap U) : Bool :=
  Nat.ble H'.length 1000000 && (allIn (insideB ids lo H'.length) (refs v) && closedFrom (insideB ids lo H'.length) H' 0)

/-- a contract may look through a pointer -/
def wide (op : Op) (H : Heap U) (ids : List Nat) : List Nat := match op with
  | .call { callee := .value _, .. } => reach H 1000 ids []
  | _ => ids

/-- the operations in the text's order, each over the blocks that it names alone; 'acc': the operations so far, the first first -/
def drawK (ops : List Oper) : List Oper → List (Oper × Rec) → St U → (St U → Option R) → Option R
  | [], _, st, k => k st
  | o :: rest, acc, st, k => match preOk acc.length o.after.toList with
    | false => none
    | true => guardK ops o st
      (fun st => match foot G o.op (maskFr (looks ops o) st.fr 0) with
        | none => match callFoot o.op (maskFr (looks ops o) st.fr 0) st.H with
          | none => none
          | some ids => opK G call o.op (maskFr (looks ops o) st.fr 0) (restr ids st.H 0) fun v H' => match closedPost ids st.H.length v H' with
            | false => none
            | true => (fun r => match apartFrom ops o r acc 0 with
                | false => none
                | true => drawK ops rest (acc ++ [(o, r)]) { fr := put st.fr o.dst v, H := mergeD true ids st.H H' } k)
              ⟨ids, true, preBits acc o.after.toList, st.H.length, H'.length⟩
        | some ids => (fun ids => opK G call o.op (maskFr (looks ops o) st.fr 0) (restr ids st.H 0) fun v H' =>
            (fun r => match apartFrom ops o r acc 0 with
              | false => none
              | true => drawK ops rest (acc ++ [(o, r)]) { fr := put st.fr o.dst v, H := mergeD (writes o.op) ids st.H H' } k)
            ⟨ids, writes o.op, preBits acc o.after.toList, st.H.length, H'.length⟩) (wide o.op st.H ids))
      (fun st => (fun r => match apartFrom ops o r acc 0 with
        | false => none
        | true => drawK ops rest (acc ++ [(o, r)]) { st with fr := put st.fr o.dst undefA } k)
        ⟨[], false, preBits acc o.after.toList, st.H.length, st.H.length⟩)

def noSelect : List Oper → Bool
  | [] => true
  | o :: l => match o.op with
    | .select .. => false
    | _ => noSelect l

def regionK (ops : Array Oper) (draw : Bool) (st : St U) (k : St U → Option R) : Option R := match draw with
  | false => seqK G call ops.toList ops.toList st k
  | true => drawK G call ops.toList ops.toList [] st k

end

/-! ## Code -/
def resultsK (rs : List ResultVar) (st : St U) (k : List (AV U) → Option R) : Option R := match rs with
  | [] => k []
  | .tmp t :: l => resultsK l st fun vs => k (st.fr.getD t undefA :: vs)
  | .cell a t :: l => loadK G t (st.fr.getD a undefA) st.H fun v => resultsK l st fun vs => k (v :: vs)

def oneOrTup : List (AV U) → AV U
  | [v] => v
  | vs => .tup vs

def firstRegion : Code → Option Nat
  | .region id _ _ => some id
  | .seq a b => match firstRegion a with
    | some n => some n
    | none => firstRegion b
  | .cond _ a b => match firstRegion a with
    | some n => some n
    | none => firstRegion b
  | .block _ a | .loop a | .scope a => firstRegion a
  | _ => none

def tryCuts : List (Cut U) → St U → (AExit → St U → Option R) → Option R → Option R
  | [], _, _, e => e
  | C :: l, st, k, e => match C.dec st with
    | some x => (C.fn x.1).bind fun y => C.outk y x.2 k
    | none => tryCuts l st k e

def setCond (c : Operand) (b : Bool) (fr : List (AV U)) : List (AV U) := match c with
  | .tmp t => fr.set t (.bool b)
  | _ => fr

def exec : Nat → FuncId → Code → St U → (AExit → St U → Option R) → Option R
  | 0, _, _, _, _ => none
  | n + 1, fid, c, st, k => match c with
    | .skip => k .normal st
    | .region _ ops draw => regionK G (fun f args H kk => match G.spec f with
        | some s => (s args H).bind fun r => kk r.1 r.2
        | none => match G.fn f with
          | none => none
          | some fn => match fn.body with
            | none => none
            | some body => exec n f body { fr := args ++ List.replicate (fn.ntmps - args.length) undefA, H := H } fun e st' => match e with
              | .exit _ => none
              | _ => resultsK G fn.results.toList st' fun vs => kk (oneOrTup vs) st'.H) ops draw st fun st => k .normal st
    | .seq a b => exec n fid a st fun e st' => match e with
      | .normal => exec n fid b st' k
      | e => k e st'
    | .cond c t e => match ev st.fr c with
      | .bool b => match b with
        | true => exec n fid t { st with fr := setCond c true st.fr } k
        | false => exec n fid e { st with fr := setCond c false st.fr } k
      | _ => none
    | .block id body => exec n fid body st fun e st' => match e with
      | .exit j => match Nat.beq j id with
        | true => k .normal st'
        | false => k (.exit j) st'
      | e => k e st'
    | .loop body => tryCuts (G.cuts fid ((firstRegion body).getD 0)) st k
        (exec n fid body st fun e st' => match e with
          | .normal => exec n fid (.loop body) st' k
          | e => k e st')
    | .exit id => k (.exit id) st
    | .ret => k .ret st
    | _ => none

/-- a function from its arguments, in a heap of its own -/
def run (n : Nat) (f : FuncId) (args : List (AV U)) (H : Heap U) (k : AV U → Heap U → Option R) : Option R := match G.fn f with
  | none => none
  | some fn => match fn.body with
    | none => none
    | some body => exec G n f body { fr := args ++ List.replicate (fn.ntmps - args.length) undefA, H := H } fun e st' => match e with
      | .exit _ => none
      | _ => resultsK G fn.results.toList st' fun vs => k (oneOrTup vs) st'.H

/-! ### strings.Builder -/
/-- its check: the first call notes where the builder is -/
def copyCheckS (tb : TypeId) (args : List (AV U)) (H : Heap U) : Option (AV U × Heap U) := match args with
  | [.tptr k el] => match Nat.beq el tb, H.get k with
    | true, some (.box [c0, c1]) => match c0 with
      | .nilp => some (.tup [], H.set k (some (.box [.ptr k 2 0 0, c1])))
      | .ptr k' sz' i' o' => match Nat.beq k k' && Nat.beq sz' 2 && Nat.beq i' 0 && Nat.beq o' 0 with
        | true => some (.tup [], H)
        | false => none
      | _ => none
    | _, _ => none
  | _ => none

/-- its text; what was written is not written again -/
def bldStringS (tb tc : TypeId) (args : List (AV U)) (H : Heap U) : Option (AV U × Heap U) := match args with
  | [.tptr k el] => match Nat.beq el tb, H.get k with
    | true, some (.box [_, c1]) => match c1 with
      | .nilsl => some (.str [], H)
      | .brow r el' => match Nat.beq tc el', rowBytes H r with
        | true, some (b :: s) => match Nat.ble (b :: s).length 140737488355328 with
          | true => some (.str (b :: s), H.set r none)
          | false => none
        | _, _ => none
      | _ => none
    | _, _ => none
  | _ => none

end Am
