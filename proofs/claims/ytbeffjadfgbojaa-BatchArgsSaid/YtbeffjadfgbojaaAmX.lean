/- The abstract machine's evaluator of regions and code. Definitions only. -/
import Derived.Test.YtbeffjadfgbojaaAmM
namespace Am
open Go
variable {U : TyU} {R : Type} (G : Env U)

/-- the rows that must become frozen data ahead of an operation -/
def needFreeze (op : Op) (fr : List (AV U)) (H : Heap U) : List Nat := match op with
  | .store _ a x => match ev fr a with
    | .ptr kk _ _ _ => match H.get kk with
      | some (.row _ _) => refs (ev fr x)
      | _ => []
    | _ => []
  | .buildSlice t _ parts => match G.ti t with
    | some { tk := .slice e, .. } => match G.ti e with
      | some { ty := some _, .. } => refsL ((evParts fr parts.toList).map (·.2))
      | _ => []
    | _ => []
  | .mapUpdate _ _ x v => refs (ev fr x) ++ refs (ev fr v)
  | .call { callee := .value f, args, .. } => match ev fr f with
    | .fn (.func g) first cap => match G.con g with
      | some C => match C.flat || C.bor with
        | true => []
        | false => refsL (first ++ evs fr args.toList ++ cap)
      | none => []
    | _ => []
  | _ => []

def undefA : AV U := .tup []

def put (fr : List (AV U)) (dst : Option Tmp) (v : AV U) : List (AV U) := match dst with
  | some d => fr.set d v
  | none => fr

section
variable (call : FuncId → List (AV U) → Heap U → (AV U → Heap U → Option R) → Option R)

def stepK (o : Oper) (st : St U) (k : St U → Option R) : Option R :=
  (fun st : St U => opK G call o.op st.fr st.H fun v H => k { fr := put st.fr o.dst v, H := H }) (freezeSt (needFreeze G o.op st.fr st.H) st)

def guardSlot (ops : List Oper) (j : Nat) : Option Nat := match ops[j]? with
  | some o => o.dst
  | none => none

/-- a guarded operation: what is done where the guard says yes, and where it says no -/
def guardK (ops : List Oper) (o : Oper) (st : St U) (yes : St U → Option R) (no : St U → Option R) : Option R := match o.guard with
  | none => yes st
  | some (j, want) => match guardSlot ops j with
    | none => none
    | some d => match st.fr.getD d undefA with
      | .bool b => match b with
        | true => match want with
          | true => yes { st with fr := st.fr.set d (.bool true) }
          | false => no { st with fr := st.fr.set d (.bool true) }
        | false => match want with
          | true => no { st with fr := st.fr.set d (.bool false) }
          | false => yes { st with fr := st.fr.set d (.bool false) }
      | .tup [] => no st
      | _ => none

def seqK (ops : List Oper) : List Oper → St U → (St U → Option R) → Option R
  | [], st, k => k st
  | o :: rest, st, k => guardK ops o st
      (fun st => stepK G call o st fun st => seqK ops rest st k)
      (fun st => seqK ops rest { st with fr := put st.fr o.dst undefA } k)

/-! ### Regions that draw their order -/

/-- the blocks that an operation looks at or writes -/
def foot (op : Op) (fr : List (AV U)) : Option (List Nat) := match op with
  | .move _ | .assign _ | .pick .. | .alloc _ | .box .. | .build .. | .buildSlice .. | .nilCheck _ | .binOp .. | .unOp .. | .convert .. | .makeFunc ..
  | .makeMap .. | .makeSlice .. | .fieldAddr .. | .field .. | .index .. | .extract .. => some []
  | .slice _ x .. | .indexAddr _ x _ => some (refs (ev fr x))
  | .load _ a => some (refs (ev fr a))
  | .store _ a _ => some (refs (ev fr a))
  | .lookup _ m _ _ => some (refs (ev fr m))
  | .mapUpdate _ m _ _ => some (refs (ev fr m))
  | .call { callee := .builtin _, args, .. } => some (refsL (evs fr args.toList))
  | .call { callee := .value f, args, .. } => match ev fr f with
    | .fn (.func g) first cap => match G.con g with
      | some _ => some (refsL (first ++ evs fr args.toList ++ cap))
      | none => none
    | _ => none
  | _ => none

def writes : Op → Bool
  | .store .. | .mapUpdate .. | .call { callee := .builtin .append, .. } => true
  | _ => false

def restr (ids : List Nat) : Heap U → Nat → Heap U
  | [], _ => []
  | b :: l, i => (match mem i ids with | true => b | false => none) :: restr ids l (i + 1)

def merge (ids : List Nat) : Heap U → Heap U → Nat → Heap U
  | [], l', _ => l'
  | b :: l, b' :: l', i => (match mem i ids with | true => b' | false => b) :: merge ids l l' (i + 1)
  | b :: l, [], i => (match mem i ids with | true => none | false => b) :: merge ids l [] (i + 1)

structure Rec where
  foot : List Nat
  writes : Bool
  /-- the operations that must be done ahead of this one -/
  pre : Nat
  /-- the blocks that it makes -/
  lo : Nat
  hi : Nat

def tmpsOf : List Operand → List Nat
  | [] => []
  | .tmp t :: l => t :: tmpsOf l
  | _ :: l => tmpsOf l

def guardLooks (ops : List Oper) (o : Oper) : List Nat := match o.guard with
  | some (j, _) => (match guardSlot ops j with | some d => [d] | none => [])
  | none => []

def looks (ops : List Oper) (o : Oper) : List Nat := tmpsOf o.op.operands.toList ++ guardLooks ops o

def meet : List Nat → List Nat → Bool
  | [], _ => false
  | a :: l, m => match mem a m with
    | true => true
    | false => meet l m

def inDst (d : Option Nat) (l : List Nat) : Bool := match d with
  | some d => mem d l
  | none => false

def sameDst : Option Nat → Option Nat → Bool
  | some a, some b => Nat.beq a b
  | _, _ => false

def noneIn (lo hi : Nat) : List Nat → Bool
  | [] => true
  | k :: l => match Nat.ble lo k && Nat.blt k hi with
    | true => false
    | false => noneIn lo hi l

/-- may the two be done in either order? -/
def apartOps (ops : List Oper) (o : Oper) (r : Rec) (o' : Oper) (r' : Rec) : Bool :=
  !(inDst o.dst (looks ops o') || inDst o'.dst (looks ops o) || sameDst o.dst o'.dst || ((r.writes || r'.writes) && meet r.foot r'.foot)) && noneIn r.lo r.hi r'.foot && noneIn r'.lo r'.hi r.foot

/-- is each operation ahead of this one either waited for or apart from it? -/
def apartFrom (ops : List Oper) (o : Oper) (r : Rec) : List (Oper × Rec) → Nat → Bool
  | [], _ => true
  | (o', r') :: l, i => match r.pre.testBit i || apartOps ops o' r' o r with
    | true => apartFrom ops o r l (i + 1)
    | false => false

/-- the operations that this one waits for, out of its edges -/
def preBits (acc : List (Oper × Rec)) : List Edge → Nat
  | [] => 0
  | e :: l => match Region.binds .any e with
    | true => preBits acc l ||| 2 ^ e.on ||| (match acc[e.on]? with | some x => x.2.pre | none => 0)
    | false => preBits acc l

def preOk (i : Nat) : List Edge → Bool
  | [] => true
  | e :: l => match Region.binds .any e with
    | true => match Nat.blt e.on i with
      | true => preOk i l
      | false => false
    | false => preOk i l

/-- the slots 'l' of a frame alone -/
def maskFr (l : List Nat) : List (AV U) → Nat → List (AV U)
  | [], _ => []
  | v :: fr, i => (match mem i l with | true => v | false => .junk) :: maskFr l fr (i + 1)

def mergeD (writes : Bool) (ids : List Nat) (H H' : Heap U) : Heap U := match writes with
  | true => merge ids H H' 0
  | false => H ++ H'.drop H.length

/-- the operations in the text's order, each over the blocks that it names alone; 'acc': the operations so far, the first first -/
def drawK (ops : List Oper) : List Oper → List (Oper × Rec) → St U → (St U → Option R) → Option R
  | [], _, st, k => k st
  | o :: rest, acc, st, k => match preOk acc.length o.after.toList with
    | false => none
    | true => guardK ops o st
      (fun st => match foot G o.op (maskFr (looks ops o) st.fr 0) with
        | none => none
        | some ids => opK G call o.op (maskFr (looks ops o) st.fr 0) (restr ids st.H 0) fun v H' =>
            (fun r => match apartFrom ops o r acc 0 with
              | false => none
              | true => drawK ops rest (acc ++ [(o, r)]) { fr := put st.fr o.dst v, H := mergeD (writes o.op) ids st.H H' } k)
            ⟨ids, writes o.op, preBits acc o.after.toList, st.H.length, H'.length⟩)
      (fun st => (fun r => match apartFrom ops o r acc 0 with
        | false => none
        | true => drawK ops rest (acc ++ [(o, r)]) { st with fr := put st.fr o.dst undefA } k)
        ⟨[], false, preBits acc o.after.toList, st.H.length, st.H.length⟩)

def noSelect : List Oper → Bool
  | [] => true
  | o :: l => match o.op with
    | .select .. => false
    | _ => noSelect l

def regionK (ops : Array Oper) (draw : Bool) (st : St U) (k : St U → Option R) : Option R := match draw with
  | false => seqK G call ops.toList ops.toList st k
  | true => drawK G call ops.toList ops.toList [] st k

end

/-! ## Code -/
def resultsK (rs : List ResultVar) (st : St U) (k : List (AV U) → Option R) : Option R := match rs with
  | [] => k []
  | .tmp t :: l => resultsK l st fun vs => k (st.fr.getD t undefA :: vs)
  | .cell a t :: l => loadK G t (st.fr.getD a undefA) st.H fun v => resultsK l st fun vs => k (v :: vs)

def oneOrTup : List (AV U) → AV U
  | [v] => v
  | vs => .tup vs

def firstRegion : Code → Option Nat
  | .region id _ _ => some id
  | .seq a b => match firstRegion a with
    | some n => some n
    | none => firstRegion b
  | .cond _ a b => match firstRegion a with
    | some n => some n
    | none => firstRegion b
  | .block _ a | .loop a | .scope a => firstRegion a
  | _ => none

def tryCuts : List (Cut U) → St U → (AExit → St U → Option R) → Option R → Option R
  | [], _, _, e => e
  | C :: l, st, k, e => match C.dec st with
    | some x => (C.fn x.1).bind fun y => C.outk y x.2 k
    | none => tryCuts l st k e

def setCond (c : Operand) (b : Bool) (fr : List (AV U)) : List (AV U) := match c with
  | .tmp t => fr.set t (.bool b)
  | _ => fr

def exec : Nat → FuncId → Code → St U → (AExit → St U → Option R) → Option R
  | 0, _, _, _, _ => none
  | n + 1, fid, c, st, k => match c with
    | .skip => k .normal st
    | .region _ ops draw => regionK G (fun f args H kk => match G.fn f with
        | none => none
        | some fn => match fn.body with
          | none => none
          | some body => exec n f body { fr := args ++ List.replicate (fn.ntmps - args.length) undefA, H := H } fun e st' => match e with
            | .exit _ => none
            | _ => resultsK G fn.results.toList st' fun vs => kk (oneOrTup vs) st'.H) ops draw st fun st => k .normal st
    | .seq a b => exec n fid a st fun e st' => match e with
      | .normal => exec n fid b st' k
      | e => k e st'
    | .cond c t e => match ev st.fr c with
      | .bool b => match b with
        | true => exec n fid t { st with fr := setCond c true st.fr } k
        | false => exec n fid e { st with fr := setCond c false st.fr } k
      | _ => none
    | .block id body => exec n fid body st fun e st' => match e with
      | .exit j => match Nat.beq j id with
        | true => k .normal st'
        | false => k (.exit j) st'
      | e => k e st'
    | .loop body => tryCuts (G.cuts fid ((firstRegion body).getD 0)) st k
        (exec n fid body st fun e st' => match e with
          | .normal => exec n fid (.loop body) st' k
          | e => k e st')
    | .exit id => k (.exit id) st
    | .ret => k .ret st
    | _ => none

/-- a function from its arguments, in a heap of its own -/
def run (n : Nat) (f : FuncId) (args : List (AV U)) (H : Heap U) (k : AV U → Heap U → Option R) : Option R := match G.fn f with
  | none => none
  | some fn => match fn.body with
    | none => none
    | some body => exec G n f body { fr := args ++ List.replicate (fn.ntmps - args.length) undefA, H := H } fun e st' => match e with
      | .exit _ => none
      | _ => resultsK G fn.results.toList st' fun vs => k (oneOrTup vs) st'.H

end Am
