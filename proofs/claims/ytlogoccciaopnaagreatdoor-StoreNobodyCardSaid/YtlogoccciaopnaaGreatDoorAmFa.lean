/- The evaluator once more, in small parts: the same function, quicker in the kernel. -/
import Derived.Test.YtlogoccciaopnaaGreatDoorAmE4
namespace Am
open Go
variable {U : TyU} {R : Type} (G : Env U)

section
variable (call : FuncId → List (AV U) → Heap U → (AV U → Heap U → Option R) → Option R)

def aPick (c a b : Operand) (fr : List (AV U)) (H : Heap U) (k : AV U → Heap U → Option R) : Option R := match ev fr c with
  | .bool t => match t with
    | true => k (ev fr a) H
    | false => k (ev fr b) H
  | _ => none
def aAlloc (e : TypeId) (H : Heap U) (k : AV U → Heap U → Option R) : Option R := match G.ti e with
  | some i => k (allocV (G.isBld e) e i.size i.zero H.length) (H ++ [some (.box i.zero)])
  | none => none
def aBox (e : TypeId) (x : AV U) (H : Heap U) (k : AV U → Heap U → Option R) : Option R := match G.ti e with
  | some i => match Nat.beq (cellsOf x).length i.size with
    | true => match okCells (cellsOf x) with
      | true => k (.ptr H.length i.size 0 0) (H ++ [some (.box (cellsOf x))])
      | false => none
    | false => none
  | none => none
def aBuild (t : TypeId) (parts : List (Nat × Operand)) (fr : List (AV U)) (H : Heap U) (k : AV U → Heap U → Option R) : Option R := buildK G t (evParts fr parts) fun v => k v H
def aLoad (t : TypeId) (a : AV U) (H : Heap U) (k : AV U → Heap U → Option R) : Option R := loadK G t a H fun v => k v H
def aStore (t : TypeId) (a x : AV U) (H : Heap U) (k : AV U → Heap U → Option R) : Option R := storeK G t a x H fun H => k .junk H
def aNil (x : AV U) (H : Heap U) (k : AV U → Heap U → Option R) : Option R := match x with
  | .ptr kk sz i o => k (.ptr kk sz i o) H
  | .fptr cs o => k (.fptr cs o) H
  | .fn (.func f) a b => k (.fn (.func f) a b) H
  | .tptr kk el => k (.tptr kk el) H
  | v => bptrK v fun cs o => k (.bptr cs o) H
def aBinN (op : BinOp) (t : TypeId) (H : Heap U) (k : AV U → Heap U → Option R) : Option R := match G.ti t, op with
  | some { tk := .slice _, .. }, .eql => k (.bool false) H
  | some { tk := .slice _, .. }, .neq => k (.bool true) H
  | _, _ => none
def aBin (op : BinOp) (t : TypeId) (x y : AV U) (H : Heap U) (k : AV U → Heap U → Option R) : Option R := match nilTest H x y with
  | true => aBinN G op t H k
  | false => binOpK G op t x y fun v => k v H
def aUn (op : UnOp) (x : AV U) (H : Heap U) (k : AV U → Heap U → Option R) : Option R := unOpK op x fun v => k v H
def aMap (t : TypeId) (H : Heap U) (k : AV U → Heap U → Option R) : Option R := match G.ti t with
  | some { tk := .map kt vt, .. } => match G.ti kt, G.ti vt with
    | some i, some j => match i.ty, j.ty with
      | some a, some b => k (.map H.length) (H ++ [some (.tm a b [])])
      | _, _ => none
    | _, _ => none
  | _ => none
def aLook (t : TypeId) (m x : AV U) (ok : Bool) (H : Heap U) (k : AV U → Heap U → Option R) : Option R := lookupK G t m x ok H fun v => k v H
def aUpd (t : TypeId) (m x v : AV U) (H : Heap U) (k : AV U → Heap U → Option R) : Option R := mapUpdateK G t m x v H fun H => k .junk H
def aSlice (t : TypeId) (x : AV U) (lo hi : Option (AV U)) (H : Heap U) (k : AV U → Heap U → Option R) : Option R := sliceK G t x lo hi H fun v => k v H
def aFA (s : TypeId) (x : AV U) (f : Nat) (H : Heap U) (k : AV U → Heap U → Option R) : Option R := fieldAddrK G s x f fun v => k v H
def aField (t : TypeId) (x : AV U) (f : Nat) (H : Heap U) (k : AV U → Heap U → Option R) : Option R := match G.ti t, x with
  | some i, .agg cs => match fieldOf i f with
    | some (off, ft) => match G.ti ft with
      | some j => partK j cs off fun v => k v H
      | none => none
    | none => none
  | _, _ => none
def aIA (t : TypeId) (x i : AV U) (H : Heap U) (k : AV U → Heap U → Option R) : Option R := indexAddrK G t x i H fun v => k v H
def aIx (t : TypeId) (x i : AV U) (H : Heap U) (k : AV U → Heap U → Option R) : Option R := indexK G t x i fun v => k v H
def aEx (t : AV U) (i : Nat) (H : Heap U) (k : AV U → Heap U → Option R) : Option R := match t with
  | .tup vs => match vs[i]? with
    | some v => k v H
    | none => none
  | _ => none
def aCallV (f : AV U) (args : List (AV U)) (H : Heap U) (k : AV U → Heap U → Option R) : Option R := match f with
  | .fn (.func g) first cap => callK G call g (first ++ args ++ cap) H k
  | _ => none
def aCall (c : Call) (fr : List (AV U)) (H : Heap U) (k : AV U → Heap U → Option R) : Option R := match c.callee with
  | .builtin b => builtinK G b c.argTypes.toList (evs fr c.args.toList) H k
  | .value f => aCallV G call (ev fr f) (evs fr c.args.toList) H k
  | _ => none
def aMapO (t : TypeId) (o : Option Operand) (H : Heap U) (k : AV U → Heap U → Option R) : Option R := match o with
  | none => aMap G t H k
  | some _ => none
def aSliceO (t : TypeId) (x : Operand) (lo hi mx : Option Operand) (fr : List (AV U)) (H : Heap U) (k : AV U → Heap U → Option R) : Option R := match mx with
  | none => aSlice G t (ev fr x) (lo.map (ev fr)) (hi.map (ev fr)) H k
  | some _ => none

def opF (op : Op) (fr : List (AV U)) (H : Heap U) (k : AV U → Heap U → Option R) : Option R := match op with
  | .move x => k (ev fr x) H
  | .assign x => k (ev fr x) H
  | .pick c a b => aPick c a b fr H k
  | .alloc e => aAlloc G e H k
  | .box e x => aBox G e (ev fr x) H k
  | .build t parts => aBuild G t parts.toList fr H k
  | .buildSlice t len parts => buildSliceK G t len (evParts fr parts.toList) H k
  | .load t a => aLoad G t (ev fr a) H k
  | .store t a x => aStore G t (ev fr a) (ev fr x) H k
  | .nilCheck x => aNil (ev fr x) H k
  | .binOp op t x y _ => aBin G op t (ev fr x) (ev fr y) H k
  | .unOp op _ x => aUn op (ev fr x) H k
  | .convert src dst x => convertK G src dst (ev fr x) H k
  | .makeFunc f first captured => k (.fn f (evs fr first.toList) (evs fr captured.toList)) H
  | .makeMap t o => aMapO G t o H k
  | .makeSlice t l c => makeSliceK G t (ev fr l) (ev fr c) H k
  | .lookup t m x ok => aLook G t (ev fr m) (ev fr x) ok H k
  | .mapUpdate t m x v => aUpd G t (ev fr m) (ev fr x) (ev fr v) H k
  | .slice t x lo hi mx => aSliceO G t x lo hi mx fr H k
  | .fieldAddr s x f => aFA G s (ev fr x) f H k
  | .field t x f => aField G t (ev fr x) f H k
  | .indexAddr t x i => aIA G t (ev fr x) (ev fr i) H k
  | .index t x i => aIx G t (ev fr x) (ev fr i) H k
  | .extract t i => aEx (ev fr t) i H k
  | .call c => aCall G call c fr H k
  | _ => none

theorem opF_eq (op : Op) (fr : List (AV U)) (H : Heap U) (k : AV U → Heap U → Option R) : opF G call op fr H k = opK G call op fr H k := by
  cases op with
  | makeMap t o => cases o <;> rfl
  | slice t x lo hi mx => cases mx <;> rfl
  | _ => rfl

def nfStore (a x : AV U) (H : Heap U) : List Nat := match a with
  | .ptr kk _ _ _ => match H.get kk with
    | some (.row _ _) => refs x
    | _ => []
  | _ => []
def nfBuild (t : TypeId) (parts : List (Nat × Operand)) (fr : List (AV U)) : List Nat := match G.ti t with
  | some { tk := .slice e, .. } => match G.ti e with
    | some { ty := some _, .. } => refsL ((evParts fr parts).map (·.2))
    | _ => []
  | _ => []
def nfCallV (f : AV U) (args : List (AV U)) : List Nat := match f with
  | .fn (.func g) first cap => match G.con g with
    | some C => match C.flat || C.bor with
      | true => []
      | false => refsL (first ++ args ++ cap)
    | none => []
  | _ => []
def nfCall (c : Call) (fr : List (AV U)) : List Nat := match c.callee with
  | .value f => nfCallV G (ev fr f) (evs fr c.args.toList)
  | _ => []
def nfF (op : Op) (fr : List (AV U)) (H : Heap U) : List Nat := match op with
  | .store _ a x => nfStore (ev fr a) (ev fr x) H
  | .buildSlice t _ parts => nfBuild G t parts.toList fr
  | .mapUpdate _ _ x v => refs (ev fr x) ++ refs (ev fr v)
  | .call c => nfCall G c fr
  | _ => []

theorem nfF_eq (op : Op) (fr : List (AV U)) (H : Heap U) : nfF G op fr H = needFreeze G op fr H := by
  cases op with
  | call c => obtain ⟨callee, args, ts⟩ := c; cases callee <;> rfl
  | _ => rfl

def stepF (o : Oper) (st : St U) (k : St U → Option R) : Option R :=
  (fun st : St U => opF G call o.op st.fr st.H fun v H => k { fr := put st.fr o.dst v, H := H }) (freezeSt (nfF G o.op st.fr st.H) st)

theorem stepF_eq (o : Oper) (st : St U) (k : St U → Option R) : stepF G call o st k = stepK G call o st k := by
  unfold stepF stepK
  rw [nfF_eq]
  exact opF_eq G call _ _ _ _

def guardV (want : Bool) (d : Nat) (v : AV U) (st : St U) (yes : St U → Option R) (no : St U → Option R) : Option R := match v with
  | .bool b => match b with
    | true => match want with
      | true => yes { st with fr := st.fr.set d (.bool true) }
      | false => no { st with fr := st.fr.set d (.bool true) }
    | false => match want with
      | true => no { st with fr := st.fr.set d (.bool false) }
      | false => yes { st with fr := st.fr.set d (.bool false) }
  | .tup [] => no st
  | _ => none
def guardF (ops : List Oper) (g : Option (Nat × Bool)) (st : St U) (yes : St U → Option R) (no : St U → Option R) : Option R := match g with
  | none => yes st
  | some (j, want) => match guardSlot ops j with
    | none => none
    | some d => guardV want d (st.fr.getD d undefA) st yes no

theorem guardF_eq (ops : List Oper) (o : Oper) (st : St U) (yes no : St U → Option R) : guardF ops o.guard st yes no = guardK ops o st yes no := by
  unfold guardF guardK guardV
  rfl

noncomputable def seqF (ops : List Oper) (rest : List Oper) : St U → (St U → Option R) → Option R :=
  List.rec (fun st k => k st) (fun o _ ih st k => guardF ops o.guard st (fun st => stepF G call o st fun st => ih st k) (fun st => ih { st with fr := put st.fr o.dst undefA } k)) rest

theorem seqF_eq (ops : List Oper) : ∀ (rest : List Oper) (st : St U) (k : St U → Option R), seqF G call ops rest st k = seqK G call ops rest st k
  | [], st, k => rfl
  | o :: rest, st, k => by
    show guardF ops o.guard st (fun st => stepF G call o st fun st => seqF G call ops rest st k) (fun st => seqF G call ops rest { st with fr := put st.fr o.dst undefA } k) = _
    rw [guardF_eq]
    unfold seqK
    congr 1
    · funext st
      rw [stepF_eq]
      congr 1
      funext st
      exact seqF_eq ops rest st k
    · funext st
      exact seqF_eq ops rest _ k

def footCallV (f : AV U) (args : List (AV U)) : Option (List Nat) := match f with
  | .fn (.func g) first cap => match G.con g with
    | some _ => some (refsL (first ++ args ++ cap))
    | none => none
  | _ => none
def footCall (c : Call) (fr : List (AV U)) : Option (List Nat) := match c.callee with
  | .builtin _ => some (refsL (evs fr c.args.toList))
  | .value f => footCallV G (ev fr f) (evs fr c.args.toList)
  | _ => none
def footF (op : Op) (fr : List (AV U)) : Option (List Nat) := match op with
  | .move _ | .assign _ | .pick .. | .alloc _ | .box .. | .build .. | .buildSlice .. | .nilCheck _ | .unOp .. | .makeFunc ..
  | .makeMap .. | .makeSlice .. | .fieldAddr .. | .field .. | .index .. | .extract .. => some []
  | .binOp _ _ x y _ => some (rowRefs (ev fr x) ++ rowRefs (ev fr y))
  | .slice _ x .. | .indexAddr _ x _ => some (refs (ev fr x))
  | .convert _ _ x => some (refs (ev fr x))
  | .load _ a => some (refs (ev fr a))
  | .store _ a _ => some (refs (ev fr a))
  | .lookup _ m _ _ => some (refs (ev fr m))
  | .mapUpdate _ m _ _ => some (refs (ev fr m))
  | .call c => footCall G c fr
  | _ => none

theorem footF_eq (op : Op) (fr : List (AV U)) : footF G op fr = foot G op fr := by
  cases op with
  | call c => obtain ⟨callee, args, ts⟩ := c; cases callee <;> rfl
  | _ => rfl

/-- the rest of a region, behind an operation -/
def nextF (ops : List Oper) (o : Oper) (acc : List (Oper × Rec)) (w : Bool) (ids : List Nat) (st : St U) (pre : Nat) (v : AV U) (H' : Heap U) (rec : List (Oper × Rec) → St U → Option R) : Option R :=
  (fun r => match apartFrom ops o r acc 0 with
    | false => none
    | true => rec (acc ++ [(o, r)]) { fr := put st.fr o.dst v, H := mergeD w ids st.H H' }) ⟨ids, w, pre, st.H.length, H'.length⟩
def callDrawF (ops : List Oper) (o : Oper) (acc : List (Oper × Rec)) (fr : List (AV U)) (st : St U) (rec : List (Oper × Rec) → St U → Option R) : Option R := match callFoot o.op fr st.H with
  | none => none
  | some ids => opF G call o.op fr (restr ids st.H 0) fun v H' => match closedPost ids st.H.length v H' with
    | false => none
    | true => nextF ops o acc true ids st (preBits acc o.after.toList) v H' rec
def yesF (ops : List Oper) (o : Oper) (acc : List (Oper × Rec)) (fr : List (AV U)) (st : St U) (rec : List (Oper × Rec) → St U → Option R) : Option R := match footF G o.op fr with
  | none => callDrawF G call ops o acc fr st rec
  | some ids => (fun ids => opF G call o.op fr (restr ids st.H 0) fun v H' => nextF ops o acc (writes o.op) ids st (preBits acc o.after.toList) v H' rec) (wide o.op st.H ids)
def noF (ops : List Oper) (o : Oper) (acc : List (Oper × Rec)) (st : St U) (rec : List (Oper × Rec) → St U → Option R) : Option R :=
  (fun r => match apartFrom ops o r acc 0 with
    | false => none
    | true => rec (acc ++ [(o, r)]) { st with fr := put st.fr o.dst undefA }) ⟨[], false, preBits acc o.after.toList, st.H.length, st.H.length⟩
noncomputable def drawF (ops : List Oper) (rest : List Oper) : List (Oper × Rec) → St U → (St U → Option R) → Option R :=
  List.rec (fun _ st k => k st) (fun o _ ih acc st k => match preOk acc.length o.after.toList with
    | false => none
    | true => guardF ops o.guard st (fun st => yesF G call ops o acc (maskFr (looks ops o) st.fr 0) st fun acc st => ih acc st k) (fun st => noF ops o acc st fun acc st => ih acc st k)) rest

theorem drawF_eq (ops : List Oper) : ∀ (rest : List Oper) (acc : List (Oper × Rec)) (st : St U) (k : St U → Option R), drawF G call ops rest acc st k = drawK G call ops rest acc st k
  | [], acc, st, k => rfl
  | o :: rest, acc, st, k => by
    show (match preOk acc.length o.after.toList with
      | false => none
      | true => guardF ops o.guard st (fun st => yesF G call ops o acc (maskFr (looks ops o) st.fr 0) st fun acc st => drawF G call ops rest acc st k) (fun st => noF ops o acc st fun acc st => drawF G call ops rest acc st k)) = _
    have ih : (fun acc st => drawF G call ops rest acc st k) = fun acc st => drawK G call ops rest acc st k := funext fun acc => funext fun st => drawF_eq ops rest acc st k
    rw [ih]
    generalize hrec : (fun acc st => drawK G call ops rest acc st k) = rec
    unfold drawK
    cases preOk acc.length o.after.toList with
    | false => rfl
    | true =>
      dsimp only
      rw [guardF_eq]
      subst hrec
      congr 1
      funext st
      unfold yesF
      rw [footF_eq]
      cases foot G o.op (maskFr (looks ops o) st.fr 0) with
      | none =>
        dsimp only
        unfold callDrawF
        cases callFoot o.op (maskFr (looks ops o) st.fr 0) st.H with
        | none => rfl
        | some ids => dsimp only; rw [opF_eq]; rfl
      | some ids => dsimp only; rw [opF_eq]; rfl

/-! ## Code -/
def retF (rs : List ResultVar) (kk : AV U → Heap U → Option R) (e : AExit) (st : St U) : Option R := match e with
  | .exit _ => none
  | _ => resultsK G rs st fun vs => kk (oneOrTup vs) st.H
def bodyF (rec : FuncId → Code → St U → (AExit → St U → Option R) → Option R) (f : FuncId) (fn : Func) (args : List (AV U)) (H : Heap U) (kk : AV U → Heap U → Option R) : Option R := match fn.body with
  | none => none
  | some body => rec f body { fr := args ++ List.replicate (fn.ntmps - args.length) undefA, H := H } (retF G fn.results.toList kk)
def specF (s : Option (List (AV U) → Heap U → Option (AV U × Heap U))) (rec : FuncId → Code → St U → (AExit → St U → Option R) → Option R) (f : FuncId) (args : List (AV U)) (H : Heap U) (kk : AV U → Heap U → Option R) : Option R := match s with
  | some s => (s args H).bind fun r => kk r.1 r.2
  | none => match G.fn f with
    | none => none
    | some fn => bodyF G rec f fn args H kk
def callF (rec : FuncId → Code → St U → (AExit → St U → Option R) → Option R) (f : FuncId) (args : List (AV U)) (H : Heap U) (kk : AV U → Heap U → Option R) : Option R := specF G (G.spec f) rec f args H kk
noncomputable def regF (rec : FuncId → Code → St U → (AExit → St U → Option R) → Option R) (ops : List Oper) (draw : Bool) (st : St U) (k : St U → Option R) : Option R := match draw with
  | false => seqF G (callF G rec) ops ops st k
  | true => drawF G (callF G rec) ops ops [] st k
def afterF (rec : FuncId → Code → St U → (AExit → St U → Option R) → Option R) (fid : FuncId) (b : Code) (k : AExit → St U → Option R) (e : AExit) (st : St U) : Option R := match e with
  | .normal => rec fid b st k
  | e => k e st
def condF (rec : FuncId → Code → St U → (AExit → St U → Option R) → Option R) (fid : FuncId) (c : Operand) (v : AV U) (t e : Code) (st : St U) (k : AExit → St U → Option R) : Option R := match v with
  | .bool b => match b with
    | true => rec fid t { st with fr := setCond c true st.fr } k
    | false => rec fid e { st with fr := setCond c false st.fr } k
  | _ => none
def blockF (id : Nat) (k : AExit → St U → Option R) (e : AExit) (st : St U) : Option R := match e with
  | .exit j => match Nat.beq j id with
    | true => k .normal st
    | false => k (.exit j) st
  | e => k e st
noncomputable def codeF (rec : FuncId → Code → St U → (AExit → St U → Option R) → Option R) (fid : FuncId) (c : Code) (st : St U) (k : AExit → St U → Option R) : Option R := match c with
  | .skip => k .normal st
  | .region _ ops draw => regF G rec ops.toList draw st fun st => k .normal st
  | .seq a b => rec fid a st (afterF rec fid b k)
  | .cond c t e => condF rec fid c (ev st.fr c) t e st k
  | .block id body => rec fid body st (blockF id k)
  | .loop body => tryCuts (G.cuts fid ((firstRegion body).getD 0)) st k (rec fid body st (afterF rec fid (.loop body) k))
  | .exit id => k (.exit id) st
  | .ret => k .ret st
  | _ => none

noncomputable def execF (n : Nat) : FuncId → Code → St U → (AExit → St U → Option R) → Option R := Nat.rec (fun _ _ _ _ => none) (fun _ ih => codeF G ih) n

theorem execF_eq : ∀ (n : Nat) (fid : FuncId) (c : Code) (st : St U) (k : AExit → St U → Option R), execF G n fid c st k = exec G n fid c st k
  | 0, _, _, _, _ => rfl
  | n + 1, fid, c, st, k => by
    show codeF G (execF G n) fid c st k = _
    have ih : execF (R := R) G n = exec G n := funext fun f => funext fun c => funext fun st => funext fun k => execF_eq n f c st k
    rw [ih]
    have hret : ∀ (rs : List ResultVar) (kk : AV U → Heap U → Option R), retF G rs kk = fun e st' => match e with
        | .exit _ => none
        | _ => resultsK G rs st' fun vs => kk (oneOrTup vs) st'.H := fun rs kk => by
      funext e st; cases e <;> rfl
    have hcall : callF G (exec G n) = (fun f args H (kk : AV U → Heap U → Option R) => match G.spec f with
        | some s => (s args H).bind fun r => kk r.1 r.2
        | none => match G.fn f with
          | none => none
          | some fn => match fn.body with
            | none => none
            | some body => exec G n f body { fr := args ++ List.replicate (fn.ntmps - args.length) undefA, H := H } fun e st' => match e with
              | .exit _ => none
              | _ => resultsK G fn.results.toList st' fun vs => kk (oneOrTup vs) st'.H) := by
      funext f args H kk
      unfold callF specF
      split
      · rfl
      · split
        · rfl
        · unfold bodyF
          split
          · rfl
          · rw [hret]
    unfold exec codeF
    cases c with
    | region id ops draw =>
      dsimp only
      unfold regF regionK
      rw [hcall]
      cases draw
      · exact seqF_eq G _ _ _ _ _
      · exact drawF_eq G _ _ _ _ _ _
    | seq a b =>
      dsimp only
      congr 1
    | loop body =>
      dsimp only
      congr 1
    | block id body =>
      dsimp only
      congr 1
    | cond c t e => rfl
    | _ => rfl

noncomputable def runF (n : Nat) (f : FuncId) (args : List (AV U)) (H : Heap U) (k : AV U → Heap U → Option R) : Option R := match G.fn f with
  | none => none
  | some fn => bodyF G (execF G n) f fn args H k

theorem runF_eq (n : Nat) (f : FuncId) (args : List (AV U)) (H : Heap U) (k : AV U → Heap U → Option R) : runF G n f args H k = run G n f args H k := by
  unfold runF run
  cases G.fn f with
  | none => rfl
  | some fn =>
    dsimp only
    unfold bodyF
    cases fn.body with
    | none => rfl
    | some body =>
      dsimp only
      rw [execF_eq]
      congr 1
end

/-- a function, by its run -/
noncomputable def conRunF (n : Nat) (f : FuncId) (fl : Bool) (bo : Bool := false) : Con U :=
  { bor := bo, β := AV U, app := fun args => runF G n f args [] fun v H => match frz H v with
      | some v => match good fl v with
        | true => some v
        | false => none
      | none => none, ret := fun r => match good fl r with
      | true => r
      | false => .bool true, flat := fl }

theorem conRunF_eq (n : Nat) (f : FuncId) (fl bo : Bool) : conRunF G n f fl bo = conRun G n f fl bo := by
  unfold conRunF conRun
  congr 1
  funext args
  rw [runF_eq]
  congr 1

end Am
