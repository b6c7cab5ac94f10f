/- The evaluator over frames that are trees: regions, code, runs; it is the same. -/
import Derived.Test.YtlogoccciaopnaaGreatDoorAmFb
namespace Am
open Go
variable {U : TyU} {R : Type} (G : Env U)

section
variable (call : FuncId → List (AV U) → Heap U → (AV U → Heap U → Option R) → Option R)

noncomputable def frzT (ids : List Nat) (st : StT U) : StT U := match ids with
  | [] => st
  | _ => ⟨ofL (subL st.H ids st.fr.abs), killH ids (subH st.H ids st.H)⟩

theorem frzT_eq (ids : List Nat) {st : StT U} (hw : st.fr.WF) : (frzT ids st).abs = freezeSt ids st.abs ∧ (frzT ids st).fr.WF := by
  cases ids with
  | nil => exact ⟨rfl, hw⟩
  | cons i l =>
    refine ⟨?_, (ofL_eq _).2⟩
    show ({ fr := (ofL (subL st.H (i :: l) st.fr.abs)).abs, H := _ } : St U) = _
    rw [(ofL_eq _).1]; rfl

noncomputable def stepT1 (o : Oper) (st : StT U) (k : StT U → Option R) : Option R := opE G call (evT st.fr) o.op st.H fun v H => k ⟨putO st.fr o.dst v, H⟩
noncomputable def stepT (o : Oper) (st : StT U) (k : StT U → Option R) : Option R := stepT1 G call o (frzT (nE G (evT st.fr) o.op st.H) st) k

theorem stepT_eq (o : Oper) {st : StT U} (hw : st.fr.WF) {kT : StT U → Option R} {k : St U → Option R} (hk : ∀ s : StT U, s.fr.WF → kT s = k s.abs) : stepT G call o st kT = stepF G call o st.abs k := by
  unfold stepT stepT1 stepF
  obtain ⟨h1, h2⟩ := frzT_eq (nE G (evT st.fr) o.op st.H) hw
  have hn : nE G (evT st.fr) o.op st.H = nfF G o.op st.abs.fr st.abs.H := by rw [evT_eq, nE_eq]; rfl
  rw [evT_eq, opE_eq]
  dsimp only
  rw [← hn, ← h1]
  show opF G call o.op _ _ _ = opF G call o.op _ _ _
  congr 1
  funext v H
  have hp := putO_eq h2 o.dst v
  rw [hk _ hp.2]
  show k { fr := (putO _ o.dst v).abs, H := H } = _
  rw [hp.1]; rfl

noncomputable def guardTV (want : Bool) (d : Nat) (v : AV U) (st : StT U) (yes : StT U → Option R) (no : StT U → Option R) : Option R := match v with
  | .bool b => match b with
    | true => match want with
      | true => yes ⟨putF st.fr d (.bool true), st.H⟩
      | false => no ⟨putF st.fr d (.bool true), st.H⟩
    | false => match want with
      | true => no ⟨putF st.fr d (.bool false), st.H⟩
      | false => yes ⟨putF st.fr d (.bool false), st.H⟩
  | .tup [] => no st
  | _ => none
noncomputable def guardT (ops : List Oper) (g : Option (Nat × Bool)) (st : StT U) (yes : StT U → Option R) (no : StT U → Option R) : Option R := match g with
  | none => yes st
  | some (j, want) => match guardSlot ops j with
    | none => none
    | some d => guardTV want d (getF st.fr d undefA) st yes no

theorem guardT_eq (ops : List Oper) (g : Option (Nat × Bool)) {st : StT U} (hw : st.fr.WF) {yT nT : StT U → Option R} {y n : St U → Option R} (hy : ∀ s : StT U, s.fr.WF → yT s = y s.abs) (hn : ∀ s : StT U, s.fr.WF → nT s = n s.abs) :
    guardT ops g st yT nT = guardF ops g st.abs y n := by
  have hset : ∀ (d : Nat) (v : AV U), (⟨putF st.fr d v, st.H⟩ : StT U).abs = { st.abs with fr := st.abs.fr.set d v } := fun d v => by
    show ({ fr := (putF st.fr d v).abs, H := st.H } : St U) = _
    rw [(putF_eq hw d v).1]; rfl
  unfold guardT guardF
  cases g with
  | none => exact hy st hw
  | some p =>
    obtain ⟨j, want⟩ := p
    dsimp only
    cases guardSlot ops j with
    | none => rfl
    | some d =>
      dsimp only
      rw [getF_eq]
      show guardTV want d (st.abs.fr.getD d undefA) st yT nT = guardV want d (st.abs.fr.getD d undefA) st.abs y n
      generalize st.abs.fr.getD d undefA = v
      unfold guardTV guardV
      cases v with
      | bool b =>
        cases b <;> cases want <;> dsimp only
        · rw [hy _ (putF_eq hw d _).2, hset]
        · rw [hn _ (putF_eq hw d _).2, hset]
        · rw [hn _ (putF_eq hw d _).2, hset]
        · rw [hy _ (putF_eq hw d _).2, hset]
      | tup l =>
        cases l with
        | nil => exact hn st hw
        | cons _ _ => rfl
      | _ => rfl

noncomputable def seqT (ops : List Oper) (rest : List Oper) : StT U → (StT U → Option R) → Option R :=
  List.rec (fun st k => k st) (fun o _ ih st k => guardT ops o.guard st (fun st => stepT G call o st fun st => ih st k) (fun st => ih ⟨putO st.fr o.dst undefA, st.H⟩ k)) rest

theorem seqT_eq (ops : List Oper) {kT : StT U → Option R} {k : St U → Option R} (hk : ∀ s : StT U, s.fr.WF → kT s = k s.abs) : ∀ (rest : List Oper) (st : StT U), st.fr.WF → seqT G call ops rest st kT = seqF G call ops rest st.abs k
  | [], st, hw => hk st hw
  | o :: rest, st, hw => by
    refine guardT_eq (yT := fun st => stepT G call o st fun st => seqT G call ops rest st kT) (nT := fun st => seqT G call ops rest ⟨putO st.fr o.dst undefA, st.H⟩ kT)
      (y := fun st => stepF G call o st fun st => seqF G call ops rest st k) (n := fun st => seqF G call ops rest { st with fr := put st.fr o.dst undefA } k) ops o.guard hw (fun s hs => ?_) (fun s hs => ?_)
    · exact stepT_eq G call o hs (fun s hs => seqT_eq ops hk rest s hs)
    · have hp := putO_eq hs o.dst undefA
      rw [seqT_eq ops hk rest _ hp.2]
      show seqF G call ops rest { fr := (putO s.fr o.dst undefA).abs, H := s.H } k = _
      rw [hp.1]; rfl

noncomputable def nextT (ops : List Oper) (o : Oper) (acc : List (Oper × Rec)) (w : Bool) (ids : List Nat) (st : StT U) (pre : Nat) (v : AV U) (H' : Heap U) (rec : List (Oper × Rec) → StT U → Option R) : Option R :=
  (fun r => match apartFrom ops o r acc 0 with
    | false => none
    | true => rec (acc ++ [(o, r)]) ⟨putO st.fr o.dst v, mergeD w ids st.H H'⟩) ⟨ids, w, pre, st.H.length, H'.length⟩
noncomputable def callDrawT (ops : List Oper) (o : Oper) (acc : List (Oper × Rec)) (st : StT U) (rec : List (Oper × Rec) → StT U → Option R) : Option R := match callFoot o.op (maskFr (looks ops o) st.fr.abs 0) st.H with
  | none => none
  | some ids => opE G call (evT st.fr) o.op (restr ids st.H 0) fun v H' => match closedPost ids st.H.length v H' with
    | false => none
    | true => nextT ops o acc true ids st (preBits acc o.after.toList) v H' rec
noncomputable def yesT (ops : List Oper) (o : Oper) (acc : List (Oper × Rec)) (st : StT U) (rec : List (Oper × Rec) → StT U → Option R) : Option R := match fE G (evT st.fr) o.op with
  | none => callDrawT G call ops o acc st rec
  | some ids => (fun ids => opE G call (evT st.fr) o.op (restr ids st.H 0) fun v H' => nextT ops o acc (writes o.op) ids st (preBits acc o.after.toList) v H' rec) (wide o.op st.H ids)
noncomputable def noT (ops : List Oper) (o : Oper) (acc : List (Oper × Rec)) (st : StT U) (rec : List (Oper × Rec) → StT U → Option R) : Option R :=
  (fun r => match apartFrom ops o r acc 0 with
    | false => none
    | true => rec (acc ++ [(o, r)]) ⟨putO st.fr o.dst undefA, st.H⟩) ⟨[], false, preBits acc o.after.toList, st.H.length, st.H.length⟩
noncomputable def drawT (ops : List Oper) (rest : List Oper) : List (Oper × Rec) → StT U → (StT U → Option R) → Option R :=
  List.rec (fun _ st k => k st) (fun o _ ih acc st k => match preOk acc.length o.after.toList with
    | false => none
    | true => guardT ops o.guard st (fun st => yesT G call ops o acc st fun acc st => ih acc st k) (fun st => noT ops o acc st fun acc st => ih acc st k)) rest

theorem nextT_eq (ops : List Oper) (o : Oper) (acc : List (Oper × Rec)) (w : Bool) (ids : List Nat) {st : StT U} (hw : st.fr.WF) (pre : Nat) (v : AV U) (H' : Heap U) {rT : List (Oper × Rec) → StT U → Option R} {r : List (Oper × Rec) → St U → Option R}
    (hr : ∀ acc (s : StT U), s.fr.WF → rT acc s = r acc s.abs) : nextT ops o acc w ids st pre v H' rT = nextF ops o acc w ids st.abs pre v H' r := by
  unfold nextT nextF
  dsimp only
  show (match apartFrom ops o ⟨ids, w, pre, st.H.length, H'.length⟩ acc 0 with | false => none | true => _) = (match apartFrom ops o ⟨ids, w, pre, st.H.length, H'.length⟩ acc 0 with | false => none | true => _)
  cases apartFrom ops o ⟨ids, w, pre, st.H.length, H'.length⟩ acc 0 with
  | false => rfl
  | true =>
    have hp := putO_eq hw o.dst v
    dsimp only
    rw [hr _ _ hp.2]
    show r _ { fr := (putO st.fr o.dst v).abs, H := _ } = _
    rw [hp.1]; rfl

theorem noT_eq (ops : List Oper) (o : Oper) (acc : List (Oper × Rec)) {st : StT U} (hw : st.fr.WF) {rT : List (Oper × Rec) → StT U → Option R} {r : List (Oper × Rec) → St U → Option R}
    (hr : ∀ acc (s : StT U), s.fr.WF → rT acc s = r acc s.abs) : noT ops o acc st rT = noF ops o acc st.abs r := by
  unfold noT noF
  dsimp only
  show (match apartFrom ops o ⟨[], false, preBits acc o.after.toList, st.H.length, st.H.length⟩ acc 0 with | false => none | true => _) = (match apartFrom ops o ⟨[], false, preBits acc o.after.toList, st.H.length, st.H.length⟩ acc 0 with | false => none | true => _)
  cases apartFrom ops o ⟨[], false, preBits acc o.after.toList, st.H.length, st.H.length⟩ acc 0 with
  | false => rfl
  | true =>
    have hp := putO_eq hw o.dst undefA
    dsimp only
    rw [hr _ _ hp.2]
    show r _ { fr := (putO st.fr o.dst undefA).abs, H := _ } = _
    rw [hp.1]; rfl

theorem drawT_eq (ops : List Oper) {kT : StT U → Option R} {k : St U → Option R} (hk : ∀ s : StT U, s.fr.WF → kT s = k s.abs) : ∀ (rest : List Oper) (acc : List (Oper × Rec)) (st : StT U), st.fr.WF → drawT G call ops rest acc st kT = drawF G call ops rest acc st.abs k
  | [], acc, st, hw => hk st hw
  | o :: rest, acc, st, hw => by
    show (match preOk acc.length o.after.toList with
      | false => none
      | true => guardT ops o.guard st (fun st => yesT G call ops o acc st fun acc st => drawT G call ops rest acc st kT) (fun st => noT ops o acc st fun acc st => drawT G call ops rest acc st kT)) =
      (match preOk acc.length o.after.toList with
      | false => none
      | true => guardF ops o.guard st.abs (fun st => yesF G call ops o acc (maskFr (looks ops o) st.fr 0) st fun acc st => drawF G call ops rest acc st k) (fun st => noF ops o acc st fun acc st => drawF G call ops rest acc st k))
    cases preOk acc.length o.after.toList with
    | false => rfl
    | true =>
      dsimp only
      refine guardT_eq ops o.guard hw (fun s hs => ?_) (fun s hs => noT_eq ops o acc hs fun acc s hs => drawT_eq ops hk rest acc s hs)
      have he : ∀ (H : Heap U) (kk : AV U → Heap U → Option R), opE G call (evT s.fr) o.op H kk = opF G call o.op (maskFr (looks ops o) s.abs.fr 0) H kk := fun H kk => by
        rw [evT_eq, ← opE_eq]
        exact opE_congr G call mask_operands H kk
      have hf : fE G (evT s.fr) o.op = footF G o.op (maskFr (looks ops o) s.abs.fr 0) := by
        rw [evT_eq, ← fE_eq]
        exact fE_congr G mask_operands
      unfold yesT yesF
      rw [hf]
      cases footF G o.op (maskFr (looks ops o) s.abs.fr 0) with
      | none =>
        dsimp only
        unfold callDrawT callDrawF
        show (match callFoot o.op (maskFr (looks ops o) s.abs.fr 0) s.H with | none => none | some ids => _) = (match callFoot o.op (maskFr (looks ops o) s.abs.fr 0) s.H with | none => none | some ids => _)
        cases callFoot o.op (maskFr (looks ops o) s.abs.fr 0) s.H with
        | none => rfl
        | some ids =>
          dsimp only
          rw [he]
          congr 1
          funext v H'
          show (match closedPost ids s.H.length v H' with | false => none | true => _) = (match closedPost ids s.H.length v H' with | false => none | true => _)
          cases closedPost ids s.H.length v H' with
          | false => rfl
          | true => exact nextT_eq ops o acc true ids hs _ v H' fun acc s hs => drawT_eq ops hk rest acc s hs
      | some ids =>
        dsimp only
        rw [he]
        congr 1
        funext v H'
        exact nextT_eq ops o acc _ _ hs _ v H' fun acc s hs => drawT_eq ops hk rest acc s hs

/-! ## Code -/
noncomputable def resultsT (rs : List ResultVar) (st : StT U) : (List (AV U) → Option R) → Option R := List.rec (fun k => k []) (fun r _ ih k => match r with
  | .tmp t => ih fun vs => k (getF st.fr t undefA :: vs)
  | .cell a t => loadK G t (getF st.fr a undefA) st.H fun v => ih fun vs => k (v :: vs)) rs

theorem resultsT_eq (st : StT U) : ∀ (rs : List ResultVar) (k : List (AV U) → Option R), resultsT G rs st k = resultsK G rs st.abs k
  | [], k => rfl
  | .tmp t :: l, k => by
    show resultsT G l st (fun vs => k (getF st.fr t undefA :: vs)) = _
    rw [resultsT_eq st l, getF_eq]; rfl
  | .cell a t :: l, k => by
    show loadK G t (getF st.fr a undefA) st.H (fun v => resultsT G l st fun vs => k (v :: vs)) = _
    unfold resultsK
    rw [getF_eq]
    congr 1
    funext v
    exact resultsT_eq st l _

noncomputable def retT (rs : List ResultVar) (kk : AV U → Heap U → Option R) (e : AExit) (st : StT U) : Option R := match e with
  | .exit _ => none
  | _ => resultsT G rs st fun vs => kk (oneOrTup vs) st.H
noncomputable def bodyT (rec : FuncId → Code → StT U → (AExit → StT U → Option R) → Option R) (f : FuncId) (fn : Func) (args : List (AV U)) (H : Heap U) (kk : AV U → Heap U → Option R) : Option R := match fn.body with
  | none => none
  | some body => rec f body ⟨mkF args fn.ntmps, H⟩ (retT G fn.results.toList kk)
noncomputable def specT (s : Option (List (AV U) → Heap U → Option (AV U × Heap U))) (rec : FuncId → Code → StT U → (AExit → StT U → Option R) → Option R) (f : FuncId) (args : List (AV U)) (H : Heap U) (kk : AV U → Heap U → Option R) : Option R := match s with
  | some s => (s args H).bind fun r => kk r.1 r.2
  | none => match G.fn f with
    | none => none
    | some fn => bodyT G rec f fn args H kk
noncomputable def callT (rec : FuncId → Code → StT U → (AExit → StT U → Option R) → Option R) (f : FuncId) (args : List (AV U)) (H : Heap U) (kk : AV U → Heap U → Option R) : Option R := specT G (G.spec f) rec f args H kk
noncomputable def regT (rec : FuncId → Code → StT U → (AExit → StT U → Option R) → Option R) (ops : List Oper) (draw : Bool) (st : StT U) (k : StT U → Option R) : Option R := match draw with
  | false => seqT G (callT G rec) ops ops st k
  | true => drawT G (callT G rec) ops ops [] st k
noncomputable def afterT (rec : FuncId → Code → StT U → (AExit → StT U → Option R) → Option R) (fid : FuncId) (b : Code) (k : AExit → StT U → Option R) (e : AExit) (st : StT U) : Option R := match e with
  | .normal => rec fid b st k
  | e => k e st
noncomputable def condTP (c : Operand) (b : Bool) (fr : Fm U) : Fm U := match c with
  | .tmp t => putF fr t (.bool b)
  | _ => fr
noncomputable def condT (rec : FuncId → Code → StT U → (AExit → StT U → Option R) → Option R) (fid : FuncId) (c : Operand) (v : AV U) (t e : Code) (st : StT U) (k : AExit → StT U → Option R) : Option R := match v with
  | .bool b => match b with
    | true => rec fid t ⟨condTP c true st.fr, st.H⟩ k
    | false => rec fid e ⟨condTP c false st.fr, st.H⟩ k
  | _ => none
noncomputable def blockT (id : Nat) (k : AExit → StT U → Option R) (e : AExit) (st : StT U) : Option R := match e with
  | .exit j => match Nat.beq j id with
    | true => k .normal st
    | false => k (.exit j) st
  | e => k e st
noncomputable def loopT (l : List (Cut U)) (st : StT U) (k : AExit → StT U → Option R) (x : Option R) : Option R := match l with
  | [] => x
  | l => tryCuts l st.abs (fun e s => k e ⟨ofL s.fr, s.H⟩) x
noncomputable def codeT (rec : FuncId → Code → StT U → (AExit → StT U → Option R) → Option R) (fid : FuncId) (c : Code) (st : StT U) (k : AExit → StT U → Option R) : Option R := match c with
  | .skip => k .normal st
  | .region _ ops draw => regT G rec ops.toList draw st fun st => k .normal st
  | .seq a b => rec fid a st (afterT rec fid b k)
  | .cond c t e => condT rec fid c (evT st.fr c) t e st k
  | .block id body => rec fid body st (blockT id k)
  | .loop body => loopT (G.cuts fid ((firstRegion body).getD 0)) st k (rec fid body st (afterT rec fid (.loop body) k))
  | .exit id => k (.exit id) st
  | .ret => k .ret st
  | _ => none

noncomputable def execT (n : Nat) : FuncId → Code → StT U → (AExit → StT U → Option R) → Option R := Nat.rec (fun _ _ _ _ => none) (fun _ ih => codeT G ih) n

theorem condTP_eq {st : StT U} (hw : st.fr.WF) (c : Operand) (b : Bool) : (⟨condTP c b st.fr, st.H⟩ : StT U).abs = { st.abs with fr := setCond c b st.abs.fr } ∧ (condTP c b st.fr).WF := by
  cases c with
  | tmp t =>
    refine ⟨?_, (putF_eq hw t _).2⟩
    show ({ fr := (putF st.fr t (.bool b)).abs, H := st.H } : St U) = _
    rw [(putF_eq hw t _).1]; rfl
  | _ => exact ⟨rfl, hw⟩

theorem execT_eq : ∀ (n : Nat) (fid : FuncId) (c : Code) (st : StT U) (kT : AExit → StT U → Option R) (k : AExit → St U → Option R), st.fr.WF → (∀ e (s : StT U), s.fr.WF → kT e s = k e s.abs) → execT G n fid c st kT = execF G n fid c st.abs k
  | 0, _, _, _, _, _, _, _ => rfl
  | n + 1, fid, c, st, kT, k, hw, hk => by
    show codeT G (execT G n) fid c st kT = codeF G (execF G n) fid c st.abs k
    have hcall : callT G (execT (R := R) G n) = callF G (execF G n) := by
      funext f args H kk
      unfold callT callF specT specF
      cases G.spec f with
      | some s => rfl
      | none =>
        dsimp only
        cases G.fn f with
        | none => rfl
        | some fn =>
          dsimp only
          unfold bodyT bodyF
          cases fn.body with
          | none => rfl
          | some body =>
            dsimp only
            obtain ⟨h1, h2⟩ := mkF_eq args fn.ntmps
            rw [execT_eq n f body ⟨mkF args fn.ntmps, H⟩ _ (retF G fn.results.toList kk) h2 (fun e s hs => ?_)]
            · show execF G n f body { fr := (mkF args fn.ntmps).abs, H := H } _ = _
              rw [h1]
            · unfold retT retF
              cases e with
              | exit j => rfl
              | _ => exact resultsT_eq G s _ _
    have haft : ∀ b e (s : StT U), s.fr.WF → afterT (execT G n) fid b kT e s = afterF (execF G n) fid b k e s.abs := fun b e s hs => by
      cases e with
      | normal => exact execT_eq n fid b s kT k hs hk
      | exit j => exact hk _ s hs
      | ret => exact hk _ s hs
    cases c with
    | skip => exact hk _ st hw
    | region id ops draw =>
      show regT G (execT G n) ops.toList draw st (fun st => kT .normal st) = regF G (execF G n) ops.toList draw st.abs fun st => k .normal st
      unfold regT regF
      rw [hcall]
      cases draw
      · exact seqT_eq G _ _ (fun s hs => hk _ s hs) _ st hw
      · exact drawT_eq G _ _ (fun s hs => hk _ s hs) _ _ st hw
    | seq a b => exact execT_eq n fid a st _ _ hw (haft b)
    | cond c t e =>
      show condT (execT G n) fid c (evT st.fr c) t e st kT = condF (execF G n) fid c (ev st.abs.fr c) t e st.abs k
      rw [evT_eq]
      show condT (execT G n) fid c (ev st.abs.fr c) t e st kT = _
      generalize ev st.abs.fr c = v
      unfold condT condF
      cases v with
      | bool b =>
        cases b
        · dsimp only
          rw [execT_eq n fid e _ kT k (condTP_eq hw c false).2 hk, (condTP_eq hw c false).1]
        · dsimp only
          rw [execT_eq n fid t _ kT k (condTP_eq hw c true).2 hk, (condTP_eq hw c true).1]
      | _ => rfl
    | block id body =>
      refine execT_eq n fid body st _ _ hw (fun e s hs => ?_)
      unfold blockT blockF
      cases e with
      | normal => exact hk _ s hs
      | ret => exact hk _ s hs
      | exit j =>
        dsimp only
        cases Nat.beq j id
        · exact hk _ s hs
        · exact hk _ s hs
    | loop body =>
      show loopT _ st kT (execT G n fid body st (afterT (execT G n) fid (.loop body) kT)) = tryCuts _ st.abs k (execF G n fid body st.abs (afterF (execF G n) fid (.loop body) k))
      rw [execT_eq n fid body st _ _ hw (haft (.loop body))]
      unfold loopT
      have hkk : (fun e (s : St U) => kT e ⟨ofL s.fr, s.H⟩) = k := by
        funext e s
        rw [hk e ⟨ofL s.fr, s.H⟩ (ofL_eq _).2]
        show k e { fr := (ofL s.fr).abs, H := s.H } = _
        rw [(ofL_eq _).1]
      cases G.cuts fid ((firstRegion body).getD 0) with
      | nil => rfl
      | cons C l => dsimp only; rw [hkk]
    | exit id => exact hk _ st hw
    | ret => exact hk _ st hw
    | _ => rfl

noncomputable def runT (n : Nat) (f : FuncId) (args : List (AV U)) (H : Heap U) (k : AV U → Heap U → Option R) : Option R := match G.fn f with
  | none => none
  | some fn => bodyT G (execT G n) f fn args H k

theorem runT_eq (n : Nat) (f : FuncId) (args : List (AV U)) (H : Heap U) (k : AV U → Heap U → Option R) : runT G n f args H k = run G n f args H k := by
  rw [← runF_eq]
  unfold runT runF
  cases G.fn f with
  | none => rfl
  | some fn =>
    dsimp only
    unfold bodyT bodyF
    cases fn.body with
    | none => rfl
    | some body =>
      dsimp only
      obtain ⟨h1, h2⟩ := mkF_eq args fn.ntmps
      rw [execT_eq G n f body ⟨mkF args fn.ntmps, H⟩ _ (retF G fn.results.toList k) h2 (fun e s hs => ?_)]
      · show execF G n f body { fr := (mkF args fn.ntmps).abs, H := H } _ = _
        rw [h1]
      · unfold retT retF
        cases e with
        | exit j => rfl
        | _ => exact resultsT_eq G s _ _
end

noncomputable def finT (fl : Bool) (v : AV U) (H : Heap U) : Option (AV U) := match frz H v with
  | some v => match good fl v with
    | true => some v
    | false => none
  | none => none

/-- a function, by its run -/
noncomputable def conRunT (n : Nat) (f : FuncId) (fl : Bool) (bo : Bool := false) : Con U :=
  { bor := bo, β := AV U, app := fun args => runT G n f args [] (finT fl), ret := fun r => match good fl r with
      | true => r
      | false => .bool true, flat := fl }

theorem conRunT_eq (n : Nat) (f : FuncId) (fl bo : Bool) : conRunT G n f fl bo = conRun G n f fl bo := by
  unfold conRunT conRun
  congr 1
  funext args
  rw [runT_eq]
  congr 1

end Am
