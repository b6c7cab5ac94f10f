/- The evaluator once more, with frames that are trees. -/
import Derived.Test.YtlogoccciaopnaaGreatDoorAmFa
namespace Am
open Go
variable {U : TyU} {R : Type} (G : Env U)

/-! ## Frames -/
inductive FT (U : TyU) where
  | leaf (v : AV U)
  | node (l r : FT U)

structure Fm (U : TyU) where
  n : Nat
  f : FT U

structure StT (U : TyU) where
  fr : Fm U
  H : Heap U

def FT.WF : Nat → FT U → Prop
  | 0, .leaf _ => True
  | d + 1, .node l r => FT.WF d l ∧ FT.WF d r
  | _, _ => False

noncomputable def getT (f : FT U) : Nat → AV U := FT.rec (fun v _ => v) (fun _ _ ihl ihr n => Bool.rec (ihr (Nat.div n 2)) (ihl (Nat.div n 2)) (Nat.beq (Nat.mod n 2) 0)) f
noncomputable def setT (f : FT U) : Nat → AV U → FT U := FT.rec (fun _ _ v => .leaf v) (fun l r ihl ihr n v => Bool.rec (.node l (ihr (Nat.div n 2) v)) (.node (ihl (Nat.div n 2) v) r) (Nat.beq (Nat.mod n 2) 0)) f

theorem getT_node (l r : FT U) (n : Nat) : getT (.node l r) n = if n % 2 = 0 then getT l (n / 2) else getT r (n / 2) := by
  show (Bool.rec (getT r (n / 2)) (getT l (n / 2)) (Nat.beq (n % 2) 0) : AV U) = _
  by_cases h : n % 2 = 0
  · rw [if_pos h, h]; rfl
  · rw [if_neg h]
    have : Nat.beq (n % 2) 0 = false := by
      cases hb : Nat.beq (n % 2) 0 with
      | false => rfl
      | true => exact absurd (Nat.eq_of_beq_eq_true hb) h
    rw [this]

theorem setT_node (l r : FT U) (n : Nat) (v : AV U) : setT (.node l r) n v = if n % 2 = 0 then .node (setT l (n / 2) v) r else .node l (setT r (n / 2) v) := by
  show (Bool.rec (FT.node l (setT r (n / 2) v)) (.node (setT l (n / 2) v) r) (Nat.beq (n % 2) 0) : FT U) = _
  by_cases h : n % 2 = 0
  · rw [if_pos h, h]; rfl
  · rw [if_neg h]
    have : Nat.beq (n % 2) 0 = false := by
      cases hb : Nat.beq (n % 2) 0 with
      | false => rfl
      | true => exact absurd (Nat.eq_of_beq_eq_true hb) h
    rw [this]

theorem setT_wf : ∀ (d : Nat) (f : FT U) (n : Nat) (v : AV U), FT.WF d f → FT.WF d (setT f n v)
  | 0, .leaf _, _, _, _ => trivial
  | 0, .node _ _, _, _, h => h.elim
  | d + 1, .leaf _, _, _, h => h.elim
  | d + 1, .node l r, n, v, h => by
    rw [setT_node]
    split
    · exact ⟨setT_wf d l _ v h.1, h.2⟩
    · exact ⟨h.1, setT_wf d r _ v h.2⟩

theorem getT_setT : ∀ (d : Nat) (f : FT U) (n m : Nat) (v : AV U), FT.WF d f → n < 2 ^ d → m < 2 ^ d → getT (setT f n v) m = if m = n then v else getT f m
  | 0, .leaf _, n, m, v, _, hn, hm => by
    have : m = n := by simp at hn hm; omega
    rw [if_pos this]; rfl
  | 0, .node _ _, _, _, _, h, _, _ => h.elim
  | d + 1, .leaf _, _, _, _, h, _, _ => h.elim
  | d + 1, .node l r, n, m, v, h, hn, hm => by
    have hn' : n / 2 < 2 ^ d := by rw [Nat.pow_succ] at hn; omega
    have hm' : m / 2 < 2 ^ d := by rw [Nat.pow_succ] at hm; omega
    rw [setT_node, getT_node]
    by_cases h1 : n % 2 = 0
    · rw [if_pos h1, getT_node]
      by_cases h2 : m % 2 = 0
      · rw [if_pos h2, if_pos h2, getT_setT d l _ _ v h.1 hn' hm']
        by_cases h3 : m = n
        · rw [if_pos h3, if_pos (by omega)]
        · rw [if_neg h3, if_neg (by omega)]
      · rw [if_neg h2, if_neg h2, if_neg (by rintro rfl; exact h2 h1)]
    · rw [if_neg h1, getT_node]
      by_cases h2 : m % 2 = 0
      · rw [if_pos h2, if_pos h2, if_neg (by rintro rfl; exact h1 h2)]
      · rw [if_neg h2, if_neg h2, getT_setT d r _ _ v h.2 hn' hm']
        by_cases h3 : m = n
        · rw [if_pos h3, if_pos (by omega)]
        · rw [if_neg h3, if_neg (by omega)]

noncomputable def Fm.abs (fr : Fm U) : List (AV U) := (List.range fr.n).map (getT fr.f)
def Fm.WF (fr : Fm U) : Prop := ∃ d, FT.WF d fr.f ∧ fr.n ≤ 2 ^ d
noncomputable def StT.abs (st : StT U) : St U := { fr := st.fr.abs, H := st.H }

noncomputable def getF (fr : Fm U) (t : Nat) (d : AV U) : AV U := Fm.rec (fun n f => Bool.rec d (getT f t) (Nat.blt t n)) fr
noncomputable def putF (fr : Fm U) (d : Nat) (v : AV U) : Fm U := Fm.rec (fun n f => Bool.rec ⟨n, f⟩ ⟨n, setT f d v⟩ (Nat.blt d n)) fr
theorem getF_def (fr : Fm U) (t : Nat) (d : AV U) : getF fr t d = Bool.rec d (getT fr.f t) (Nat.blt t fr.n) := rfl
theorem putF_def (fr : Fm U) (d : Nat) (v : AV U) : putF fr d v = Bool.rec fr ⟨fr.n, setT fr.f d v⟩ (Nat.blt d fr.n) := rfl
noncomputable def putO (fr : Fm U) (dst : Option Tmp) (v : AV U) : Fm U := match dst with
  | some d => putF fr d v
  | none => fr

theorem blt_cases (a b : Nat) : (Nat.blt a b = true ∧ a < b) ∨ (Nat.blt a b = false ∧ ¬ a < b) := by
  cases h : Nat.blt a b with
  | true => exact .inl ⟨rfl, by simpa [Nat.blt_eq] using h⟩
  | false => exact .inr ⟨rfl, fun hh => by have : Nat.blt a b = true := by simpa [Nat.blt_eq] using hh
                                           rw [this] at h; cases h⟩

theorem abs_get (fr : Fm U) (t : Nat) : fr.abs[t]? = if t < fr.n then some (getT fr.f t) else none := by
  unfold Fm.abs
  rw [List.getElem?_map]
  split
  · rename_i h; rw [List.getElem?_range h]; rfl
  · rename_i h; rw [List.getElem?_eq_none (by simp; omega)]; rfl

theorem getF_eq (fr : Fm U) (t : Nat) (d : AV U) : getF fr t d = fr.abs.getD t d := by
  rw [List.getD_eq_getElem?_getD, abs_get, getF_def]
  rcases blt_cases t fr.n with ⟨h1, h2⟩ | ⟨h1, h2⟩
  · rw [h1, if_pos h2]; rfl
  · rw [h1, if_neg h2]; rfl

theorem putF_eq {fr : Fm U} (hw : fr.WF) (d : Nat) (v : AV U) : (putF fr d v).abs = fr.abs.set d v ∧ (putF fr d v).WF := by
  rw [putF_def]
  rcases blt_cases d fr.n with ⟨h1, h2⟩ | ⟨h1, h2⟩
  · rw [h1]
    obtain ⟨D, w1, w2⟩ := hw
    refine ⟨?_, D, setT_wf D _ _ _ w1, w2⟩
    refine List.ext_getElem? fun t => ?_
    have e1 := abs_get (⟨fr.n, setT fr.f d v⟩ : Fm U) t
    refine e1.trans ?_
    rw [List.getElem?_set, abs_get]
    have hl : fr.abs.length = fr.n := by simp [Fm.abs]
    by_cases ht : t < fr.n
    · rw [if_pos ht, if_pos ht, getT_setT D _ _ _ _ w1 (by omega) (by omega)]
      by_cases hd : d = t
      · rw [if_pos hd, if_pos hd.symm, if_pos (by omega)]
      · rw [if_neg hd, if_neg (fun h => hd h.symm)]
    · rw [if_neg ht, if_neg ht]
      split
      · rename_i hd; rw [if_neg (by omega)]
      · rfl
  · rw [h1]
    refine ⟨?_, hw⟩
    have hl : fr.abs.length = fr.n := by simp [Fm.abs]
    rw [List.set_eq_of_length_le (by omega)]

theorem putO_eq {fr : Fm U} (hw : fr.WF) (d : Option Tmp) (v : AV U) : (putO fr d v).abs = put fr.abs d v ∧ (putO fr d v).WF := by
  cases d with
  | none => exact ⟨rfl, hw⟩
  | some d => exact putF_eq hw d v

noncomputable def fullT (d : Nat) : FT U := Nat.rec (.leaf undefA) (fun _ ih => (fun t => .node t t) ih) d
noncomputable def fillT (l : List (AV U)) : FT U → Nat → FT U := List.rec (fun f _ => f) (fun a _ ih f i => ih (setT f i a) (i + 1)) l
noncomputable def mkF (args : List (AV U)) (n : Nat) : Fm U := (fun m => ⟨m, fillT args (fullT (Nat.log2 m + 1)) 0⟩) (args.length + (n - args.length))

theorem fullT_wf : ∀ d, FT.WF d (fullT d : FT U)
  | 0 => trivial
  | d + 1 => ⟨fullT_wf d, fullT_wf d⟩

theorem fullT_get : ∀ (d n : Nat), getT (fullT d : FT U) n = undefA
  | 0, _ => rfl
  | d + 1, n => by
    show getT (.node (fullT d) (fullT d)) n = _
    rw [getT_node, fullT_get d]
    simp

theorem fillT_spec (d : Nat) : ∀ (l : List (AV U)) (f : FT U) (i : Nat), FT.WF d f → i + l.length ≤ 2 ^ d → FT.WF d (fillT l f i) ∧ ∀ m, m < 2 ^ d → getT (fillT l f i) m = if i ≤ m ∧ m < i + l.length then l.getD (m - i) undefA else getT f m
  | [], f, i, hw, _ => ⟨hw, fun m _ => by rw [if_neg (by simp)]; rfl⟩
  | a :: l, f, i, hw, hl => by
    have hl : i + (l.length + 1) ≤ 2 ^ d := by simpa using hl
    obtain ⟨h1, h2⟩ := fillT_spec d l (setT f i a) (i + 1) (setT_wf d f i a hw) (by omega)
    refine ⟨h1, fun m hm => ?_⟩
    show getT (fillT l (setT f i a) (i + 1)) m = _
    rw [h2 m hm, getT_setT d f i m a hw (by omega) hm]
    simp only [List.length_cons]
    by_cases h3 : i + 1 ≤ m ∧ m < i + 1 + l.length
    · rw [if_pos h3, if_pos (by omega)]
      have : m - i = (m - (i + 1)) + 1 := by omega
      rw [this, List.getD_cons_succ]
    · rw [if_neg h3]
      by_cases h4 : m = i
      · rw [if_pos h4, if_pos (by omega), h4, Nat.sub_self]; rfl
      · rw [if_neg h4, if_neg (by omega)]

theorem mkF_eq (args : List (AV U)) (n : Nat) : (mkF args n).abs = args ++ List.replicate (n - args.length) undefA ∧ (mkF args n).WF := by
  have hlt : args.length + (n - args.length) < 2 ^ (Nat.log2 (args.length + (n - args.length)) + 1) := Nat.lt_log2_self
  obtain ⟨h1, h2⟩ := fillT_spec (Nat.log2 (args.length + (n - args.length)) + 1) args (fullT _) 0 (fullT_wf _) (by omega)
  refine ⟨List.ext_getElem? fun t => ?_, _, h1, by show args.length + (n - args.length) ≤ _; omega⟩
  refine (abs_get (mkF args n) t).trans ?_
  show (if t < args.length + (n - args.length) then some (getT (fillT args (fullT _) 0) t) else none) = _
  split
  · rename_i ht
    rw [h2 t (by omega), fullT_get]
    simp only [Nat.zero_le, Nat.zero_add, true_and, Nat.sub_zero]
    by_cases h3 : t < args.length
    · rw [if_pos h3, List.getElem?_append_left h3, List.getD_eq_getElem?_getD, List.getElem?_eq_getElem h3]; rfl
    · rw [if_neg h3, List.getElem?_append_right (by omega), List.getElem?_replicate, if_pos (by omega)]
  · rename_i ht
    rw [List.getElem?_eq_none (by simp; omega)]

noncomputable def ofL (l : List (AV U)) : Fm U := mkF l 0
theorem ofL_eq (l : List (AV U)) : (ofL l).abs = l ∧ (ofL l).WF := by
  obtain ⟨h1, h2⟩ := mkF_eq l 0
  refine ⟨?_, h2⟩
  unfold ofL
  rw [h1]; simp

noncomputable def evT (fr : Fm U) : Operand → AV U
  | .tmp t => getF fr t .junk
  | .const v => ofVal v
  | .func f => .fn (.func f) [] []
  | .global _ => .junk
theorem evT_eq (fr : Fm U) : evT fr = ev fr.abs := by
  funext x
  cases x with
  | tmp t => exact getF_eq fr t .junk
  | _ => rfl

/-! ## Operations over what their operands are -/
section
variable (call : FuncId → List (AV U) → Heap U → (AV U → Heap U → Option R) → Option R)
variable (e : Operand → AV U)

def evsE : List Operand → List (AV U)
  | [] => []
  | o :: l => e o :: evsE l
def evPartsE : List (Nat × Operand) → List (Nat × AV U)
  | [] => []
  | (i, o) :: l => (i, e o) :: evPartsE l
theorem evsE_eq (fr : List (AV U)) : ∀ l, evsE (ev fr) l = evs fr l
  | [] => rfl
  | o :: l => by unfold evsE evs; rw [evsE_eq fr l]
theorem evPartsE_eq (fr : List (AV U)) : ∀ l, evPartsE (ev fr) l = evParts fr l
  | [] => rfl
  | (i, o) :: l => by unfold evPartsE evParts; rw [evPartsE_eq fr l]

def ePick (c a b : AV U) (H : Heap U) (k : AV U → Heap U → Option R) : Option R := match c with
  | .bool t => match t with
    | true => k a H
    | false => k b H
  | _ => none
def eMapO (t : TypeId) (o : Option Operand) (H : Heap U) (k : AV U → Heap U → Option R) : Option R := match o with
  | none => aMap G t H k
  | some _ => none
def eSliceO (t : TypeId) (x : AV U) (lo hi : Option (AV U)) (mx : Option Operand) (H : Heap U) (k : AV U → Heap U → Option R) : Option R := match mx with
  | none => aSlice G t x lo hi H k
  | some _ => none
def eCall (c : Call) (H : Heap U) (k : AV U → Heap U → Option R) : Option R := match c.callee with
  | .builtin b => builtinK G b c.argTypes.toList (evsE e c.args.toList) H k
  | .value f => aCallV G call (e f) (evsE e c.args.toList) H k
  | _ => none
def opE (op : Op) (H : Heap U) (k : AV U → Heap U → Option R) : Option R := match op with
  | .move x => k (e x) H
  | .assign x => k (e x) H
  | .pick c a b => ePick (e c) (e a) (e b) H k
  | .alloc t => aAlloc G t H k
  | .box t x => aBox G t (e x) H k
  | .build t parts => buildK G t (evPartsE e parts.toList) fun v => k v H
  | .buildSlice t len parts => buildSliceK G t len (evPartsE e parts.toList) H k
  | .load t a => aLoad G t (e a) H k
  | .store t a x => aStore G t (e a) (e x) H k
  | .nilCheck x => aNil (e x) H k
  | .binOp op t x y _ => aBin G op t (e x) (e y) H k
  | .unOp op _ x => aUn op (e x) H k
  | .convert src dst x => convertK G src dst (e x) H k
  | .makeFunc f first captured => k (.fn f (evsE e first.toList) (evsE e captured.toList)) H
  | .makeMap t o => eMapO G t o H k
  | .makeSlice t l c => makeSliceK G t (e l) (e c) H k
  | .lookup t m x ok => aLook G t (e m) (e x) ok H k
  | .mapUpdate t m x v => aUpd G t (e m) (e x) (e v) H k
  | .slice t x lo hi mx => eSliceO G t (e x) (lo.map e) (hi.map e) mx H k
  | .fieldAddr s x f => aFA G s (e x) f H k
  | .field t x f => aField G t (e x) f H k
  | .indexAddr t x i => aIA G t (e x) (e i) H k
  | .index t x i => aIx G t (e x) (e i) H k
  | .extract t i => aEx (e t) i H k
  | .call c => eCall G call e c H k
  | _ => none

theorem opE_eq (op : Op) (fr : List (AV U)) (H : Heap U) (k : AV U → Heap U → Option R) : opE G call (ev fr) op H k = opF G call op fr H k := by
  cases op with
  | build t parts => show buildK G t (evPartsE (ev fr) parts.toList) (fun v => k v H) = _; rw [evPartsE_eq]; rfl
  | buildSlice t n parts => show buildSliceK G t n (evPartsE (ev fr) parts.toList) H k = _; rw [evPartsE_eq]; rfl
  | makeFunc f a b => show k (.fn f (evsE (ev fr) a.toList) (evsE (ev fr) b.toList)) H = _; rw [evsE_eq, evsE_eq]; rfl
  | makeMap t o => cases o <;> rfl
  | slice t x lo hi mx => cases mx <;> rfl
  | call c =>
    show eCall G call (ev fr) c H k = aCall G call c fr H k
    unfold eCall aCall
    rw [evsE_eq]
    cases c.callee <;> rfl
  | _ => rfl

def nCall (c : Call) : List Nat := match c.callee with
  | .value f => nfCallV G (e f) (evsE e c.args.toList)
  | _ => []
def nBuild (t : TypeId) (parts : List (Nat × AV U)) : List Nat := match G.ti t with
  | some { tk := .slice e, .. } => match G.ti e with
    | some { ty := some _, .. } => refsL (parts.map (·.2))
    | _ => []
  | _ => []
def nE (op : Op) (H : Heap U) : List Nat := match op with
  | .store _ a x => nfStore (e a) (e x) H
  | .buildSlice t _ parts => nBuild G t (evPartsE e parts.toList)
  | .mapUpdate _ _ x v => refs (e x) ++ refs (e v)
  | .call c => nCall G e c
  | _ => []
theorem nE_eq (op : Op) (fr : List (AV U)) (H : Heap U) : nE G (ev fr) op H = nfF G op fr H := by
  cases op with
  | buildSlice t n parts => show nBuild G t (evPartsE (ev fr) parts.toList) = nfBuild G t parts.toList fr; rw [evPartsE_eq]; rfl
  | call c => show nCall G (ev fr) c = nfCall G c fr; unfold nCall nfCall; rw [evsE_eq]; cases c.callee <;> rfl
  | _ => rfl

def fCall (c : Call) : Option (List Nat) := match c.callee with
  | .builtin _ => some (refsL (evsE e c.args.toList))
  | .value f => footCallV G (e f) (evsE e c.args.toList)
  | _ => none
def fE (op : Op) : Option (List Nat) := match op with
  | .move _ | .assign _ | .pick .. | .alloc _ | .box .. | .build .. | .buildSlice .. | .nilCheck _ | .unOp .. | .makeFunc ..
  | .makeMap .. | .makeSlice .. | .fieldAddr .. | .field .. | .index .. | .extract .. => some []
  | .binOp _ _ x y _ => some (rowRefs (e x) ++ rowRefs (e y))
  | .slice _ x .. | .indexAddr _ x _ => some (refs (e x))
  | .convert _ _ x => some (refs (e x))
  | .load _ a => some (refs (e a))
  | .store _ a _ => some (refs (e a))
  | .lookup _ m _ _ => some (refs (e m))
  | .mapUpdate _ m _ _ => some (refs (e m))
  | .call c => fCall G e c
  | _ => none
theorem fE_eq (op : Op) (fr : List (AV U)) : fE G (ev fr) op = footF G op fr := by
  cases op with
  | call c => show fCall G (ev fr) c = footCall G c fr; unfold fCall footCall; rw [evsE_eq]; cases c.callee <;> rfl
  | _ => rfl

theorem evsE_congr {e e' : Operand → AV U} : ∀ {l : List Operand}, (∀ x ∈ l, e x = e' x) → evsE e l = evsE e' l
  | [], _ => rfl
  | o :: l, h => by unfold evsE; rw [h o (List.mem_cons_self ..), evsE_congr fun x hx => h x (List.mem_cons_of_mem _ hx)]
theorem evPartsE_congr {e e' : Operand → AV U} : ∀ {l : List (Nat × Operand)}, (∀ x ∈ l.map (·.2), e x = e' x) → evPartsE e l = evPartsE e' l
  | [], _ => rfl
  | (i, o) :: l, h => by unfold evPartsE; rw [h o (by simp), evPartsE_congr fun x hx => h x (by simp only [List.map_cons]; exact List.mem_cons_of_mem _ hx)]

theorem opE_congr {e e' : Operand → AV U} {op : Op} (h : ∀ x ∈ op.operands.toList, e x = e' x) (H : Heap U) (k : AV U → Heap U → Option R) : opE G call e op H k = opE G call e' op H k := by
  cases op with
  | build t parts => simp only [opE]; rw [evPartsE_congr fun x hx => h x (by simpa [Op.operands] using hx)]
  | buildSlice t n parts => simp only [opE]; rw [evPartsE_congr fun x hx => h x (by simpa [Op.operands] using hx)]
  | makeFunc f a b => simp only [opE]; rw [evsE_congr fun x hx => h x (by simp [Op.operands]; exact .inl (by simpa using hx)), evsE_congr (l := b.toList) fun x hx => h x (by simp [Op.operands]; exact .inr (by simpa using hx))]
  | call c =>
    obtain ⟨callee, args, ts⟩ := c
    simp only [opE, eCall]
    have ha : ∀ x ∈ args.toList, e x = e' x := fun x hx => h x (by
      simp only [Op.operands, Call.operands]
      cases callee <;> simp <;> first | exact .inr (by simpa using hx) | simpa using hx)
    cases callee with
    | builtin b => dsimp only; rw [evsE_congr ha]
    | value f => dsimp only; rw [evsE_congr ha, h f (by simp [Op.operands, Call.operands])]
    | _ => rfl
  | slice t x lo hi mx =>
    simp only [opE]
    rw [h x (by simp [Op.operands])]
    have hlo : lo.map e = lo.map e' := by
      cases lo with
      | none => rfl
      | some y => simp only [Option.map_some]; rw [h y (by simp [Op.operands])]
    have hhi : hi.map e = hi.map e' := by
      cases hi with
      | none => rfl
      | some y => simp only [Option.map_some]; rw [h y (by simp [Op.operands])]
    rw [hlo, hhi]
  | _ => simp only [opE] <;> simp only [Op.operands, List.mem_cons, List.mem_singleton, List.not_mem_nil, or_false, forall_eq_or_imp, forall_eq, Array.toList] at h <;> simp only [h]

theorem fE_congr {e e' : Operand → AV U} {op : Op} (h : ∀ x ∈ op.operands.toList, e x = e' x) : fE G e op = fE G e' op := by
  cases op with
  | call c =>
    obtain ⟨callee, args, ts⟩ := c
    simp only [fE, fCall]
    have ha : ∀ x ∈ args.toList, e x = e' x := fun x hx => h x (by
      simp only [Op.operands, Call.operands]
      cases callee <;> simp <;> first | exact .inr (by simpa using hx) | simpa using hx)
    cases callee with
    | builtin b => dsimp only; rw [evsE_congr ha]
    | value f => dsimp only; rw [evsE_congr ha, h f (by simp [Op.operands, Call.operands])]
    | _ => rfl
  | slice t x lo hi mx => simp only [fE]; rw [h x (by simp [Op.operands])]
  | _ => simp only [fE] <;> simp only [Op.operands, List.mem_cons, List.mem_singleton, List.not_mem_nil, or_false, forall_eq_or_imp, forall_eq, Array.toList] at h <;> simp only [h]
end

theorem mask_same {l : List Nat} {fr : List (AV U)} {x : Operand} (h : ∀ t, x = .tmp t → mem t l = true) : ev (maskFr l fr 0) x = ev fr x := by
  cases x with
  | tmp t =>
    simp only [ev, List.getD_eq_getElem?_getD, maskFr_get, Nat.zero_add, h t rfl, if_true]
    cases fr[t]? <;> rfl
  | _ => rfl

theorem mask_operands {ops : List Oper} {o : Oper} {fr : List (AV U)} : ∀ x ∈ o.op.operands.toList, ev fr x = ev (maskFr (looks ops o) fr 0) x := by
  intro x hx
  refine (mask_same fun t ht => ?_).symm
  subst ht
  have : ∀ l : List Operand, Operand.tmp t ∈ l → t ∈ tmpsOf l := by
    intro l
    induction l with
    | nil => intro h; cases h
    | cons y l ih =>
      intro h
      rcases List.mem_cons.1 h with rfl | h'
      · unfold tmpsOf; exact List.mem_cons_self ..
      · clear h; cases y with
        | tmp s => unfold tmpsOf; exact List.mem_cons_of_mem _ (ih h')
        | _ => unfold tmpsOf; exact ih h'
  exact memL_iff.2 (List.mem_append_left _ (this _ hx))

end Am
