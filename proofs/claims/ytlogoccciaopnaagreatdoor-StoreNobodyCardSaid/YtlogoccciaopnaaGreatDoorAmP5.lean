/- All operations. -/
import Derived.Test.YtlogoccciaopnaaGreatDoorAmP4
namespace Am
open Go
variable {U : TyU} {R : Type} {P : Program} {G : Env U}

/-- a function that is not run does what its spec says -/
def SpecOK (P : Program) (f : FuncId) (s : List (AV U) → Heap U → Option (AV U × Heap U)) : Prop :=
  ∀ (args : List (AV U)) (H : Heap U) (v : AV U) (H' : Heap U), s args H = some (v, H') → H.length ≤ H'.length ∧ Enters P f ∧
    ∀ (e : En) (vs : Array Value), WF e → HeapRel e H.get → RelL e args vs.toList → (∀ k, H.length ≤ k → e.m k = none) → ∀ Post : Ending → World → Prop,
      (∀ (c : Value) (e' : En), WF e' → Evo allD e e' → Rel e' v c → HeapRel e' H'.get → (∀ k, H'.length ≤ k → e'.m k = none) → Post (.returned c) e'.w) → Calls P f vs e.w Post

structure EnvOK (P : Program) (G : Env U) : Prop where
  ti : TIs P G
  flat : FlatOK P G
  con : ∀ f C, G.con f = some C → ConOK P f C
  proc : ∀ f p, G.proc f = some p → ProcOK P f p
  fn : ∀ f fn, G.fn f = some fn → P.funcs[f]? = some fn ∧ (fn.name == "runtime.NumGoroutine") = false
  spec : ∀ f s, G.spec f = some s → SpecOK P f s

def CallS (P : Program) (call : FuncId → List (AV U) → Heap U → (AV U → Heap U → Option R) → Option R) : Prop :=
  ∀ (f : FuncId) (args : List (AV U)) (H : Heap U) (k : AV U → Heap U → Option R) (r : R), call f args H k = some r → ∃ (v : AV U) (H' : Heap U), k v H' = some r ∧ H.length ≤ H'.length ∧ Enters P f ∧
    ∀ (e : En) (vs : Array Value), WF e → HeapRel e H.get → RelL e args vs.toList → (∀ k, H.length ≤ k → e.m k = none) → ∀ Post : Ending → World → Prop,
      (∀ (c : Value) (e' : En), WF e' → Evo allD e e' → Rel e' v c → HeapRel e' H'.get → (∀ k, H'.length ≤ k → e'.m k = none) → Post (.returned c) e'.w) → Calls P f vs e.w Post

def OpF (P : Program) (o : Oper) (fr : List (AV U)) (H : Heap U) (v : AV U) (H' : Heap U) : Prop :=
  ∀ (e : En) (a : Act) (K : Act → World → Prop) (Q : Exit → Act → World → Prop),
    WF e → (∀ x, Rel e (ev fr x) (a.eval x)) → HeapRel e H.get → (∀ k, H.length ≤ k → e.m k = none) →
    (∀ (c : Value) (e' : En), WF e' → Evo allD e e' → Rel e' v c → HeapRel e' H'.get → (∀ k, H'.length ≤ k → e'.m k = none) → K (a.put o.dst c) e'.w) →
    o.wp P a e.w K Q

theorem OpS.toF {o : Oper} {fr : List (AV U)} {H H' : Heap U} {v : AV U} (h : OpS P o fr H v H') (hl : H.length ≤ H'.length) : OpF P o fr H v H' := by
  intro e a K Q hw hr hh hf hk
  refine h e a K Q hw hr hh (fun k h1 _ => hf k h1) (fun c e' hw' hE hv hh' hn => hk c e' hw' hE.all hv hh' (fun k hkk => ?_))
  cases hm : e'.m k with
  | none => rfl
  | some l =>
    have := hn k (hf k (by omega)) (by rw [hm]; simp)
    omega

theorem evs_rel {e : En} {fr : List (AV U)} {ρ : Operand → Value} (h : ∀ x, Rel e (ev fr x) (ρ x)) : ∀ l : List Operand, RelL e (evs fr l) (l.map ρ)
  | [] => RelL.nil
  | x :: l => RelL.cons (h x) (evs_rel h l)

theorem evs_array {e : En} {fr : List (AV U)} {ρ : Operand → Value} (h : ∀ x, Rel e (ev fr x) (ρ x)) (xs : Array Operand) : RelL e (evs fr xs.toList) (xs.map ρ).toList := by
  rw [Array.toList_map]; exact evs_rel h _

theorem PartsRel.cons {e : En} {i : Nat} {x : AV U} {v : Value} {l : List (Nat × AV U)} {l' : List (Nat × Value)} (h : Rel e x v) (hl : PartsRel e l l') : PartsRel e ((i, x) :: l) ((i, v) :: l') := by
  refine ⟨by simp [hl.1], fun j p q hp hq => ?_⟩
  cases j with
  | zero => simp at hp hq; subst hp; subst hq; exact ⟨rfl, h⟩
  | succ j => exact hl.2 j p q (by simpa using hp) (by simpa using hq)

theorem evParts_rel {e : En} {fr : List (AV U)} {ρ : Operand → Value} (h : ∀ x, Rel e (ev fr x) (ρ x)) : ∀ l : List (Nat × Operand), PartsRel e (evParts fr l) (l.map fun p => (p.1, ρ p.2))
  | [] => ⟨rfl, by simp⟩
  | (i, x) :: l => PartsRel.cons (h x) (evParts_rel h l)

theorem evParts_array {e : En} {fr : List (AV U)} {ρ : Operand → Value} (h : ∀ x, Rel e (ev fr x) (ρ x)) (xs : Array (Nat × Operand)) : PartsRel e (evParts fr xs.toList) (xs.map fun p => (p.1, ρ p.2)).toList := by
  rw [Array.toList_map]; exact evParts_rel h _

theorem opt_rel {e : En} {fr : List (AV U)} {ρ : Operand → Value} (h : ∀ x, Rel e (ev fr x) (ρ x)) (o : Option Operand) : OptRel e (o.map (ev fr)) (o.map ρ) := by
  cases o with
  | none => trivial
  | some x => exact h x

theorem RelL.mk_fn {e : En} {f : Fn} {a b : List (AV U)} {va vb : Array Value} (ha : RelL e a va.toList) (hb : RelL e b vb.toList) : Rel e (.fn f a b) (.func f va vb) :=
  .fn (by simpa using ha.1) (by simpa using hb.1) (fun j x v hx hv => ha.2 j x v hx (by simpa using hv)) (fun j x v hx hv => hb.2 j x v hx (by simpa using hv))

theorem Rel.fn_inv {e : En} {f : Fn} {a b : List (AV U)} {c : Value} (h : Rel e (.fn f a b) c) : ∃ va vb, c = .func f va vb ∧ RelL e a va.toList ∧ RelL e b vb.toList := by
  cases h with
  | fn h1 h2 h3 h4 => exact ⟨_, _, rfl, ⟨by simpa using h1, fun j x v hx hv => h3 j x v hx (by simpa using hv)⟩, ⟨by simpa using h2, fun j x v hx hv => h4 j x v hx (by simpa using hv)⟩⟩

theorem run_callFunc {f : FuncId} (h : Enters P f) (vs : Array Value) (w : World) : (callFunc f vs).run P w = .ok (.enter f vs) w := by
  obtain ⟨fn, h1, h2, h3⟩ := h
  simp only [beq_eq_false_iff_ne, ne_eq] at h3
  simp [callFunc, h1, h3]
  intro hn
  rw [hn] at h2
  cases h2

theorem run_call_value {o : Oper} {c : Call} {x : Operand} {f : FuncId} (ho : o.op = .call c) (hc : c.callee = .value x) (h : Enters P f) {ρ : Operand → Value} {va vb : Array Value} (hx : ρ x = .func (.func f) va vb) (w : World) :
    (execOp ρ o).run P w = .ok (.enter f (va ++ c.args.map ρ ++ vb)) w := by
  simp [execOp, ho, resolve, hc, hx, Deferred.ofValue, invoke, run_callFunc h]

section
variable {call : FuncId → List (AV U) → Heap U → (AV U → Heap U → Option R) → Option R}

/-- an operation that only looks -/
theorem pure_op {o : Oper} {fr : List (AV U)} {H : Heap U} {k : AV U → Heap U → Option R} {r : R} {v : AV U} (hk : k v H = some r)
    (h : ∀ (e : En) (a : Act), WF e → (∀ x, Rel e (ev fr x) (a.eval x)) → HeapRel e H.get → ∃ c, (execOp a.eval o).run P e.w = .ok (.value c) e.w ∧ Rel e v c) :
    ∃ v H', k v H' = some r ∧ H.length ≤ H'.length ∧ ((OpS P o fr H v H' ∧ (writes o.op = true ∨ H' = H ∨ ∃ b, H' = H ++ [some b])) ∨ (foot G o.op fr = none ∧ OpF P o fr H v H')) :=
  ⟨v, H, hk, Nat.le_refl _, .inl ⟨OpS.pure h, .inr (.inl rfl)⟩⟩

theorem alloc_op {o : Oper} {fr : List (AV U)} {H : Heap U} {k : AV U → Heap U → Option R} {r : R} {v : AV U} {b : Blk U} (hk : k v (H ++ [some b]) = some r)
    (h : ∀ (e : En) (a : Act), WF e → (∀ x, Rel e (ev fr x) (a.eval x)) → HeapRel e H.get → ∃ (c : Value) (w' : World) (ob : Obj) (len : Nat),
      (execOp a.eval o).run P e.w = .ok (.value c) w' ∧ PushW e.w w' ob ∧ (e.m H.length = none → Rel (e.push w' H.length len) v c ∧ BlkOK (e.push w' H.length len) H.length b)) :
    ∃ v H', k v H' = some r ∧ H.length ≤ H'.length ∧ ((OpS P o fr H v H' ∧ (writes o.op = true ∨ H' = H ∨ ∃ b, H' = H ++ [some b])) ∨ (foot G o.op fr = none ∧ OpF P o fr H v H')) :=
  ⟨v, _, hk, by simp, .inl ⟨OpS.alloc h, .inr (.inr ⟨_, rfl⟩)⟩⟩

theorem push_box {e : En} {w' : World} {k : Nat} {cs : List (AV U)} {vs : List Value} {el : TypeId} (hw : WF e) (hh' : PushW e.w w' (.cells vs.toArray el)) (hr : RelL e cs vs) (hm : e.m k = none) (sz : Nat) :
    Rel (U := U) (e.push w' k 0) (.ptr k sz 0 0) (.pointer (some ⟨e.w.heap.size, 0, none⟩)) ∧ BlkOK (e.push w' k 0) k (.box cs) := by
  have hh := hh'.1
  have h1 : (e.push w' k 0).m k = some (.at e.w.heap.size 0) := by simp [En.push]
  constructor
  · have := Rel.ptr (U := U) (sz := sz) (i := 0) (o := 0) h1
    simpa using this
  · refine ⟨e.w.heap.size, 0, vs.toArray, el, (0, 0), h1, by show w'.heap[e.w.heap.size]? = _; rw [hh]; simp, by have := hr.1; simp; omega, unfrozen_zero _ _, ?_⟩
    have hE := En.push_evo (k := k) (len := 0) (w' := w') (fun _ => True) hh' hm
    exact CellsAt.of_list (hr.mono hE hw) vs.toArray 0 (fun j v hj => by simpa using hj)

theorem rowFilled {H : Heap U} {k sz : Nat} (h : (match rowLen H k with | some (_ + 1) => true | _ => false) = true) {e : En} (hh : HeapRel e H.get) {c : Value} (hr : Rel (U := U) e (.mrow k sz) c) : ∃ a n cap, c = .slice (some a) n cap := by
  split at h
  · rename_i n hn
    rcases mrow_live hn hh hr with ⟨a, l, h0, _⟩ | ⟨b, ob, cap, _, hc, _⟩
    · omega
    · exact ⟨_, _, _, hc⟩
  · cases h

theorem filled_sl {H : Heap U} {v : AV U} (h : filled H v = true) {e : En} (hh : HeapRel e H.get) {c : Value} (hr : Rel e v c) : ∃ a n cap, c = .slice (some a) n cap := by
  unfold filled at h
  split at h
  · exact rowFilled h hh hr
  · cases hr with
    | brow hr _ => exact rowFilled h hh hr
  · cases hr <;> exact ⟨_, _, _, rfl⟩
  · cases h

theorem nilTest_sem {H : Heap U} {x y : AV U} (h : nilTest H x y = true) {e : En} (hh : HeapRel e H.get) {cx cy : Value} (hx : Rel e x cx) (hy : Rel e y cy) {t el : TypeId} (ht : P.underlying t = some (.slice el)) (w : World) (ox oy : Operand) :
    (binSem .eql t ox oy cx cy).run P w = .ok (.bool false) w ∧ (binSem .neq t ox oy cx cy).run P w = .ok (.bool true) w := by
  unfold nilTest at h
  split at h
  · cases hy
    obtain ⟨a, n, cap, rfl⟩ := filled_sl h hh hx
    exact ⟨(nilS_sem (run_nilS_right 9999 (some a) n cap ht w) ox oy).1 rfl, (nilS_sem (run_nilS_right 9999 (some a) n cap ht w) ox oy).2 rfl⟩
  · split at h
    · cases hx
      obtain ⟨a, n, cap, rfl⟩ := filled_sl h hh hy
      exact ⟨(nilS_sem (run_nilS_left 9999 (some a) n cap ht w) ox oy).1 rfl, (nilS_sem (run_nilS_left 9999 (some a) n cap ht w) ox oy).2 rfl⟩
    · cases h

theorem opK_sound (hG : EnvOK P G) (hcall : CallS P call) {o : Oper} {fr : List (AV U)} {H : Heap U} {k : AV U → Heap U → Option R} {r : R} (h : opK G call o.op fr H k = some r) :
    ∃ v H', k v H' = some r ∧ H.length ≤ H'.length ∧ ((OpS P o fr H v H' ∧ (writes o.op = true ∨ H' = H ∨ ∃ b, H' = H ++ [some b])) ∨ (foot G o.op fr = none ∧ OpF P o fr H v H')) := by
  have hti := hG.ti
  unfold opK at h
  split at h
  · -- move
    rename_i x hop
    exact pure_op h fun e a hw hr hh => ⟨_, by simp [execOp, hop], hr x⟩
  · rename_i x hop
    exact pure_op h fun e a hw hr hh => ⟨_, by simp [execOp, hop], hr x⟩
  · -- pick
    rename_i c x y hop
    split at h
    case h_2 => cases h
    rename_i t hc
    have hb : ∀ (e : En) (a : Act), (∀ x, Rel e (ev fr x) (a.eval x)) → a.eval c = .bool t := fun e a hr => by have := hr c; rw [hc] at this; exact this.bool_inv
    split at h
    · exact pure_op h fun e a hw hr hh => ⟨_, by simp [execOp, hop, hb e a hr, asBool], hr x⟩
    · exact pure_op h fun e a hw hr hh => ⟨_, by simp [execOp, hop, hb e a hr, asBool], hr y⟩
  · -- alloc
    rename_i t hop
    split at h
    case h_2 => cases h
    rename_i i hi
    have hI := hti t i hi
    refine alloc_op h fun e a hw hr hh => ?_
    obtain ⟨z, hz1, hz2⟩ := hI.zero_rel e e.w
    refine ⟨.pointer (some ⟨e.w.heap.size, 0, none⟩), e.w.alloc (.cells z.cells t), .cells z.cells t, 0, ?_, ⟨rfl, rfl, rfl⟩, fun hm => ?_⟩
    · simp [execOp, hop, Instr.alloc, hz1, newVar, newRow]
    · have hpb := push_box (k := H.length) (el := t) (vs := z.cells.toList) (w' := e.w.alloc (.cells z.cells t)) hw ⟨by show e.w.heap.push _ = _; simp, rfl, rfl⟩ hz2 hm
      refine ⟨?_, (hpb i.size).2⟩
      unfold allocV
      split
      · rename_i x y hzz
        refine .tptr (hpb 2).1 fun b o hb => ?_
        have hsz : z.cells.size = 2 := by have := hz2.1; rw [hzz] at this; simpa using this.symm
        have hm' : (e.push (e.w.alloc (.cells z.cells t)) H.length 0).m H.length = some (.at e.w.heap.size 0) := by simp [En.push]
        rw [hm'] at hb; cases hb
        exact ⟨rfl, z.cells, (0, 0), by show (e.w.heap.push _)[e.w.heap.size]? = _; simp, hsz⟩
      · exact (hpb i.size).1
  · -- box
    rename_i t x hop
    split at h
    case h_2 => cases h
    rename_i i hi
    split at h
    case h_2 => cases h
    split at h
    case h_2 => cases h
    rename_i hok
    refine alloc_op h fun e a hw hr hh => ?_
    refine ⟨.pointer (some ⟨e.w.heap.size, 0, none⟩), e.w.alloc (.cells (a.eval x).cells t), .cells (a.eval x).cells t, 0, ?_, ⟨rfl, rfl, rfl⟩, fun hm => ?_⟩
    · simp [execOp, hop, Instr.box, newVar, newRow]
    · exact push_box (k := H.length) (el := t) (vs := (a.eval x).cells.toList) (w' := e.w.alloc (.cells (a.eval x).cells t)) hw ⟨by show e.w.heap.push _ = _; simp, rfl, rfl⟩ ((hr x).cells hok).1 hm i.size
  · -- build
    rename_i t parts hop
    obtain ⟨v, hk, hs⟩ := buildK_sound hti h
    refine pure_op hk fun e a hw hr hh => ?_
    obtain ⟨u, h1, h2⟩ := hs e _ e.w (evParts_array hr parts)
    exact ⟨u, by simp [execOp, hop, h1], h2⟩
  · -- buildSlice
    rename_i t len parts hop
    obtain ⟨v, b, hk, hs⟩ := buildSliceK_sound hti h
    refine alloc_op hk fun e a hw hr hh => ?_
    obtain ⟨c, w', ob, h1, h2, h3⟩ := hs e _ hw (evParts_array hr parts)
    exact ⟨c, w', ob, len, by simp [execOp, hop, h1], h2, h3⟩
  · -- load
    rename_i t x hop
    obtain ⟨v, hk, hs⟩ := loadK_sound hti h
    refine pure_op hk fun e a hw hr hh => ?_
    obtain ⟨u, h1, h2⟩ := hs e _ (hr x) hh
    exact ⟨u, by simp [execOp, hop, h1], h2⟩
  · -- store
    rename_i t x y hop
    obtain ⟨H', hk, hl, hs⟩ := storeK_sound hti h
    refine ⟨_, H', hk, by omega, .inl ⟨fun e a K Q hw hr hh hf hK => ?_, .inl (by rw [hop]; rfl)⟩⟩
    obtain ⟨w', h1, h2, h3, h4⟩ := hs e _ _ hw (hr x) (hr y) hh
    have hrun : (execOp a.eval o).run P e.w = .ok .skip w' := by simp [execOp, hop, h1]
    unfold Oper.wp
    rw [hrun]
    exact hK undef { e with w := w' } h2 h3 .junk h4 (fun k h0 h1 => absurd h0 h1)
  · -- nilCheck
    rename_i x hop
    split at h
    · rename_i hx
      refine pure_op h fun e a hw hr hh => ?_
      have hx' := hr x
      rw [hx] at hx'
      refine ⟨a.eval x, ?_, hx'⟩
      rcases hx'.ptr_inv with ⟨_, ad, hc⟩ | ⟨b, ob, _, hc⟩ <;> simp [execOp, hop, hc]
    · rename_i hx
      refine pure_op h fun e a hw hr hh => ?_
      have hx' := hr x
      rw [hx] at hx'
      refine ⟨a.eval x, ?_, hx'⟩
      obtain ⟨b, ob, hc, _⟩ := hx'.fptr_inv
      simp [execOp, hop, hc]
    · rename_i hx
      refine pure_op h fun e a hw hr hh => ?_
      have hx' := hr x
      rw [hx] at hx'
      refine ⟨a.eval x, ?_, hx'⟩
      obtain ⟨va, vb, hc, _⟩ := hx'.fn_inv
      simp [execOp, hop, hc]
    · rename_i hx
      refine pure_op h fun e a hw hr hh => ?_
      have hx' := hr x
      rw [hx] at hx'
      refine ⟨a.eval x, ?_, hx'⟩
      cases hx' with
      | tptr h1 _ => rcases h1.ptr_inv with ⟨_, ad, hc⟩ | ⟨b, ob, _, hc⟩ <;> simp [execOp, hop, *]
    · obtain ⟨cs, ob, hx, h2⟩ := bptrK_inv h
      refine pure_op h2 fun e a hw hr hh => ?_
      have hx' := hr x
      rw [hx] at hx'
      refine ⟨a.eval x, ?_, hx'⟩
      obtain ⟨b, ob', hc, _⟩ := hx'.bptr_inv
      simp [execOp, hop, hc]
  · -- binOp
    rename_i op t x y tt hop
    have hrun : ∀ (a : Act), execOp a.eval o = (do pure (.value (← (do eqGuard op t x y (a.eval x) (a.eval y); Go.binOp op t (a.eval x) (a.eval y))))) := by
      intro a; unfold execOp; rw [hop]
    split at h
    · rename_i hnt
      split at h
      · rename_i hi
        have hu := (hti t _ hi).und_slice rfl
        refine pure_op h fun e a hw hr hh => ⟨.bool false, ?_, .bool⟩
        have h1 := (nilTest_sem hnt hh (hr x) (hr y) hu e.w x y).1
        simp only [binSem] at h1
        rw [hrun, Sem.run_bind, h1]
        rfl
      · rename_i hi
        have hu := (hti t _ hi).und_slice rfl
        refine pure_op h fun e a hw hr hh => ⟨.bool true, ?_, .bool⟩
        have h1 := (nilTest_sem hnt hh (hr x) (hr y) hu e.w x y).2
        simp only [binSem] at h1
        rw [hrun, Sem.run_bind, h1]
        rfl
      · cases h
    obtain ⟨v, hk, hs⟩ := binOpK_sound hti hG.flat h
    refine pure_op hk fun e a hw hr hh => ?_
    obtain ⟨u, h1, h2⟩ := hs e x y _ _ e.w (hr x) (hr y)
    refine ⟨u, ?_, h2⟩
    simp only [binSem] at h1
    have : execOp a.eval o = (do pure (.value (← (do eqGuard op t x y (a.eval x) (a.eval y); Go.binOp op t (a.eval x) (a.eval y))))) := by
      unfold execOp; rw [hop]
    rw [this, Sem.run_bind, h1]
    rfl
  · -- unOp
    rename_i op t x hop
    obtain ⟨v, hk, hs⟩ := unOpK_sound (P := P) h
    refine pure_op hk fun e a hw hr hh => ?_
    obtain ⟨u, h1, h2⟩ := hs e _ e.w (hr x)
    exact ⟨u, by simp [execOp, hop, h1], h2⟩
  · -- convert
    rename_i src dst x hop
    rcases convertK_sound hti h with ⟨v, hk, hs⟩ | ⟨v, b, hk, hs⟩
    · refine pure_op hk fun e a hw hr hh => ?_
      obtain ⟨u, h1, h2⟩ := hs e _ (hr x) hh
      exact ⟨u, by simp [execOp, hop, h1], h2⟩
    · refine alloc_op hk fun e a hw hr hh => ?_
      obtain ⟨c, w', ob, len, h1, h2, h3⟩ := hs e _ hw (hr x)
      exact ⟨c, w', ob, len, by simp [execOp, hop, h1], h2, h3⟩
  · -- makeFunc
    rename_i f first captured hop
    refine pure_op h fun e a hw hr hh => ?_
    exact ⟨_, by simp [execOp, hop, Instr.makeFunc], RelL.mk_fn (evs_array hr first) (evs_array hr captured)⟩
  · -- makeMap
    rename_i t hop
    split at h
    case h_2 => cases h
    split at h
    case h_2 => cases h
    split at h
    case h_2 => cases h
    refine alloc_op h fun e a hw hr hh => ?_
    refine ⟨.map (some e.w.heap.size), e.w.alloc (.map #[] 0), .map #[] 0, 0, ?_, ⟨rfl, rfl, rfl⟩, fun hm => ?_⟩
    · simp [execOp, hop, Instr.makeMap]
    · have h1 : (e.push (e.w.alloc (.map #[] 0)) H.length 0).m H.length = some (.at e.w.heap.size 0) := by simp [En.push]
      exact ⟨.map h1, e.w.heap.size, 0, #[], 0, h1, by show (e.w.heap.push _)[e.w.heap.size]? = _; simp, rfl, by simp⟩
  · -- makeSlice
    rename_i t l c hop
    obtain ⟨v, b, hk, hs⟩ := makeSliceK_sound hti h
    refine alloc_op hk fun e a hw hr hh => ?_
    obtain ⟨c, w', ob, len, h1, h2, h3⟩ := hs e _ _ hw (hr l) (hr c)
    exact ⟨c, w', ob, len, by simp [execOp, hop, h1], h2, h3⟩
  · -- lookup
    rename_i t m x ok hop
    obtain ⟨v, hk, hs⟩ := lookupK_sound hti h
    refine pure_op hk fun e a hw hr hh => ?_
    obtain ⟨u, h1, h2⟩ := hs e _ _ hh (hr m) (hr x)
    exact ⟨u, by simp [execOp, hop, h1], h2⟩
  · -- mapUpdate
    rename_i t m x y hop
    obtain ⟨H', hk, hl, hs⟩ := mapUpdateK_sound hti h
    refine ⟨_, H', hk, by omega, .inl ⟨fun e a K Q hw hr hh hf hK => ?_, .inl (by rw [hop]; rfl)⟩⟩
    obtain ⟨w', h1, h2, h3, h4⟩ := hs e _ _ _ hw hh (hr m) (hr x) (hr y)
    have hrun : (execOp a.eval o).run P e.w = .ok .skip w' := by simp [execOp, hop, h1]
    unfold Oper.wp
    rw [hrun]
    exact hK undef { e with w := w' } h2 h3 .junk h4 (fun k h0 h1 => absurd h0 h1)
  · -- slice
    rename_i t x lo hi hop
    obtain ⟨v, hk, hs⟩ := sliceK_sound hti h
    refine pure_op hk fun e a hw hr hh => ?_
    obtain ⟨u, h1, h2⟩ := hs e _ _ _ e.w (hr x) (opt_rel hr lo) (opt_rel hr hi) hh
    exact ⟨u, by simp [execOp, hop, h1], h2⟩
  · -- fieldAddr
    rename_i t x f hop
    obtain ⟨v, hk, hs⟩ := fieldAddrK_sound hti h
    refine pure_op hk fun e a hw hr hh => ?_
    obtain ⟨u, h1, h2⟩ := hs e _ e.w (hr x)
    exact ⟨u, by simp [execOp, hop, h1], h2⟩
  · -- field
    rename_i t x f hop
    split at h
    case h_2 => cases h
    rename_i i cs hi hx
    split at h
    case h_2 => cases h
    rename_i off ft hf
    split at h
    case h_2 => cases h
    rename_i j hj
    obtain ⟨v, hk, hv⟩ := partK_inv h
    refine pure_op hk fun e a hw hr hh => ?_
    have hx' := hr x
    rw [hx] at hx'
    obtain ⟨va, hc, hl⟩ := hx'.agg_inv
    obtain ⟨u, h1, h2⟩ := part_value (hti ft j hj) hl hv e.w
    refine ⟨u, ?_, h2⟩
    obtain ⟨fs, fld, h3, h4, h5, h6⟩ := fieldOf_spec (hti t i hi) hf
    subst h5; subst h6
    simp [execOp, hop, Instr.field, run_underlying h3, h4, hc, asAgg, h1]
  · -- indexAddr
    rename_i t x y hop
    obtain ⟨v, hk, hs⟩ := indexAddrK_sound hti h
    refine pure_op hk fun e a hw hr hh => ?_
    obtain ⟨u, h1, h2⟩ := hs e _ _ e.w (hr x) (hr y) hh
    exact ⟨u, by simp [execOp, hop, h1], h2⟩
  · -- index
    rename_i t x y hop
    obtain ⟨v, hk, hs⟩ := indexK_sound hti h
    refine pure_op hk fun e a hw hr hh => ?_
    obtain ⟨u, h1, h2⟩ := hs e _ _ e.w (hr x) (hr y)
    exact ⟨u, by simp [execOp, hop, h1], h2⟩
  · -- extract
    rename_i x n hop
    split at h
    case h_2 => cases h
    rename_i vs hx
    split at h
    case h_2 => cases h
    rename_i v hv
    refine pure_op h fun e a hw hr hh => ?_
    have hx' := hr x
    rw [hx] at hx'
    obtain ⟨va, hc, hl⟩ := hx'.tup_inv
    obtain ⟨u, h1, h2⟩ := hl.get hv
    have h1 : va[n]? = some u := by simpa using h1
    exact ⟨u, by simp [execOp, hop, hc, Instr.extract, h1], h2⟩
  · -- call
    rename_i c hop
    split at h
    · rename_i b hb
      have exec : ∀ (ρ : Operand → Value), execOp ρ o = builtin b c.argTypes o.type (c.args.map fun | .const _ => true | _ => false) (c.args.map ρ) := by
        intro ρ
        simp only [execOp, hop, resolve, hb, invoke, pure_bind]
        rfl
      unfold builtinK at h
      split at h
      · -- len
        rename_i x hargs
        split at h
        case h_2 => cases h
        rename_i t hts
        split at h
        case h_2 => cases h
        rename_i i hi
        split at h
        case h_2 => cases h
        rename_i htk
        obtain ⟨v, hk, hs⟩ := lenK_sound h t o.type (hti t i hi) htk
        refine pure_op hk fun e a hw hr hh => ?_
        have hrel := evs_array hr c.args
        rw [hargs] at hrel
        obtain ⟨u, l, h1, h2, h3⟩ := hrel.cons_inv
        rw [h3.nil_inv] at h1
        obtain ⟨w, g1, g2⟩ := hs e u h2 hh
        refine ⟨w, ?_, g2⟩
        rw [exec, Array.toList_inj.1 (show (c.args.map a.eval).toList = #[u].toList from h1), Array.toList_inj.1 (show c.argTypes.toList = #[t].toList from hts)]
        simp [builtin, g1]
      · -- append
        rename_i s x hargs
        split at h
        case h_2 => cases h
        rename_i t tx hts
        have fin : ∀ (el : TypeId) (i : TI U) (dx : TypeDesc), G.ti t = some i → i.tk = .slice el → P.underlying tx = some dx → (∀ k, dx ≠ .int k) → appendB G el s x H k = some r →
            ∃ v H', k v H' = some r ∧ H.length ≤ H'.length ∧ ((OpS P o fr H v H' ∧ (writes o.op = true ∨ H' = H ∨ ∃ b, H' = H ++ [some b])) ∨ (foot G o.op fr = none ∧ OpF P o fr H v H')) := by
          intro el i dx hi htk hx hdx h
          obtain ⟨v, H', hk, hl, hs⟩ := appendB_sound hti h
          refine ⟨v, H', hk, by omega, .inl ⟨fun e a K Q hw hr hh hf hK => ?_, .inl (by rw [hop]; obtain ⟨callee, args', at'⟩ := c; simp only at hb; subst hb; rfl)⟩⟩
          have hrel := evs_array hr c.args
          rw [hargs] at hrel
          obtain ⟨u1, l1, h1, h2, h3⟩ := hrel.cons_inv
          obtain ⟨u2, l2, rfl, h4, h5⟩ := h3.cons_inv
          rw [h5.nil_inv] at h1
          obtain ⟨c', e', g1, g2, g3, g4, g5, g6⟩ := hs e u1 u2 t tx o.type dx hw h2 h4 hh (hf _ (Nat.le_refl _) (by omega)) ((hti t i hi).und_slice htk) hx hdx
          have hrun : (execOp a.eval o).run P e.w = .ok (.value c') e'.w := by
            rw [exec, Array.toList_inj.1 (show (c.args.map a.eval).toList = #[u1, u2].toList from h1), Array.toList_inj.1 (show c.argTypes.toList = #[t, tx].toList from hts)]
            simp [builtin, g1]
          unfold Oper.wp
          rw [hrun]
          exact hK c' e' g2 g3 g4 g5 (fun k h0 h1 => by have := g6 k h0 h1; omega)
        split at h
        · rename_i hi hx
          exact fin _ _ _ hi rfl ((hti tx _ hx).und_slice rfl) (by simp) h
        · rename_i hi hx
          exact fin _ _ _ hi rfl ((hti tx _ hx).und_str rfl) (by simp) h
        · cases h
      · -- min
        rename_i kk n l hargs
        split at h
        case h_2 => cases h
        rename_i m hm
        refine pure_op h fun e a hw hr hh => ?_
        have hrel := evs_array hr c.args
        rw [hargs] at hrel
        obtain ⟨u, l1, h1, h2, h3⟩ := hrel.cons_inv
        rw [h2.int_inv] at h1
        refine ⟨.int kk m, ?_, .int⟩
        rw [exec]
        generalize Array.map a.eval c.args = A at h1 ⊢
        simp only [builtin, Builtin.min_, h1, Sem.run_bind, minI_sound (P := P) l l1 n m e.w hm h3]
        rfl
      · rename_i kk n l hargs
        split at h
        case h_2 => cases h
        rename_i m hm
        refine pure_op h fun e a hw hr hh => ?_
        have hrel := evs_array hr c.args
        rw [hargs] at hrel
        obtain ⟨u, l1, h1, h2, h3⟩ := hrel.cons_inv
        rw [h2.int_inv] at h1
        refine ⟨.int kk m, ?_, .int⟩
        rw [exec]
        generalize Array.map a.eval c.args = A at h1 ⊢
        simp only [builtin, Builtin.max_, h1, Sem.run_bind, maxI_sound (P := P) l l1 n m e.w hm h3]
        rfl
      · cases h
    · rename_i x hx
      split at h
      case h_2 => cases h
      rename_i g first cap hfn
      unfold callK at h
      have args : ∀ (e : En) (a : Act), (∀ x, Rel e (ev fr x) (a.eval x)) → ∃ va vb, a.eval x = .func (.func g) va vb ∧ RelL e (first ++ evs fr c.args.toList ++ cap) (va ++ c.args.map a.eval ++ vb).toList := by
        intro e a hr
        have := hr x
        rw [hfn] at this
        obtain ⟨va, vb, h1, h2, h3⟩ := this.fn_inv
        refine ⟨va, vb, h1, ?_⟩
        simp only [Array.toList_append]
        exact (h2.append (evs_array hr c.args)).append h3
      split at h
      · rename_i C hC
        have hCok := hG.con g C hC
        split at h
        case h_2 =>
          split at h
          case h_2 => cases h
          rename_i args' hz
          obtain ⟨y, hy, h⟩ := bind_inv h
          split at h
          case h_2 => cases h
          rename_i hno
          refine ⟨_, H, h, Nat.le_refl _, .inl ⟨fun e a K Q hw hr hh hf hK => ?_, .inr (.inl rfl)⟩⟩
          obtain ⟨va, vb, h1, h2⟩ := args e a hr
          have hrun := run_call_value (P := P) (ρ := a.eval) hop hx hCok.enters h1 e.w
          unfold Oper.wp
          rw [hrun, Oper.upon_enter]
          refine con_call_bor hCok hz hy hno e _ hw hh h2 _ (fun cc e' hw' hE hv hm => ?_)
          exact hK cc e' hw' (hE.weaken fun _ hh => absurd hh id) hv (fun k b hb => (hh k b hb).mono hE hw id) (fun k h0 h1 => by rw [hm] at h1; exact absurd h0 h1)
        rename_i hfl
        split at h
        case h_2 => cases h
        rename_i args' hz
        obtain ⟨y, hy, h⟩ := bind_inv h
        have hflat : C.flat = true ∨ refsL (first ++ evs fr c.args.toList ++ cap) = [] := by
          rw [Bool.or_eq_true] at hfl
          refine hfl.imp id (fun hn => ?_)
          revert hn
          cases refsL (first ++ evs fr c.args.toList ++ cap) with
          | nil => intro _; rfl
          | cons _ _ => intro hn; cases hn
        split at h
        case h_2 =>
          rename_i o ho
          refine ⟨_, _, h, by simp, .inl ⟨fun e a K Q hw hr hh hf hK => ?_, .inr (.inr ⟨_, rfl⟩)⟩⟩
          obtain ⟨va, vb, h1, h2⟩ := args e a hr
          have hrun := run_call_value (P := P) (ρ := a.eval) hop hx hCok.enters h1 e.w
          have hN := hf H.length (Nat.le_refl _) (by simp)
          unfold Oper.wp
          rw [hrun, Oper.upon_enter]
          refine con_call_own hCok hflat hz hy ho e _ hw hh h2 hN _ (fun cc e' hw' hE hv hb hm hE0 => ?_)
          refine hK cc e' hw' hE hv (fun k b hb' => ?_) (fun k h0 h1 => ?_)
          · rw [Heap.get_snoc] at hb'
            split at hb'
            · rename_i hkk; subst hkk; cases hb'; exact hb
            · exact (hh k b hb').mono hE0 hw id
          · by_cases hkN : k = H.length
            · subst hkN; simp
            · rw [hm k hkN] at h1; exact absurd h0 h1
        rename_i hno
        refine ⟨_, H, h, Nat.le_refl _, .inl ⟨fun e a K Q hw hr hh hf hK => ?_, .inr (.inl rfl)⟩⟩
        obtain ⟨va, vb, h1, h2⟩ := args e a hr
        have hrun := run_call_value (P := P) (ρ := a.eval) hop hx hCok.enters h1 e.w
        unfold Oper.wp
        rw [hrun, Oper.upon_enter]
        refine con_call hCok hflat hz hy hno e _ hw hh h2 _ (fun cc e' hw' hE hv hm => ?_)
        · exact hK cc e' hw' (hE.weaken fun _ hh => absurd hh id) hv (fun k b hb => (hh k b hb).mono hE hw id) (fun k h0 h1 => by rw [hm] at h1; exact absurd h0 h1)
      · rename_i hC
        have hfoot : foot G o.op fr = none := by
          rw [hop]
          obtain ⟨callee, args', at'⟩ := c
          simp only at hx
          subst hx
          simp only [foot, hfn, hC]
        split at h
        case h_1 =>
          rename_i p hp
          obtain ⟨hen, hproc⟩ := hG.proc g p hp
          split at h
          case h_2 => cases h
          rename_i kk sz hargs
          split at h
          case h_2 => cases h
          rename_i t xs hb
          split at h
          case h_2 => cases h
          rename_i ht _
          split at h
          case h_2 => cases h
          rename_i hsz
          have hsz := Nat.eq_of_beq_eq_true hsz
          obtain ⟨pt, pfn, peat⟩ := p
          dsimp only at ht
          subst ht
          obtain ⟨ys, hys, h⟩ := bind_inv h
          dsimp only at hys h
          have hlt : kk < H.length := Heap.get_lt hb
          cases peat with
          | true =>
            dsimp only at h
            refine ⟨_, _, h, by simp, .inr ⟨hfoot, fun e a K Q hw hr hh hf hK => ?_⟩⟩
            obtain ⟨va, vb, h1, h2⟩ := args e a hr
            have hrun := run_call_value (P := P) (ρ := a.eval) hop hx hen h1 e.w
            unfold Oper.wp
            rw [hrun, Oper.upon_enter]
            rw [hargs] at h2
            generalize (va ++ Array.map a.eval c.args ++ vb) = vs at h2 ⊢
            obtain ⟨cc, rest, e1, e2, e3⟩ := h2.cons_inv
            have hvs : vs = #[cc] := by
              have := e3.1
              have : rest = [] := List.length_eq_zero_iff.1 this.symm
              subst this
              cases vs; simp at e1; simp [e1]
            subst hvs
            rw [hsz] at e2
            refine hproc e kk cc xs ys hw e2 (hh kk _ hb) hys _ (fun c' e' hw' hE hm h5 _ => ?_)
            refine hK c' e' hw' hE.all (h5 rfl) (fun j b hj => ?_) (fun j hj => ?_)
            · rw [Heap.get_set hb] at hj
              split at hj
              · cases hj
              · rename_i hne; exact (hh j b hj).mono hE hw hne
            · have hj : H.length ≤ j := by simpa using hj
              rw [hm j (by omega)]; exact hf j hj
          | false =>
            dsimp only at h
            refine ⟨_, _, h, by simp, .inr ⟨hfoot, fun e a K Q hw hr hh hf hK => ?_⟩⟩
            obtain ⟨va, vb, h1, h2⟩ := args e a hr
            have hrun := run_call_value (P := P) (ρ := a.eval) hop hx hen h1 e.w
            unfold Oper.wp
            rw [hrun, Oper.upon_enter]
            rw [hargs] at h2
            generalize (va ++ Array.map a.eval c.args ++ vb) = vs at h2 ⊢
            obtain ⟨cc, rest, e1, e2, e3⟩ := h2.cons_inv
            have hvs : vs = #[cc] := by
              have := e3.1
              have : rest = [] := List.length_eq_zero_iff.1 this.symm
              subst this
              cases vs; simp at e1; simp [e1]
            subst hvs
            rw [hsz] at e2
            refine hproc e kk cc xs ys hw e2 (hh kk _ hb) hys _ (fun c' e' hw' hE hm _ h5 => ?_)
            obtain ⟨h6, h7⟩ := h5 rfl
            refine hK c' e' hw' hE.all h6 (fun j b hj => ?_) (fun j hj => ?_)
            · rw [Heap.get_set hb] at hj
              split at hj
              · rename_i hjk; subst hjk; cases hj; exact h7
              · rename_i hne; exact (hh j b hj).mono hE hw hne
            · have hj : H.length ≤ j := by simpa using hj
              rw [hm j (by omega)]; exact hf j hj
        rename_i hnp
        obtain ⟨v, H', hk, hl, hen, hs⟩ := hcall g _ H k r h
        refine ⟨v, H', hk, hl, .inr ⟨hfoot, fun e a K Q hw hr hh hf hK => ?_⟩⟩
        · obtain ⟨va, vb, h1, h2⟩ := args e a hr
          have hrun := run_call_value (P := P) (ρ := a.eval) hop hx hen h1 e.w
          unfold Oper.wp
          rw [hrun, Oper.upon_enter]
          exact hs e _ hw hh h2 hf _ (fun cc e' hw' hE hv hh' hf' => hK cc e' hw' hE hv hh' hf')
    · cases h
  · cases h
end

end Am
