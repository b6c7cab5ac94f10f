/- Code. -/
import Derived.Test.YtlogoccciaopnaaGreatDoorAmQ5
import Derived.LoopN
namespace Am
open Go
variable {U : TyU} {R : Type} {P : Program} {G : Env U}

def AExit.to : AExit → Exit
  | .normal => .normal
  | .exit id => .exit id
  | .ret => .ret

/-- a loop, ahead of a round -/
def loopWp (P : Program) (c : Code) (Q : Exit → Act → World → Prop) (a : Act) (w : World) : Prop := ∀ (b : Frame) (k : List Item) (cs : List Frame),
  ∃ e a' w', Q e a' w' ∧ Arrives P (lone (b.at a (.code c :: .inLoop c :: k)) cs w) b k cs e a' w'

theorem loopWp_wp {c : Code} {Q : Exit → Act → World → Prop} {a : Act} {w : World} (h : loopWp P c Q a w) : (Code.loop c).wp P Q a w := by
  intro b k cs
  obtain ⟨e, a', w', hq, harr⟩ := h b k cs
  exact ⟨e, a', w', hq, .of_steps (.one step_loop) harr⟩

theorem loopWp_round {c : Code} {Q : Exit → Act → World → Prop} {a : Act} {w : World} (h : c.wp P (Exit.then (loopWp P c Q) Q) a w) : loopWp P c Q a w := by
  intro b k cs
  obtain ⟨e, a₁, w₁, hq, harr⟩ := h b (.inLoop c :: k) cs
  cases e with
  | normal =>
    obtain ⟨e₂, a₂, w₂, hq₂, harr₂⟩ := hq b k cs
    exact ⟨e₂, a₂, w₂, hq₂, .of_steps (Steps.trans harr (.one step_inLoop)) harr₂⟩
  | exit id => exact ⟨_, a₁, w₁, hq, .pass (x := .inLoop c) rfl (fun _ _ => .inl (by simp)) harr⟩
  | goto l => exact ⟨_, a₁, w₁, hq, .pass (x := .inLoop c) rfl (fun _ _ => .inl (by simp)) harr⟩
  | ret => exact ⟨_, a₁, w₁, hq, .pass (x := .inLoop c) rfl (fun _ _ => .inl (by simp)) harr⟩
  | panic ch => exact ⟨_, a₁, w₁, hq, .pass (x := .inLoop c) rfl (fun _ _ => .inl (by simp)) harr⟩
  | outgrown => exact ⟨_, a₁, w₁, hq, .pass (x := .inLoop c) rfl (fun _ _ => .inl (by simp)) harr⟩

def wpx (P : Program) : Code → (Exit → Act → World → Prop) → Act → World → Prop
  | .loop c => loopWp P c
  | c => c.wp P

theorem wpx_wp {c : Code} {Q : Exit → Act → World → Prop} {a : Act} {w : World} (h : wpx P c Q a w) : c.wp P Q a w := by
  cases c <;> first | exact loopWp_wp h | exact h

theorem loopWp_mono {c : Code} {Q Q' : Exit → Act → World → Prop} {a : Act} {w : World} (h : loopWp P c Q a w) (hq : ∀ e a w, Q e a w → Q' e a w) : loopWp P c Q' a w :=
  fun b k cs => let ⟨e, a', w', q, r⟩ := h b k cs; ⟨e, a', w', hq _ _ _ q, r⟩

/-- from states as 'st' the code ends in states as 'st'' -/
def CodeS (P : Program) (c : Code) (st : St U) (x : AExit) (st' : St U) : Prop := ∀ (e : En) (a : Act) (Q : Exit → Act → World → Prop), StRel e st a →
  (∀ (e' : En) (a' : Act), StRel e' st' a' → Evo allD e e' → Q x.to a' e'.w) → wpx P c Q a e.w

def CutOK (P : Program) (body : Code) (C : Cut U) : Prop := (∀ (R : Type) (y : C.Y) (H : Heap U) (k : AExit → St U → Option R), C.outk y H k = k (C.out y H).1 (C.out y H).2) ∧ ∀ (st : St U) (x : C.X × Heap U) (y : C.Y), C.dec st = some x → C.fn x.1 = some y →
  st.H.length ≤ (C.out y x.2).2.H.length ∧ CodeS P (.loop body) st (C.out y x.2).1 (C.out y x.2).2

/-- the loops of a code -/
def loops : Code → List Code
  | .seq a b => loops a ++ loops b
  | .cond _ a b => loops a ++ loops b
  | .block _ a => loops a
  | .loop a => a :: loops a
  | .scope a => loops a
  | _ => []

def CutsOK (P : Program) (G : Env U) : Prop := ∀ (f : FuncId) (fn : Func) (c : Code), P.funcs[f]? = some fn → fn.body = some c → ∀ body ∈ loops c, ∀ C ∈ G.cuts f ((firstRegion body).getD 0), CutOK P body C

/-! ## Results -/
def resultM (tmps : Array Value) : ResultVar → Sem Value
  | .tmp t => pure (tmps.getD t undef)
  | .cell a t => do loadVar t (← asAddr (tmps.getD a undef))

theorem resultsK_sound (hG : EnvOK P G) : ∀ (rs : List ResultVar) (st : St U) (k : List (AV U) → Option R) (r : R), resultsK G rs st k = some r →
    ∃ vs, k vs = some r ∧ ∀ (e : En) (a : Act), FrRel e st.fr a.tmps → HeapRel e st.H.get → ∃ us, (rs.mapM (resultM a.tmps)).run P e.w = .ok us e.w ∧ RelL e vs us
  | [], st, k, r, h => ⟨[], h, fun e a _ _ => ⟨[], by simp, RelL.nil⟩⟩
  | .tmp t :: l, st, k, r, h => by
    unfold resultsK at h
    obtain ⟨vs, h1, h2⟩ := resultsK_sound hG l st _ r h
    refine ⟨_, h1, fun e a hf hh => ?_⟩
    obtain ⟨us, g1, g2⟩ := h2 e a hf hh
    have hv : Rel e (st.fr.getD t undefA) (a.tmps.getD t undef) := by
      simp only [List.getD_eq_getElem?_getD, Array.getD_eq_getD_getElem?]
      cases hx : st.fr[t]? with
      | none =>
        have h1 := List.getElem?_eq_none_iff.1 hx
        have h2 : a.tmps[t]? = none := Array.getElem?_eq_none (by have := hf.1; simp at this; omega)
        rw [h2]
        exact .tup rfl (by simp)
      | some v =>
        obtain ⟨c, q1, q2⟩ := RelL.get hf hx
        have q1 : a.tmps[t]? = some c := by simpa using q1
        rw [q1]; exact q2
    exact ⟨_, by simp [List.mapM_cons, resultM, g1], RelL.cons hv g2⟩
  | .cell x t :: l, st, k, r, h => by
    unfold resultsK at h
    obtain ⟨v, hk, hs⟩ := loadK_sound hG.ti h
    obtain ⟨vs, h1, h2⟩ := resultsK_sound hG l st _ r hk
    refine ⟨_, h1, fun e a hf hh => ?_⟩
    obtain ⟨us, g1, g2⟩ := h2 e a hf hh
    have hv : Rel e (st.fr.getD x undefA) (a.tmps.getD x undef) := by
      simp only [List.getD_eq_getElem?_getD, Array.getD_eq_getD_getElem?]
      cases hx : st.fr[x]? with
      | none =>
        have h1 := List.getElem?_eq_none_iff.1 hx
        have h2 : a.tmps[x]? = none := Array.getElem?_eq_none (by have := hf.1; simp at this; omega)
        rw [h2]
        exact .tup rfl (by simp)
      | some v =>
        obtain ⟨c, q1, q2⟩ := RelL.get hf hx
        have q1 : a.tmps[x]? = some c := by simpa using q1
        rw [q1]; exact q2
    obtain ⟨u, q1, q2⟩ := hs e _ hv hh
    refine ⟨u :: us, ?_, RelL.cons q2 g2⟩
    have hu : (resultM a.tmps (.cell x t)).run P e.w = .ok u e.w := by
      obtain ⟨b, hb⟩ : ∃ b, a.tmps.getD x undef = .pointer (some b) := by
        generalize a.tmps.getD x undef = ad at q1
        cases ad with
        | pointer p =>
          cases p with
          | none => simp [Instr.loadAt, Instr.sureAddr] at q1
          | some b => exact ⟨b, rfl⟩
        | _ => simp [Instr.loadAt, Instr.sureAddr] at q1
      rw [hb] at q1
      simp only [resultM, hb, asAddr, pure_bind]
      simpa [Instr.loadAt, Instr.sureAddr] using q1
    simp [List.mapM_cons, hu, g1]

def oneOrTupV : List Value → Value
  | [v] => v
  | us => .tuple us.toArray

theorem run_results {fn : Func} {tmps : Array Value} {w : World} {us : List Value} (h : (fn.results.toList.mapM (resultM tmps)).run P w = .ok us w) :
    (Go.results fn tmps).run P w = .ok (oneOrTupV us) w := by
  have e1 : Go.results fn tmps = (do let vs ← fn.results.mapM (resultM tmps); pure (if h : vs.size = 1 then vs[0] else .tuple vs)) := by
    unfold Go.results
    congr 1
  rw [e1, Array.mapM_eq_mapM_toList]
  simp only [map_eq_pure_bind, bind_assoc, pure_bind, Sem.run_bind, h, Result.andThen_ok, Sem.run_pure]
  congr 1
  match us with
  | [] => rfl
  | [v] => rfl
  | _ :: _ :: _ => rfl

theorem oneOrTup_rel {e : En} {vs : List (AV U)} {us : List Value} (h : RelL e vs us) : Rel e (oneOrTup vs) (oneOrTupV us) := by
  match vs, us, h with
  | [], [], h => exact Rel.of_tup h
  | [], _ :: _, h => have := h.1; simp at this
  | [x], [], h => have := h.1; simp at this
  | [x], [v], h => exact h.head
  | [x], _ :: _ :: _, h => have := h.1; simp at this
  | _ :: _ :: _, [], h => have := h.1; simp at this
  | _ :: _ :: _, [_], h => have := h.1; simp at this
  | _ :: _ :: _, _ :: _ :: _, h => exact Rel.of_tup h

/-! ## Bodies -/
theorem frame_rel {e : En} {args : List (AV U)} {vs : Array Value} (h : RelL e args vs.toList) (n : Nat) :
    FrRel e (args ++ List.replicate (n - args.length) undefA) (vs ++ Array.replicate (n - vs.size) undef) := by
  have hl : args.length = vs.size := by simpa using h.1
  unfold FrRel
  rw [Array.toList_append, Array.toList_replicate, hl]
  refine h.append ⟨by simp, fun j x v hx hv => ?_⟩
  rw [List.getElem?_replicate] at hx hv
  split at hx
  · rename_i hj
    rw [if_pos hj] at hv
    cases hx; cases hv
    exact .tup rfl (by simp)
  · cases hx

theorem body_calls {f : FuncId} {fn : Func} {body : Code} (hf : P.funcs[f]? = some fn) (hb : fn.body = some body) {args : List (AV U)} {H : Heap U} {x : AExit} {st' : St U}
    (hx : ∀ j, x ≠ .exit j) (hS : CodeS P body { fr := args ++ List.replicate (fn.ntmps - args.length) undefA, H := H } x st')
    {vs : List (AV U)} (hres : ∀ (e : En) (a : Act), FrRel e st'.fr a.tmps → HeapRel e st'.H.get → ∃ us, (fn.results.toList.mapM (resultM a.tmps)).run P e.w = .ok us e.w ∧ RelL e vs us)
    {e : En} {cs : Array Value} (hw : WF e) (hh : HeapRel e H.get) (hr : RelL e args cs.toList) (hfr : ∀ k, H.length ≤ k → e.m k = none) {Post : Ending → World → Prop}
    (hP : ∀ (c : Value) (e' : En), WF e' → Evo allD e e' → Rel e' (oneOrTup vs) c → HeapRel e' st'.H.get → (∀ k, st'.H.length ≤ k → e'.m k = none) → Post (.returned c) e'.w) : Calls P f cs e.w Post := by
  refine calls_of_wp hf hb (wpx_wp (hS e _ _ ⟨frame_rel hr fn.ntmps, hh, hw, hfr, rfl⟩ (fun e' a' hst hE => ?_)))
  obtain ⟨us, h1, h2⟩ := hres e' a' hst.fr hst.heap
  have hb : a'.defers = [] ∧ ∃ v, (Go.results fn a'.tmps).run P e'.w = .ok v e'.w ∧ Post (.returned v) e'.w :=
    ⟨hst.defers, _, run_results h1, hP _ e' hst.wf hE (oneOrTup_rel h2) hst.heap hst.fresh⟩
  cases x with
  | normal => exact hb
  | ret => exact hb
  | exit j => exact absurd rfl (hx j)

theorem tryCuts_inv : ∀ {l : List (Cut U)} {st : St U} {k : AExit → St U → Option R} {d : Option R} {r : R}, tryCuts l st k d = some r →
    (∃ C ∈ l, ∃ x y, C.dec st = some x ∧ C.fn x.1 = some y ∧ C.outk y x.2 k = some r) ∨ d = some r
  | [], _, _, _, _, h => .inr h
  | C :: l, st, k, d, r, h => by
    unfold tryCuts at h
    split at h
    · rename_i x hx
      obtain ⟨y, hy, h⟩ := bind_inv h
      exact .inl ⟨C, List.mem_cons_self .., x, y, hx, hy, h⟩
    · rcases tryCuts_inv h with ⟨C', hC, g⟩ | h
      · exact .inl ⟨C', List.mem_cons_of_mem _ hC, g⟩
      · exact .inr h

def Within (P : Program) (f : FuncId) (c : Code) : Prop := ∃ fn code, P.funcs[f]? = some fn ∧ fn.body = some code ∧ ∀ b ∈ loops c, b ∈ loops code

theorem exec_sound (hG : EnvOK P G) (hC : CutsOK P G) (hm : P.follows .mixedOrders = true) : ∀ (n : Nat) (f : FuncId) (c : Code) (st : St U) (k : AExit → St U → Option R) (r : R), Within P f c → exec G n f c st k = some r →
    ∃ x st', k x st' = some r ∧ st.H.length ≤ st'.H.length ∧ CodeS P c st x st' := by
  intro n
  induction n with
  | zero => intro f c st k r _ h; simp [exec] at h
  | succ n ih =>
    intro f c st k r hW h
    obtain ⟨fn0, code0, hf0, hb0, hl0⟩ := hW
    unfold exec at h
    split at h
    · -- skip
      exact ⟨.normal, st, h, Nat.le_refl _, fun e a Q hst hQ => wp_skip (hQ e a hst (.refl _ _))⟩
    · -- region
      rename_i id ops draw
      have hcall : CallS P (R := R) (fun f args H kk => match G.spec f with
        | some s => (s args H).bind fun r => kk r.1 r.2
        | none => match G.fn f with
          | none => none
          | some fn => match fn.body with
            | none => none
            | some body => exec G n f body { fr := args ++ List.replicate (fn.ntmps - args.length) undefA, H := H } fun e st' => match e with
              | .exit _ => none
              | _ => resultsK G fn.results.toList st' fun vs => kk (oneOrTup vs) st'.H) := by
        intro g args H kk r h
        dsimp only at h
        split at h
        · rename_i s hs
          obtain ⟨⟨v, H'⟩, hv, hk⟩ := bind_inv h
          obtain ⟨h1, h2, h3⟩ := hG.spec g s hs args H v H' hv
          exact ⟨v, H', hk, h1, h2, h3⟩
        split at h
        · cases h
        rename_i fn hfn
        split at h
        · cases h
        rename_i body hbody
        obtain ⟨hf, hname⟩ := hG.fn g fn hfn
        obtain ⟨x, st', hk, hl, hS⟩ := ih g body _ _ r ⟨fn, body, hf, hbody, fun b hb => hb⟩ h
        have fin : (∀ j, x ≠ .exit j) → resultsK G fn.results.toList st' (fun vs => kk (oneOrTup vs) st'.H) = some r → ∃ (v : AV U) (H' : Heap U), kk v H' = some r ∧ H.length ≤ H'.length ∧ Enters P g ∧
            ∀ (e : En) (vs : Array Value), WF e → HeapRel e H.get → RelL e args vs.toList → (∀ k, H.length ≤ k → e.m k = none) → ∀ Post : Ending → World → Prop,
              (∀ (c : Value) (e' : En), WF e' → Evo allD e e' → Rel e' v c → HeapRel e' H'.get → (∀ k, H'.length ≤ k → e'.m k = none) → Post (.returned c) e'.w) → Calls P g vs e.w Post := by
          intro hx hres
          obtain ⟨vs, hvs, hr⟩ := resultsK_sound hG _ st' _ r hres
          exact ⟨_, _, hvs, hl, ⟨fn, hf, by rw [hbody]; rfl, hname⟩, fun e cs hw hh hrr hfr Post hP => body_calls hf hbody hx hS hr hw hh hrr hfr hP⟩
        cases x with
        | normal => exact fin (by simp) hk
        | ret => exact fin (by simp) hk
        | exit j => cases hk
      unfold regionK at h
      split at h
      · obtain ⟨st', h1, h2, h3⟩ := seq_region hG hcall (id := id) h
        exact ⟨.normal, st', h1, h2, h3⟩
      · obtain ⟨st', h1, h2, h3⟩ := draw_region hG hcall hm (id := id) h
        exact ⟨.normal, st', h1, h2, h3⟩
    · -- seq
      rename_i x y
      obtain ⟨ex, st1, h1, hl1, hS1⟩ := ih f x st _ r ⟨fn0, code0, hf0, hb0, fun b hb => hl0 b (by simp [loops, hb])⟩ h
      cases ex with
      | normal =>
        obtain ⟨ex2, st2, h2, hl2, hS2⟩ := ih f y st1 _ r ⟨fn0, code0, hf0, hb0, fun b hb => hl0 b (by simp [loops, hb])⟩ h1
        refine ⟨ex2, st2, h2, by omega, fun e a Q hst hQ => wp_seq (wpx_wp (hS1 e a _ hst (fun e1 a1 hst1 hE1 => ?_)))⟩
        exact wpx_wp (hS2 e1 a1 Q hst1 (fun e2 a2 hst2 hE2 => hQ e2 a2 hst2 (hE1.trans hE2)))
      | exit j => exact ⟨.exit j, st1, h1, hl1, fun e a Q hst hQ => wp_seq (wpx_wp (hS1 e a _ hst (fun e1 a1 hst1 hE1 => hQ e1 a1 hst1 hE1)))⟩
      | ret => exact ⟨.ret, st1, h1, hl1, fun e a Q hst hQ => wp_seq (wpx_wp (hS1 e a _ hst (fun e1 a1 hst1 hE1 => hQ e1 a1 hst1 hE1)))⟩
    · -- cond
      rename_i o x y
      split at h
      case h_2 => cases h
      rename_i b hb
      have hset : ∀ (e : En) (a : Act), StRel e st a → a.eval o = .bool b ∧ StRel e { st with fr := setCond o b st.fr } a := by
        intro e a hst
        have h1 := hst.fr.ev o
        rw [hb] at h1
        have h2 := h1.bool_inv
        refine ⟨h2, ⟨?_, hst.heap, hst.wf, hst.fresh, hst.defers⟩⟩
        cases o with
        | tmp t =>
          refine hst.fr.set (fun c hc => ?_)
          have : a.eval (.tmp t) = c := by simp [Act.eval, hc]
          rw [this] at h2; subst h2; exact .bool
        | const _ => exact hst.fr
        | func _ => exact hst.fr
        | global _ => exact hst.fr
      split at h
      · obtain ⟨ex, st1, h1, hl1, hS1⟩ := ih f x _ _ r ⟨fn0, code0, hf0, hb0, fun b hb => hl0 b (by simp [loops, hb])⟩ h
        exact ⟨ex, st1, h1, hl1, fun e a Q hst hQ => wp_cond (hset e a hst).1 (by rw [if_pos rfl]; exact wpx_wp (hS1 e a Q (hset e a hst).2 hQ))⟩
      · obtain ⟨ex, st1, h1, hl1, hS1⟩ := ih f y _ _ r ⟨fn0, code0, hf0, hb0, fun b hb => hl0 b (by simp [loops, hb])⟩ h
        exact ⟨ex, st1, h1, hl1, fun e a Q hst hQ => wp_cond (hset e a hst).1 (by rw [if_neg (by simp)]; exact wpx_wp (hS1 e a Q (hset e a hst).2 hQ))⟩
    · -- block
      rename_i id body
      obtain ⟨ex, st1, h1, hl1, hS1⟩ := ih f body st _ r ⟨fn0, code0, hf0, hb0, fun b hb => hl0 b (by simpa [loops] using hb)⟩ h
      cases ex with
      | normal => exact ⟨.normal, st1, h1, hl1, fun e a Q hst hQ => wp_block (wpx_wp (hS1 e a _ hst (fun e1 a1 hst1 hE1 => hQ e1 a1 hst1 hE1)))⟩
      | ret => exact ⟨.ret, st1, h1, hl1, fun e a Q hst hQ => wp_block (wpx_wp (hS1 e a _ hst (fun e1 a1 hst1 hE1 => hQ e1 a1 hst1 hE1)))⟩
      | exit j =>
        dsimp only at h1
        split at h1
        · rename_i hj
          have hj := Nat.eq_of_beq_eq_true hj
          refine ⟨.normal, st1, h1, hl1, fun e a Q hst hQ => wp_block (wpx_wp (hS1 e a _ hst (fun e1 a1 hst1 hE1 => ?_)))⟩
          simp only [AExit.to, Exit.inBlock, hj, if_true]
          exact hQ e1 a1 hst1 hE1
        · rename_i hj
          have hj : j ≠ id := fun hh => by rw [hh, Nat.beq_refl] at hj; cases hj
          refine ⟨.exit j, st1, h1, hl1, fun e a Q hst hQ => wp_block (wpx_wp (hS1 e a _ hst (fun e1 a1 hst1 hE1 => ?_)))⟩
          simp only [AExit.to, Exit.inBlock, hj, if_false]
          exact hQ e1 a1 hst1 hE1
    · -- loop
      rename_i body
      rcases tryCuts_inv h with ⟨C, hCm, x, y, hx, hy, hk⟩ | h
      · obtain ⟨h0, hC⟩ := hC f fn0 code0 hf0 hb0 body (hl0 body (by simp [loops])) C hCm
        obtain ⟨h1, h2⟩ := hC st x y hx hy
        rw [h0] at hk
        exact ⟨_, _, hk, h1, h2⟩
      · obtain ⟨ex, st1, h1, hl1, hS1⟩ := ih f body st _ r ⟨fn0, code0, hf0, hb0, fun b hb => hl0 b (by simp [loops, hb])⟩ h
        cases ex with
        | normal =>
          obtain ⟨ex2, st2, h2, hl2, hS2⟩ := ih f (.loop body) st1 _ r ⟨fn0, code0, hf0, hb0, hl0⟩ h1
          refine ⟨ex2, st2, h2, by omega, fun e a Q hst hQ => loopWp_round (wpx_wp (hS1 e a _ hst (fun e1 a1 hst1 hE1 => ?_)))⟩
          exact hS2 e1 a1 Q hst1 (fun e2 a2 hst2 hE2 => hQ e2 a2 hst2 (hE1.trans hE2))
        | exit j => exact ⟨.exit j, st1, h1, hl1, fun e a Q hst hQ => loopWp_round (wpx_wp (hS1 e a _ hst (fun e1 a1 hst1 hE1 => hQ e1 a1 hst1 hE1)))⟩
        | ret => exact ⟨.ret, st1, h1, hl1, fun e a Q hst hQ => loopWp_round (wpx_wp (hS1 e a _ hst (fun e1 a1 hst1 hE1 => hQ e1 a1 hst1 hE1)))⟩
    · exact ⟨.exit _, st, h, Nat.le_refl _, fun e a Q hst hQ => wp_exit (hQ e a hst (.refl _ _))⟩
    · exact ⟨.ret, st, h, Nat.le_refl _, fun e a Q hst hQ => wp_ret (hQ e a hst (.refl _ _))⟩
    · cases h

end Am
