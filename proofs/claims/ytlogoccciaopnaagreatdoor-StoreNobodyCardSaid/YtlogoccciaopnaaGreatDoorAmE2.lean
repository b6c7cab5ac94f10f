/- Loops and contracts, out of the evaluator. -/
import Derived.Test.YtlogoccciaopnaaGreatDoorAmE1
namespace Am
open Go
variable {U : TyU} {R : Type} {P : Program} {G : Env U}

/-- a loop from one state of its own to another -/
def LoopS (P : Program) (body : Code) (st : St U) (x : AExit) (st' : St U) : Prop := ∀ (e : En) (a : Act) (Q : Exit → Act → World → Prop), StRel e st a →
  (∀ (e' : En) (a' : Act), StRel e' st' a' → WEvo e e' → Q x.to a' e'.w) → loopWp P body Q a e.w

theorem dec_inv {D : Desc U} {st : St U} {x : D.X × Heap U} (h : D.dec st = some x) : ∃ ids ρ, D.check ρ (freezeSt ids st) = some x.1 ∧ x.2 = killH (somes ρ) (freezeSt ids st).H := by
  unfold Desc.dec at h
  dsimp only at h
  split at h
  · rename_i y hy
    cases h
    exact ⟨_, _, hy, rfl⟩
  · cases h

theorem loopCut_ok {body : Code} {D : Desc U} {Y : Type} {L : D.X → Option Y} {outs : Y → AExit × St U} {kont : {R : Type} → Y → (AExit → St U → Option R) → Option R} (hkont : ∀ (R : Type) (y : Y) (k : AExit → St U → Option R), kont y k = k (outs y).1 (outs y).2)
    (h : ∀ x y, L x = some y → LoopS P body (D.enc x) (outs y).1 (outs y).2) : CutOK P body (loopCut D L outs kont) := by
  refine ⟨fun R y H k => hkont R y _, ?_⟩
  intro st x y hx hy
  obtain ⟨ids, ρ, h1, h2⟩ := dec_inv hx
  have hlen : st.H.length ≤ ((loopCut D L outs kont).out y x.2).2.H.length := by
    show st.H.length ≤ (x.2 ++ shiftH _ _).length
    rw [h2, List.length_append, killH_length, freezeSt_length]; omega
  refine ⟨hlen, fun e a Q hst hQ => ?_⟩
  obtain ⟨e1, g1, g2, g3⟩ := freezeSt_sound ids hst
  have hp := check_rel h1 g1
  have hw : (e1.pull ρ).w = e.w := g2
  rw [← hw]
  refine h x.1 y hy (e1.pull ρ) a Q hp (fun e2 a2 hst2 hE2 => ?_)
  obtain ⟨p1, p2⟩ := push2_ok g1 hst2 hE2
  rw [← h2] at p1
  exact hQ (e1.push2 e2 (freezeSt ids st).H.length (somes ρ)) a2 p1 (g3.all.trans p2)

/-- a state, seen as another -/
def Pull (st st0 : St U) : Prop := ∀ (e : En) (a : Act), StRel e st a → ∃ e0, StRel e0 st0 a ∧ e0.w = e.w ∧ WEvo e e0

theorem WEvo.refl (e : En) : WEvo e e := (Evo.refl allD e).toW

theorem go_pull {D : Desc U} {st : St U} {x : D.X} (h : D.go st = some x) : Pull st (D.enc x) := by
  unfold Desc.go at h
  split at h
  · rename_i y hy
    cases h
    obtain ⟨ids, ρ, h1, h2⟩ := dec_inv hy
    intro e a hst
    obtain ⟨e1, g1, g2, g3⟩ := freezeSt_sound ids hst
    exact ⟨e1.pull ρ, check_rel h1 g1, g2, g3.all.toW.trans (pull_wevo _ _)⟩
  · cases h

/-- what comes of one round -/
def roundK {X Y : Type} (norm : St U → Option X) (other : AExit → St U → Option Y) (ex : AExit) (st : St U) : Option (X ⊕ Y) := match ex with
  | .normal => match norm st with
    | some x => some (.inl x)
    | none => none
  | ex => match other ex st with
    | some y => some (.inr y)
    | none => none

structure OutOK {Y : Type} (other : AExit → St U → Option Y) (outs : Y → AExit × St U) : Prop where
  ok : ∀ (ex : AExit) (st : St U) (y : Y), ex ≠ .normal → other ex st = some y → (outs y).1 = ex ∧ Pull st (outs y).2

theorem iter_sound (hG : EnvOK P G) (hC : CutsOK P G) (hm : P.follows .mixedOrders = true) {f : FuncId} {body : Code} (hW : Within P f body) {D : Desc U} {Y : Type} {outs : Y → AExit × St U} {other : AExit → St U → Option Y} (ho : OutOK other outs)
    {step : D.X → Option (D.X ⊕ Y)} {n : Nat} (hs : ∀ x r, step x = some r → exec G n f body (D.enc x) (roundK D.go other) = some r) :
    ∀ (m : Nat) (x : D.X) (y : Y), iter step m x = some y → LoopS P body (D.enc x) (outs y).1 (outs y).2 := by
  intro m
  induction m with
  | zero => intro x y h; simp [iter] at h
  | succ m ih =>
    intro x y h e a Q hst hQ
    unfold iter at h
    split at h
    · rename_i x' hx
      obtain ⟨ex, st', h1, _, h3⟩ := exec_sound hG hC hm n f body _ _ _ hW (hs x _ hx)
      have hn : ex = .normal ∧ D.go st' = some x' := by
        unfold roundK at h1
        split at h1
        · split at h1
          · rename_i z hz; cases h1; exact ⟨rfl, hz⟩
          · cases h1
        · split at h1
          · cases h1
          · cases h1
      obtain ⟨rfl, hgo⟩ := hn
      refine loopWp_round (wpx_wp (h3 e a _ hst (fun e1 a1 hst1 hE1 => ?_)))
      obtain ⟨e0, g1, g2, g3⟩ := go_pull hgo e1 a1 hst1
      rw [← g2]
      exact ih x' y h e0 a1 Q g1 (fun e2 a2 hst2 hE2 => hQ e2 a2 hst2 ((hE1.toW.trans g3).trans hE2))
    · rename_i y' hx
      cases h
      obtain ⟨ex, st', h1, _, h3⟩ := exec_sound hG hC hm n f body _ _ _ hW (hs x _ hx)
      have hn : ex ≠ .normal ∧ other ex st' = some y := by
        unfold roundK at h1
        split at h1
        · split at h1
          · cases h1
          · cases h1
        · rename_i hne
          split at h1
          · rename_i z hz; cases h1; exact ⟨fun hh => hne hh, hz⟩
          · cases h1
      obtain ⟨o1, o2⟩ := ho.ok ex st' y hn.1 hn.2
      rw [o1] at hQ
      refine loopWp_round (wpx_wp (h3 e a _ hst (fun e1 a1 hst1 hE1 => ?_)))
      obtain ⟨e0, g1, g2, g3⟩ := o2 e1 a1 hst1
      have := hQ e0 a1 g1 (hE1.toW.trans g3)
      rw [g2] at this
      cases ex with
      | normal => exact absurd rfl hn.1
      | exit j => exact this
      | ret => exact this
    · cases h

theorem loopOf_some {X Y : Type} {step : X → Option (X ⊕ Y)} {x : X} {y : Y} (h : loopOf step x = some y) : ∃ n, iter step n x = some y := by
  unfold loopOf at h
  split at h
  · rename_i hh
    cases h
    exact ⟨_, hh.choose_spec.choose_spec⟩
  · cases h

theorem iter_mono {X Y : Type} {step : X → Option (X ⊕ Y)} : ∀ {n : Nat} {x : X} {y : Y}, iter step n x = some y → ∀ m, n ≤ m → iter step m x = some y
  | 0, _, _, h, _, _ => by simp [iter] at h
  | n + 1, x, y, h, 0, hm => by omega
  | n + 1, x, y, h, m + 1, hm => by
    unfold iter at h ⊢
    split at h
    · exact iter_mono h m (by omega)
    · exact h
    · cases h

theorem loopOf_eq {X Y : Type} {step : X → Option (X ⊕ Y)} {n : Nat} {x : X} {y : Y} (h : iter step n x = some y) : loopOf step x = some y := by
  have hh : ∃ n y, iter step n x = some y := ⟨n, y, h⟩
  have : loopOf step x = some hh.choose_spec.choose := by unfold loopOf; rw [dif_pos hh]
  rw [this]
  have h2 := hh.choose_spec.choose_spec
  have a := iter_mono h (max n hh.choose) (by omega)
  have b := iter_mono h2 (max n hh.choose) (by omega)
  rw [a] at b
  exact b.symm

theorem loopOf_step {X Y : Type} (step : X → Option (X ⊕ Y)) (x : X) : loopOf step x = match step x with
    | some (.inl x') => loopOf step x'
    | some (.inr y) => some y
    | none => none := by
  have none_of : ∀ x, (¬ ∃ n y, iter step n x = some y) → loopOf step x = none := fun x h => by unfold loopOf; rw [dif_neg h]
  split
  · rename_i x' hx
    by_cases h : ∃ n y, iter step n x' = some y
    · obtain ⟨n, y, hn⟩ := h
      rw [loopOf_eq hn]
      refine loopOf_eq (n := n + 1) ?_
      unfold iter; rw [hx]; exact hn
    · rw [none_of x' h]
      refine none_of x (fun ⟨n, y, hn⟩ => ?_)
      cases n with
      | zero => simp [iter] at hn
      | succ n => unfold iter at hn; rw [hx] at hn; exact h ⟨n, y, hn⟩
  · rename_i y hx
    exact loopOf_eq (n := 1) (by unfold iter; rw [hx])
  · rename_i hx
    refine none_of x (fun ⟨n, y, hn⟩ => ?_)
    cases n with
    | zero => simp [iter] at hn
    | succ n => unfold iter at hn; rw [hx] at hn; cases hn

theorem loop_ok (hG : EnvOK P G) (hC : CutsOK P G) (hm : P.follows .mixedOrders = true) {f : FuncId} {body : Code} (hW : Within P f body) {D : Desc U} {Y : Type} {outs : Y → AExit × St U} {other : AExit → St U → Option Y} (ho : OutOK other outs)
    {kont : {R : Type} → Y → (AExit → St U → Option R) → Option R} (hkont : ∀ (R : Type) (y : Y) (k : AExit → St U → Option R), kont y k = k (outs y).1 (outs y).2)
    {step : D.X → Option (D.X ⊕ Y)} {n : Nat} (hs : ∀ x, exec G n f body (D.enc x) (roundK D.go other) = step x) : CutOK P body (loopCut D (loopOf step) outs kont) :=
  loopCut_ok hkont (fun x y h => by
    obtain ⟨m, hm'⟩ := loopOf_some h
    exact iter_sound hG hC hm hW ho (fun x r h => by rw [hs x]; exact h) m x y hm')

/-! ## Contracts -/
/-- results: one value, or several -/
inductive RD (U : TyU) where
  | one (d : VD U)
  | many (l : List (VD U))

def RD.den : RD U → Type
  | .one d => d.den
  | .many l => VDs l

def encRD : (d : RD U) → d.den → AV U
  | .one d, x => encVD d x
  | .many l, x => .tup (encVDs l x)

def decRD : (d : RD U) → AV U → Option d.den
  | .one d, v => matchVD [] d v
  | .many l, .tup vs => matchVDs [] l vs
  | _, _ => none

def VD.flat : VD U → Bool
  | .ty t => U.isAgg t && flatSh (U.shape t)
  | .cell c => flatC c
  | _ => false

def flatVDs : List (VD U) → Bool
  | [] => true
  | d :: l => d.flat && flatVDs l

def RD.flat : RD U → Bool
  | .one d => d.flat
  | .many l => flatVDs l

theorem VD.flat_ok {d : VD U} (h : d.flat = true) (x : d.den) : flatV (encVD d x) = true := by
  cases d with
  | ty t =>
    have h : (U.isAgg t && flatSh (U.shape t)) = true := h
    rw [Bool.and_eq_true] at h
    show flatV (encV t x) = true
    unfold encV
    rw [h.1]
    exact flatSh_ok h.2 _
  | cell c => exact flatC_ok h x
  | _ => cases h

theorem flatVDs_ok : ∀ {l : List (VD U)} (_ : flatVDs l = true) (x : VDs l), flatL (encVDs l x) = true
  | [], _, _ => rfl
  | d :: l, h, x => by
    unfold flatVDs at h
    rw [Bool.and_eq_true] at h
    unfold encVDs flatL
    rw [VD.flat_ok h.1, flatVDs_ok h.2]; rfl

theorem RD.flat_ok {d : RD U} (h : d.flat = true) (x : d.den) : flatV (encRD d x) = true := by
  cases d with
  | one d => exact VD.flat_ok h x
  | many l => exact flatVDs_ok h x

/-- a function on typed data -/
def conOf (ds : List (VD U)) (rd : RD U) (f : VDs ds → Option rd.den) : Con U :=
  { β := rd.den, app := fun args => match matchVDs [] ds args with
      | some x => f x
      | none => none, ret := encRD rd, flat := rd.flat }

def VD.typed : VD U → Bool
  | .ty _ | .cell _ | .fnt _ _ => true
  | _ => false

def typedL : List (VD U) → Bool
  | [] => true
  | d :: l => d.typed && typedL l

def RD.typed : RD U → Bool
  | .one d => d.typed
  | .many l => typedL l

theorem encVD_refs {d : VD U} (h : d.typed = true) (x : d.den) : refs (encVD d x) = [] := by
  cases d with
  | ty t => exact encV_refs t x
  | cell c => exact encC_refs c x
  | fnt g l =>
    show refs (.fn (.func g) [] (encFPs l x)) = []
    have : ∀ (l : List (U.T × Nat)) (x : FPs l), refsL (encFPs l x) = [] := by
      intro l
      induction l with
      | nil => intro x; rfl
      | cons d l ih =>
        intro x
        unfold encFPs refsL
        rw [ih x.2, List.append_nil]
        exact refsL_of fun j c hc => refs_enc _ _ j c hc
    exact this l x
  | _ => cases h

theorem encVDs_refs : ∀ {l : List (VD U)} (_ : typedL l = true) (x : VDs l), refsL (encVDs l x) = []
  | [], _, _ => rfl
  | d :: l, h, x => by
    unfold typedL at h
    rw [Bool.and_eq_true] at h
    unfold encVDs refsL
    rw [encVD_refs h.1, encVDs_refs h.2]; rfl

theorem encRD_refs {d : RD U} (h : d.typed = true) (x : d.den) : refs (encRD d x) = [] := by
  cases d with
  | one d => exact encVD_refs h x
  | many l => exact encVDs_refs h x

/-- the end of a body: its results as frozen data -/
def endK (rd : RD U) (v : AV U) (H : Heap U) : Option rd.den := match frz H v with
  | some v => decRD rd v
  | none => none

theorem pull_nil_rel {e : En} {v : AV U} {c : Value} (h : Rel (e.pull []) v c) (hr : refs v = []) : Rel e v c := h.still (e := e.pull []) (e' := e) (fun _ h => h) (fun _ _ => rfl) hr

theorem decRD_rel {rd : RD U} (ht : rd.typed = true) {v : AV U} {x : rd.den} (h : decRD rd v = some x) {e : En} {c : Value} (hr : Rel e v c) : Rel e (encRD rd x) c := by
  cases rd with
  | one d => exact pull_nil_rel (matchVD_rel (show matchVD [] d v = some x from h) hr) (encRD_refs (d := .one d) ht x)
  | many l =>
    cases v with
    | tup vs =>
      have h : matchVDs [] l vs = some x := h
      obtain ⟨va, rfl, hl⟩ := hr.tup_inv
      obtain ⟨h1, h2⟩ := matchVDs_rel (e := e) h
      refine Rel.of_tup ⟨h1.trans hl.1, fun j y u hy hu => ?_⟩
      obtain ⟨v, g1, g2⟩ := h2 j y hy
      exact pull_nil_rel (g2 u (hl.2 j v u g1 hu)) (refsL_mem (encVDs_refs ht x) j y hy)
    | _ => cases h

/-- a call, out of its run -/
theorem call_of_run (hG : EnvOK P G) (hC : CutsOK P G) (hm : P.follows .mixedOrders = true) {f : FuncId} {fn : Func} {body : Code} (hf : P.funcs[f]? = some fn) (hb : fn.body = some body)
    {rd : RD U} (hrd : rd.typed = true) {n : Nat} (hGf : G.fn f = some fn) {args : List (AV U)} {r : rd.den} (h : run G n f args [] (endK rd) = some r) : CallOK P f args (encRD rd r) := by
  unfold run at h
  rw [hGf] at h
  dsimp only at h
  rw [hb] at h
  dsimp only at h
  obtain ⟨ex, st', h1, h2, h3⟩ := exec_sound hG hC hm n f body _ _ _ ⟨fn, body, hf, hb, fun b hb => hb⟩ h
  have fin : (∀ j, ex ≠ .exit j) → resultsK G fn.results.toList st' (fun vs => endK rd (oneOrTup vs) st'.H) = some r → CallOK P f args (encRD rd r) := by
    intro hex hres
    obtain ⟨vs, hvs, hr⟩ := resultsK_sound hG _ st' _ r hres
    intro e cs hw hnone hargs Post hP
    refine body_calls hf hb hex h3 hr hw (fun k b hb => by simp [Heap.get] at hb) hargs (fun k _ => hnone k) (fun c e' hw' hE hv hh' hf' => ?_)
    unfold endK at hvs
    split at hvs
    case h_2 => cases hvs
    rename_i v hz
    have hv2 := frz_rel hh' hv v hz
    refine hP c e'.frozen (En.frozen_wf hw') ?_ (decRD_rel hrd hvs hv2)
    refine ⟨hE.size, fun b hb _ => hE.keep b hb (fun k o _ hk => absurd hk (by rw [hnone k]; simp)), hE.shape, fun k l hl => absurd hl (by rw [hnone k]; simp), fun k l hl => absurd hl (by rw [hnone k]; simp), fun k b o hk => (by cases hk), fun b hb => .inl (hE.iOld b hb), fun b hb => ?_, hE.io⟩
    rcases hb with hb | ⟨k, o, hk⟩
    · rcases hE.iNew b hb with h1 | h1 | ⟨k2, o2, _, h1⟩
      · exact .inl h1
      · exact .inr (.inl h1)
      · rw [hnone k2] at h1; cases h1
    · rcases hE.new k b o hk with h1 | h1 | ⟨k2, o2, _, h1⟩
      · rw [hnone k] at h1; cases h1
      · exact .inr (.inl h1)
      · rw [hnone k2] at h1; cases h1
  cases ex with
  | normal => exact fin (by simp) h1
  | ret => exact fin (by simp) h1
  | exit j => cases h1

theorem con_ok (hG : EnvOK P G) (hC : CutsOK P G) (hm : P.follows .mixedOrders = true) {f : FuncId} {fn : Func} {body : Code} (hf : P.funcs[f]? = some fn) (hb : fn.body = some body) (hname : (fn.name == "runtime.NumGoroutine") = false)
    {ds : List (VD U)} {rd : RD U} (hds : typedL ds = true) (hrd : rd.typed = true) {g : VDs ds → Option rd.den} {n : Nat} (hGf : G.fn f = some fn)
    (hs : ∀ x, run G n f (encVDs ds x) [] (endK rd) = g x) : ConOK P f (conOf ds rd g) := by
  refine ⟨fun args r h _ => ?_, fun _ _ _ _ h => (by cases h), fun _ _ _ h => (by cases h), fun r => encRD_refs hrd r, fun hh r => RD.flat_ok hh r, ⟨fn, hf, by rw [hb]; rfl, hname⟩⟩
  have h : (match matchVDs [] ds args with | some x => g x | none => none) = some r := h
  split at h
  case h_2 => cases h
  rename_i x hx
  rw [← hs x] at h
  intro e cs hw hnone hargs Post hP
  obtain ⟨g1, g2⟩ := matchVDs_rel (e := e) hx
  have hargs' : RelL e (encVDs ds x) cs.toList := ⟨g1.trans hargs.1, fun j y u hy hu => by
    obtain ⟨v, q1, q2⟩ := g2 j y hy
    exact pull_nil_rel (q2 u (hargs.2 j v u q1 hu)) (refsL_mem (encVDs_refs hds x) j y hy)⟩
  exact call_of_run hG hC hm hf hb hrd hGf h e cs hw hnone hargs' Post hP

/-- a slice is nil, or it is not -/
theorem fsl_split {e : En} {t : U.T} {xs : List (U.den t)} {c : Value} (h : Rel e (.fsl t xs) c) : (xs = [] ∧ Rel (U := U) e .nilsl c) ∨ Rel e (.nsl t xs) c := by
  cases h with
  | @fslE _ a cap ha =>
    cases a with
    | none => rw [ha rfl]; exact .inl ⟨rfl, .nilsl⟩
    | some a => exact .inr (.nsl (.fslE ha))
  | fsl h1 h2 h3 h4 => exact .inr (.nsl (.fsl h1 h2 h3 h4))

/-- a function of one slice that may ask whether it is nil -/
theorem con_nil_ok (hG : EnvOK P G) (hC : CutsOK P G) (hm : P.follows .mixedOrders = true) {f : FuncId} {fn : Func} {body : Code} (hf : P.funcs[f]? = some fn) (hb : fn.body = some body) (hname : (fn.name == "runtime.NumGoroutine") = false)
    {t : U.T} {rd : RD U} (hrd : rd.typed = true) {g : List (U.den t) → Option rd.den} {n : Nat} (hGf : G.fn f = some fn)
    (hs1 : run G n f [.nilsl] [] (endK rd) = g []) (hs2 : ∀ xs, run G n f [.nsl t xs] [] (endK rd) = g xs) : ConOK P f (conOf [.cell (.sl t)] rd (fun x => g x.1)) := by
  refine ⟨fun args r h _ => ?_, fun _ _ _ _ h => (by cases h), fun _ _ _ h => (by cases h), fun r => encRD_refs hrd r, fun hh r => RD.flat_ok hh r, ⟨fn, hf, by rw [hb]; rfl, hname⟩⟩
  unfold conOf at h
  dsimp only at h
  split at h
  case h_2 => cases h
  rename_i x hx
  have h : g x.1 = some r := h
  intro e cs hw hnone hargs Post hP
  obtain ⟨g1, g2⟩ := matchVDs_rel (e := e) hx
  have hargs' : RelL e (encVDs [VD.cell (.sl t)] x) cs.toList := ⟨g1.trans hargs.1, fun j y u hy hu => by
    obtain ⟨v, q1, q2⟩ := g2 j y hy
    exact pull_nil_rel (q2 u (hargs.2 j v u q1 hu)) (refsL_mem (encVDs_refs (l := [VD.cell (.sl t)]) rfl x) j y hy)⟩
  obtain ⟨xs, hxs⟩ : ∃ xs : List (U.den t), xs = x.1 := ⟨_, rfl⟩
  have h : g xs = some r := by rw [hxs]; exact h
  have hargs2 : RelL e [.fsl t xs] cs.toList := by rw [hxs]; exact hargs'
  obtain ⟨c, rest, hc, h1, h2⟩ := hargs2.cons_inv
  rcases fsl_split h1 with ⟨h3, h4⟩ | h4
  · rw [h3, ← hs1] at h
    exact call_of_run hG hC hm hf hb hrd hGf h e cs hw hnone (by rw [hc]; exact RelL.cons h4 h2) Post hP
  · rw [← hs2] at h
    exact call_of_run hG hC hm hf hb hrd hGf h e cs hw hnone (by rw [hc]; exact RelL.cons h4 h2) Post hP

end Am
