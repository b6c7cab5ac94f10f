/- Contracts of functions that may ask whether slices inside their arguments are nil. -/
import Derived.Test.YtlogoccciaopnaaGreatDoorAmE2
namespace Am
open Go
variable {U : TyU} {R : Type} {P : Program} {G : Env U}

/-- the slice in cell 'j' of argument 'i', said to be nil, or said not to be -/
def altA : List (Nat × Nat × Bool) → List (AV U) → List (AV U)
  | [], a => a
  | (i, j, b) :: r, a => altA r (match a[i]? with
    | some (.agg l) => match l[j]? with
      | some (.fsl t xs) => a.set i (.agg (l.set j (match b with | true => .nilsl | false => .nsl t xs)))
      | _ => a
    | _ => a)

/-- where a slice is said to be nil, it holds nothing -/
def altOk : List (Nat × Nat × Bool) → List (AV U) → Prop
  | [], _ => True
  | (i, j, b) :: r, a => (b = true → ∀ l t xs, a[i]? = some (.agg l) → l[j]? = some (.fsl t xs) → xs = []) ∧ altOk r (altA [(i, j, b)] a)

def flags : List (Nat × Nat) → List Bool → List (Nat × Nat × Bool)
  | (i, j) :: r, b :: bs => (i, j, b) :: flags r bs
  | _, _ => []

theorem RelL.set {e : En} {l : List (AV U)} {vs : List Value} (h : RelL e l vs) {i : Nat} {x : AV U} (hx : ∀ v, vs[i]? = some v → Rel e x v) : RelL e (l.set i x) vs := by
  refine ⟨by rw [List.length_set]; exact h.1, fun j y v hy hv => ?_⟩
  rw [List.getElem?_set] at hy
  split at hy
  · rename_i hij
    subst hij
    split at hy
    · cases hy; exact hx v hv
    · cases hy
  · exact h.2 j y v hy hv

theorem alts_rel {e : En} : ∀ (ps : List (Nat × Nat)) (a : List (AV U)) (vs : List Value), RelL e a vs → ∃ bs : List Bool, bs.length = ps.length ∧ altOk (flags ps bs) a ∧ RelL e (altA (flags ps bs) a) vs
  | [], a, vs, h => ⟨[], rfl, trivial, h⟩
  | (i, j) :: r, a, vs, h => by
    have go : ∀ (b : Bool), (b = true → ∀ l t xs, a[i]? = some (.agg l) → l[j]? = some (.fsl t xs) → xs = []) → RelL e (altA [(i, j, b)] a) vs →
        ∃ bs : List Bool, bs.length = ((i, j) :: r).length ∧ altOk (flags ((i, j) :: r) bs) a ∧ RelL e (altA (flags ((i, j) :: r) bs) a) vs := fun b hb hr => by
      obtain ⟨bs, h1, h2, h3⟩ := alts_rel r _ vs hr
      exact ⟨b :: bs, by simp [h1], ⟨hb, h2⟩, h3⟩
    cases ha : a[i]? with
    | none => exact go false (by simp) (by unfold altA altA; rw [ha]; exact h)
    | some v =>
      cases v with
      | agg l =>
        cases hl : l[j]? with
        | none => exact go false (by simp) (by unfold altA altA; rw [ha]; dsimp only; rw [hl]; exact h)
        | some c =>
          cases c with
          | fsl t xs =>
            have hi : i < vs.length := by rw [← h.1]; exact (List.getElem?_eq_some_iff.1 ha).1
            have hv := h.2 i _ vs[i] ha (by simp [hi])
            obtain ⟨va, hva, hla⟩ := hv.agg_inv
            have hj : j < va.size := by have := hla.1; simp at this; rw [← this]; exact (List.getElem?_eq_some_iff.1 hl).1
            have hc := hla.2 j _ va[j] hl (by simp [hj])
            rcases fsl_split hc with ⟨h1, h2⟩ | h2
            · refine go true (fun _ l' t' xs' e1 e2 => ?_) ?_
              · rw [ha] at e1; cases e1; rw [hl] at e2; cases e2; exact h1
              · unfold altA altA; rw [ha]; dsimp only; rw [hl]
                refine h.set fun v hv' => ?_
                have : v = vs[i] := by simp [hi] at hv'; exact hv'.symm
                rw [this, hva]
                exact Rel.of_agg (hla.set fun w hw => by
                  have : w = va[j] := by simp [hj] at hw; exact hw.symm
                  rw [this]; exact h2)
            · refine go false (by simp) ?_
              unfold altA altA; rw [ha]; dsimp only; rw [hl]
              refine h.set fun v hv' => ?_
              have : v = vs[i] := by simp [hi] at hv'; exact hv'.symm
              rw [this, hva]
              exact Rel.of_agg (hla.set fun w hw => by
                have : w = va[j] := by simp [hj] at hw; exact hw.symm
                rw [this]; exact h2)
          | _ => exact go false (by simp) (by unfold altA altA; rw [ha]; dsimp only; rw [hl]; exact h)
      | _ => exact go false (by simp) (by unfold altA altA; rw [ha]; exact h)

/-- a function of typed data that may ask whether some slices in its arguments are nil -/
theorem con_alts_ok (hG : EnvOK P G) (hC : CutsOK P G) (hm : P.follows .mixedOrders = true) {f : FuncId} {fn : Func} {body : Code} (hf : P.funcs[f]? = some fn) (hb : fn.body = some body) (hname : (fn.name == "runtime.NumGoroutine") = false)
    {ds : List (VD U)} {rd : RD U} (hds : typedL ds = true) (hrd : rd.typed = true) {g : VDs ds → Option rd.den} {n : Nat} (hGf : G.fn f = some fn) (ps : List (Nat × Nat))
    (hs : ∀ (bs : List Bool) x r, bs.length = ps.length → altOk (flags ps bs) (encVDs ds x) → g x = some r → run G n f (altA (flags ps bs) (encVDs ds x)) [] (endK rd) = some r) : ConOK P f (conOf ds rd g) := by
  refine ⟨fun args r h _ => ?_, fun _ _ _ _ h => (by cases h), fun _ _ _ h => (by cases h), fun r => encRD_refs hrd r, fun hh r => RD.flat_ok hh r, ⟨fn, hf, by rw [hb]; rfl, hname⟩⟩
  have h : (match matchVDs [] ds args with | some x => g x | none => none) = some r := h
  split at h
  case h_2 => cases h
  rename_i x hx
  intro e cs hw hnone hargs Post hP
  obtain ⟨g1, g2⟩ := matchVDs_rel (e := e) hx
  have hargs' : RelL e (encVDs ds x) cs.toList := ⟨g1.trans hargs.1, fun j y u hy hu => by
    obtain ⟨v, q1, q2⟩ := g2 j y hy
    exact pull_nil_rel (q2 u (hargs.2 j v u q1 hu)) (refsL_mem (encVDs_refs hds x) j y hy)⟩
  obtain ⟨bs, h1, h2, h3⟩ := alts_rel ps _ _ hargs'
  exact call_of_run hG hC hm hf hb hrd hGf (hs bs x r h1 h2 h) e cs hw hnone h3 Post hP

/-! ## Rows that are lent -/
def VD.borrow : VD U → Bool
  | .bor _ => true
  | d => d.typed

def borrowL : List (VD U) → Bool
  | [] => true
  | d :: l => d.borrow && borrowL l

theorem borrow_pull {e : En} (hnone : ∀ k, e.m k = none) {d : VD U} (hd : d.borrow = true) {x : d.den} {c : Value} (h : Rel (e.pull []) (encVD d x) c) : Rel e (encVD d x) c := by
  by_cases ht : d.typed = true
  · exact pull_nil_rel h (encVD_refs ht x)
  · cases d <;> first | exact absurd hd ht | skip
    rename_i t
    have h : Rel (e.pull []) (.bsl t x) c := h
    show Rel e (.bsl t x) c
    cases h with
    | bslE => exact .bslE
    | bsl hq hl hc hr => exact .bsl ⟨hq.1, fun k o hm => by rw [hnone] at hm; cases hm⟩ hl hc (fun i y hy j z hz => pull_nil_rel (hr i y hy j z hz) (refs_enc _ _ j z hz))

theorem borrowL_pull {e : En} (hnone : ∀ k, e.m k = none) : ∀ {l : List (VD U)} (_ : borrowL l = true) {x : VDs l} (j : Nat) (y : AV U) (c : Value), (encVDs l x)[j]? = some y → Rel (e.pull []) y c → Rel e y c
  | [], _, _, j, y, c, hy, _ => by simp [encVDs] at hy
  | d :: l, hd, x, j, y, c, hy, h => by
    unfold borrowL at hd
    rw [Bool.and_eq_true] at hd
    unfold encVDs at hy
    cases j with
    | zero =>
      simp only [List.getElem?_cons_zero, Option.some.injEq] at hy
      subst hy
      exact borrow_pull hnone hd.1 h
    | succ j => exact borrowL_pull hnone hd.2 j y c (by simpa using hy) h

theorem con_bor_ok (hG : EnvOK P G) (hC : CutsOK P G) (hm : P.follows .mixedOrders = true) {f : FuncId} {fn : Func} {body : Code} (hf : P.funcs[f]? = some fn) (hb : fn.body = some body) (hname : (fn.name == "runtime.NumGoroutine") = false)
    {ds : List (VD U)} {rd : RD U} (hds : borrowL ds = true) (hrd : rd.typed = true) {g : VDs ds → Option rd.den} {n : Nat} (hGf : G.fn f = some fn)
    (hs : ∀ x, run G n f (encVDs ds x) [] (endK rd) = g x) : ConOK P f (conOf ds rd g) := by
  refine ⟨fun args r h _ => ?_, fun _ _ _ _ h => (by cases h), fun _ _ _ h => (by cases h), fun r => encRD_refs hrd r, fun hh r => RD.flat_ok hh r, ⟨fn, hf, by rw [hb]; rfl, hname⟩⟩
  have h : (match matchVDs [] ds args with | some x => g x | none => none) = some r := h
  split at h
  case h_2 => cases h
  rename_i x hx
  rw [← hs x] at h
  intro e cs hw hnone hargs Post hP
  obtain ⟨g1, g2⟩ := matchVDs_rel (e := e) hx
  have hargs' : RelL e (encVDs ds x) cs.toList := ⟨g1.trans hargs.1, fun j y u hy hu => by
    obtain ⟨v, q1, q2⟩ := g2 j y hy
    exact borrowL_pull hnone hds j y u hy (q2 u (hargs.2 j v u q1 hu))⟩
  exact call_of_run hG hC hm hf hb hrd hGf h e cs hw hnone hargs' Post hP

/-- a contract for two kinds of arguments -/
def conAlt (ds ds' : List (VD U)) (rd : RD U) (g : VDs ds → Option rd.den) (g' : VDs ds' → Option rd.den) : Con U :=
  { β := rd.den, app := fun args => match matchVDs [] ds args with
      | some x => g x
      | none => match matchVDs [] ds' args with
        | some x => g' x
        | none => none, ret := encRD rd, flat := rd.flat, bor := true }

theorem con_alt_ok {f : FuncId} {ds ds' : List (VD U)} {rd : RD U} {g : VDs ds → Option rd.den} {g' : VDs ds' → Option rd.den} (h1 : ConOK P f (conOf ds rd g)) (h2 : ConOK P f (conOf ds' rd g')) : ConOK P f (conAlt ds ds' rd g g') := by
  refine ⟨fun args r ha hn => ?_, fun _ _ _ _ h => (by cases h), fun _ _ _ h => (by cases h), h1.refs, h1.flat, h1.enters⟩
  have ha : (match matchVDs [] ds args with | some x => g x | none => match matchVDs [] ds' args with | some x => g' x | none => none) = some r := ha
  split at ha
  · rename_i x hx
    exact h1.call args r (show (match matchVDs [] ds args with | some x => g x | none => none) = some r by rw [hx]; exact ha) rfl
  · split at ha
    · rename_i x hx
      exact h2.call args r (show (match matchVDs [] ds' args with | some x => g' x | none => none) = some r by rw [hx]; exact ha) rfl
    · cases ha

/-! ## Results of their own -/
def endOwn (t : U.T) (v : AV U) (H : Heap U) : Option (List (U.den t)) := match v with
  | .nilsl => some []
  | .mrow k sz => match H.get k with
    | some (.row t' xs) => match U.deq t' t with
      | .isTrue h => match Nat.beq sz (U.shape t).length with
        | true => some (h ▸ xs)
        | false => none
      | .isFalse _ => none
    | _ => none
  | _ => none

/-- a function whose result is a row of its own (or nil) -/
def conOwn (ds : List (VD U)) (t : U.T) (f : VDs ds → Option (List (U.den t))) : Con U :=
  { β := List (U.den t), app := fun args => match matchVDs [] ds args with
      | some x => f x
      | none => none, ret := fun _ => .bool true, flat := flatSh (U.shape t), own := fun xs => some ⟨t, xs⟩ }

/-- the world behind a call, with one row known and no other block -/
def En.only (e : En) (k : Nat) (l : Option Loc) (n : Nat) : En := { w := e.w, m := fun j => if j = k then l else none, n := fun _ => n, I := e.I }

theorem own_of_run (hG : EnvOK P G) (hC : CutsOK P G) (hm : P.follows .mixedOrders = true) {f : FuncId} {fn : Func} {body : Code} (hf : P.funcs[f]? = some fn) (hb : fn.body = some body)
    {t : U.T} {n : Nat} (hGf : G.fn f = some fn) {args : List (AV U)} {xs : List (U.den t)} (h : run G n f args [] (endOwn t) = some xs) : CallOwn P f args t xs := by
  unfold run at h
  rw [hGf] at h
  dsimp only at h
  rw [hb] at h
  dsimp only at h
  obtain ⟨ex, st', h1, h2, h3⟩ := exec_sound hG hC hm n f body _ _ _ ⟨fn, body, hf, hb, fun b hb => hb⟩ h
  have fin : (∀ j, ex ≠ .exit j) → resultsK G fn.results.toList st' (fun vs => endOwn t (oneOrTup vs) st'.H) = some xs → CallOwn P f args t xs := by
    intro hex hres
    obtain ⟨vs, hvs, hr⟩ := resultsK_sound hG _ st' _ xs hres
    intro e cs hw hnone hargs Post hP
    refine body_calls hf hb hex h3 hr hw (fun k b hb => by simp [Heap.get] at hb) hargs (fun k _ => hnone k) (fun c e' hw' hE hv hh' hf' => ?_)
    have ev : ∀ (k : Nat) (l : Option Loc) (n : Nat), (∀ b o, l = some (.at b o) → e'.m k = some (.at b o)) → WF (e'.only k l n) ∧ Evo noD e (e'.only k l n) := by
      intro k l n hl
      have old : ∀ b o, l = some (.at b o) → e.w.heap.size ≤ b := fun b o hh => by
        rcases hE.new k b o (hl b o hh) with h1 | h1 | ⟨k2, o2, _, h1⟩
        · rw [hnone k] at h1; cases h1
        · exact h1
        · rw [hnone k2] at h1; cases h1
      refine ⟨⟨hw'.iLt, fun j b o hh => ?_, fun j b o hh => ?_, fun j j' b o o' h1 h2 => ?_⟩, ⟨hE.size, fun b hb _ => hE.keep b hb (fun k o _ hk => absurd hk (by rw [hnone k]; simp)), hE.shape, fun k l hl => absurd hl (by rw [hnone k]; simp), fun k l hl => absurd hl (by rw [hnone k]; simp), fun j b o hh => ?_, hE.iOld, fun b hb => ?_, hE.io⟩⟩
      · simp only [En.only] at hh
        split at hh
        · exact hw'.mLt k b o (hl b o hh)
        · cases hh
      · simp only [En.only] at hh
        split at hh
        · exact hw'.mI k b o (hl b o hh)
        · cases hh
      · simp only [En.only] at h1 h2
        split at h1
        · split at h2
          · omega
          · cases h2
        · cases h1
      · simp only [En.only] at hh
        split at hh
        · exact .inr (.inl (old b o hh))
        · cases hh
      · rcases hE.iNew b hb with h1 | h1 | ⟨k2, o2, _, h1⟩
        · exact .inl h1
        · exact .inr (.inl h1)
        · rw [hnone k2] at h1; cases h1
    generalize oneOrTup vs = v at hv hvs
    cases v with
    | nilsl =>
      have hx : ([] : List (U.den t)) = xs := Option.some.inj hvs
      subst hx
      obtain ⟨g1, g2⟩ := ev 0 (some .virt) 0 (fun b o hh => by cases hh)
      cases hv
      exact hP _ (e'.only 0 (some .virt) 0) g1 g2 ⟨0, fun j hj => by simp [En.only, hj], .mrowE (l := .virt) (by simp [En.only]) rfl, rfl, .inl ⟨by simp [En.only], rfl⟩⟩
    | mrow k sz =>
      have hvs : (match st'.H.get k with
        | some (.row t' xs) => match U.deq t' t with
          | .isTrue h => match Nat.beq sz (U.shape t).length with
            | true => some (h ▸ xs)
            | false => none
          | .isFalse _ => none
        | _ => none) = some xs := hvs
      split at hvs
      case h_2 => cases hvs
      rename_i t' ys hg
      split at hvs
      case h_2 => cases hvs
      rename_i ht _
      subst ht
      split at hvs
      case h_2 => cases hvs
      rename_i hsz
      cases hvs
      have hsz := Nat.eq_of_beq_eq_true hsz
      subst hsz
      have hb' : BlkOK e' k (.row t' ys) := hh' k _ hg
      obtain ⟨g1, g2⟩ := ev k (e'.m k) (e'.n k) (fun b o hh => hh)
      have hmk : (e'.only k (e'.m k) (e'.n k)).m k = e'.m k := by simp [En.only]
      refine hP c (e'.only k (e'.m k) (e'.n k)) g1 g2 ⟨k, fun j hj => by simp [En.only, hj], ?_, hb'.1, ?_⟩
      · cases hv with
        | mrowDead hd =>
          rcases hb'.2 with ⟨q1, _⟩ | ⟨_, _, _, _, _, q1, _⟩ <;> rw [hd] at q1 <;> cases q1
        | mrowE hd h0 => exact .mrowE (by rw [hmk]; exact hd) h0
        | mrow hd hl hf => exact .mrow (e := e'.only k (e'.m k) (e'.n k)) (by rw [hmk]; exact hd) hl hf
      · rcases hb'.2 with ⟨q1, q2⟩ | ⟨b, ob, arr, el, fz, q1, q2, q3, q4, q5⟩
        · exact .inl ⟨by rw [hmk]; exact q1, q2⟩
        · refine .inr ⟨b, ob, arr, el, fz, by rw [hmk]; exact q1, q2, q3, q4, fun i x hx j y hy => ?_⟩
          obtain ⟨v, v1, v2⟩ := q5 i x hx j y hy
          exact ⟨v, v1, v2.still (e := e') (e' := e'.only k (e'.m k) (e'.n k)) (fun _ h => h) (fun _ _ => rfl) (refs_enc _ _ j y hy)⟩
    | _ => cases hvs
  cases ex with
  | normal => exact fin (by simp) h1
  | ret => exact fin (by simp) h1
  | exit j => cases h1

theorem own_nil_ok (hG : EnvOK P G) (hC : CutsOK P G) (hm : P.follows .mixedOrders = true) {f : FuncId} {fn : Func} {body : Code} (hf : P.funcs[f]? = some fn) (hb : fn.body = some body) (hname : (fn.name == "runtime.NumGoroutine") = false)
    {t t' : U.T} {g : List (U.den t) → Option (List (U.den t'))} {n : Nat} (hGf : G.fn f = some fn)
    (hs1 : run G n f [.nilsl] [] (endOwn t') = g []) (hs2 : ∀ xs, run G n f [.nsl t xs] [] (endOwn t') = g xs) : ConOK P f (conOwn [.cell (.sl t)] t' (fun x => g x.1)) := by
  refine ⟨fun _ _ _ h => (by cases h), fun args r o h ho => ?_, fun h _ o ho => (by cases ho; exact h), fun _ => rfl, fun _ _ => rfl, ⟨fn, hf, by rw [hb]; rfl, hname⟩⟩
  cases ho
  unfold conOwn at h
  dsimp only at h
  split at h
  case h_2 => cases h
  rename_i x hx
  have h : g x.1 = some r := h
  intro e cs hw hnone hargs Post hP
  obtain ⟨g1, g2⟩ := matchVDs_rel (e := e) hx
  have hargs' : RelL e (encVDs [VD.cell (.sl t)] x) cs.toList := ⟨g1.trans hargs.1, fun j y u hy hu => by
    obtain ⟨v, q1, q2⟩ := g2 j y hy
    exact pull_nil_rel (q2 u (hargs.2 j v u q1 hu)) (refsL_mem (encVDs_refs (l := [VD.cell (.sl t)]) rfl x) j y hy)⟩
  obtain ⟨xs, hxs⟩ : ∃ xs : List (U.den t), xs = x.1 := ⟨_, rfl⟩
  have h : g xs = some r := by rw [hxs]; exact h
  have hargs2 : RelL e [.fsl t xs] cs.toList := by rw [hxs]; exact hargs'
  obtain ⟨c, rest, hc, h1, h2⟩ := hargs2.cons_inv
  rcases fsl_split h1 with ⟨h3, h4⟩ | h4
  · rw [h3, ← hs1] at h
    exact own_of_run hG hC hm hf hb hGf h e cs hw hnone (by rw [hc]; exact RelL.cons h4 h2) Post hP
  · rw [← hs2] at h
    exact own_of_run hG hC hm hf hb hGf h e cs hw hnone (by rw [hc]; exact RelL.cons h4 h2) Post hP

/-- a function whose result is a row of its own -/
theorem own_ok (hG : EnvOK P G) (hC : CutsOK P G) (hm : P.follows .mixedOrders = true) {f : FuncId} {fn : Func} {body : Code} (hf : P.funcs[f]? = some fn) (hb : fn.body = some body) (hname : (fn.name == "runtime.NumGoroutine") = false)
    {ds : List (VD U)} {t : U.T} (hds : typedL ds = true) {g : VDs ds → Option (List (U.den t))} {n : Nat} (hGf : G.fn f = some fn)
    (hs : ∀ x, run G n f (encVDs ds x) [] (endOwn t) = g x) : ConOK P f (conOwn ds t g) := by
  refine ⟨fun _ _ _ h => (by cases h), fun args r o h ho => ?_, fun h _ o ho => (by cases ho; exact h), fun _ => rfl, fun _ _ => rfl, ⟨fn, hf, by rw [hb]; rfl, hname⟩⟩
  cases ho
  unfold conOwn at h
  dsimp only at h
  split at h
  case h_2 => cases h
  rename_i x hx
  have h : g x = some r := h
  rw [← hs x] at h
  intro e cs hw hnone hargs Post hP
  obtain ⟨g1, g2⟩ := matchVDs_rel (e := e) hx
  have hargs' : RelL e (encVDs ds x) cs.toList := ⟨g1.trans hargs.1, fun j y u hy hu => by
    obtain ⟨v, q1, q2⟩ := g2 j y hy
    exact pull_nil_rel (q2 u (hargs.2 j v u q1 hu)) (refsL_mem (encVDs_refs hds x) j y hy)⟩
  exact own_of_run hG hC hm hf hb hGf h e cs hw hnone hargs' Post hP

/-- a contract that says less -/
theorem con_weaken {f : FuncId} {ds : List (VD U)} {rd : RD U} {g g' : VDs ds → Option rd.den} (h : ConOK P f (conOf ds rd g)) (hg : ∀ x r, g' x = some r → g x = some r) : ConOK P f (conOf ds rd g') := by
  refine ⟨fun args r ha hn => ?_, fun _ _ _ _ hh => (by cases hh), fun _ _ _ hh => (by cases hh), h.refs, h.flat, h.enters⟩
  refine h.call args r ?_ rfl
  have ha : (match matchVDs [] ds args with | some x => g' x | none => none) = some r := ha
  show (match matchVDs [] ds args with | some x => g x | none => none) = some r
  split at ha
  · exact hg _ _ ha
  · cases ha

end Am
