/- Environments: tables as search trees, lists of contracts and loops; their checks. -/
import Derived.Test.YtlogoccciaopnaaGreatDoorAmE2
namespace Am
open Go
variable {U : TyU} {P : Program}

inductive Tr (α : Type) where
  | leaf
  | node (k : Nat) (v : α) (l r : Tr α)

def Tr.get {α : Type} : Tr α → Nat → Option α
  | .leaf, _ => none
  | .node k v l r, n => match Nat.beq n k with
    | true => some v
    | false => match Nat.ble n k with
      | true => l.get n
      | false => r.get n

def Tr.all {α : Type} (p : Nat → α → Bool) : Tr α → Bool
  | .leaf => true
  | .node k v l r => p k v && l.all p && r.all p

theorem Tr.all_get {α : Type} {p : Nat → α → Bool} : ∀ {t : Tr α}, t.all p = true → ∀ {n : Nat} {v : α}, t.get n = some v → p n v = true
  | .leaf, _, n, v, h => by simp [Tr.get] at h
  | .node k w l r, ha, n, v, h => by
    unfold Tr.all at ha
    simp only [Bool.and_eq_true] at ha
    unfold Tr.get at h
    split at h
    · rename_i hk
      cases h
      rw [Nat.eq_of_beq_eq_true hk]; exact ha.1.1
    · split at h
      · exact all_get ha.1.2 h
      · exact all_get ha.2 h

def Tr.AllP {α : Type} (p : Nat → α → Prop) : Tr α → Prop
  | .leaf => True
  | .node k v l r => p k v ∧ l.AllP p ∧ r.AllP p

theorem Tr.allP_get {α : Type} {p : Nat → α → Prop} : ∀ {t : Tr α}, t.AllP p → ∀ {n : Nat} {v : α}, t.get n = some v → p n v
  | .leaf, _, n, v, h => by simp [Tr.get] at h
  | .node k w l r, ha, n, v, h => by
    unfold Tr.get at h
    split at h
    · rename_i hk
      cases h
      rw [Nat.eq_of_beq_eq_true hk]; exact ha.1
    · split at h
      · exact allP_get ha.2.1 h
      · exact allP_get ha.2.2 h

/-! ## The table of types -/
/-- the same value -/
def vEq : AV U → Value → Bool
  | .int k n, .int k' m => IntKind.same k k' && (n == m)
  | .bool b, .bool c => b == c
  | .str [], .string s => s.data.toList.isEmpty
  | .nilp, .pointer none => true
  | .nilsl, .slice none 0 0 => true
  | .nilmap, .map none => true
  | .nilfn, .nilFunc => true
  | .nilif, .nilIface => true
  | _, _ => false

theorem vEq_spec {x : AV U} {v : Value} (h : vEq x v = true) : x = ofVal v := by
  unfold vEq at h
  split at h
  · rw [Bool.and_eq_true] at h
    have h1 := IntKind.same_eq h.1
    have h2 := eq_of_beq h.2
    subst h1; subst h2; rfl
  · have := eq_of_beq h; subst this; rfl
  · rename_i s
    have : s.data.toList = [] := by simpa [List.isEmpty_iff] using h
    simp [ofVal, this]
  · rfl
  · rfl
  · rfl
  · rfl
  · rfl
  · cases h

def vsEq : List (AV U) → List Value → Bool
  | [], [] => true
  | x :: l, v :: r => vEq x v && vsEq l r
  | _, _ => false

theorem vsEq_spec : ∀ {l : List (AV U)} {r : List Value}, vsEq l r = true → l = r.map ofVal
  | [], [], _ => rfl
  | [], _ :: _, h => by simp [vsEq] at h
  | _ :: _, [], h => by simp [vsEq] at h
  | x :: l, v :: r, h => by
    unfold vsEq at h
    rw [Bool.and_eq_true] at h
    rw [vEq_spec h.1, vsEq_spec h.2]; rfl

def pairsEq : List (Nat × TypeId) → List (Nat × TypeId) → Bool
  | [], [] => true
  | (a, b) :: l, (c, d) :: r => Nat.beq a c && Nat.beq b d && pairsEq l r
  | _, _ => false

theorem pairsEq_spec : ∀ {l r : List (Nat × TypeId)}, pairsEq l r = true → l = r
  | [], [], _ => rfl
  | [], _ :: _, h => by simp [pairsEq] at h
  | _ :: _, [], h => by simp [pairsEq] at h
  | (a, b) :: l, (c, d) :: r, h => by
    unfold pairsEq at h
    simp only [Bool.and_eq_true] at h
    rw [Nat.eq_of_beq_eq_true h.1.1, pairsEq_spec h.2, show b = d from Nat.eq_of_beq_eq_true h.1.2]

def tkOk : TypeDesc → TK → Bool
  | .int k, .int k' => IntKind.same k k'
  | .bool, .bool => true
  | .string, .str => true
  | .struct fs, .struct l => pairsEq (fs.toList.map fun f => (f.offset, f.type)) l
  | .array n e, .array n' e' => Nat.beq n n' && Nat.beq e e'
  | .slice e, .slice e' => Nat.beq e e'
  | .map k v, .map k' v' => Nat.beq k k' && Nat.beq v v'
  | .pointer e, .ptr e' => Nat.beq e e'
  | .func _ _ _, .func => true
  | .interface _, .iface => true
  | _, _ => false

theorem tkOk_spec {d : TypeDesc} {k : TK} (h : tkOk d k = true) : TKok d k := by
  unfold tkOk at h
  split at h
  · exact IntKind.same_eq h
  · trivial
  · trivial
  · exact pairsEq_spec h
  · rw [Bool.and_eq_true] at h; exact ⟨Nat.eq_of_beq_eq_true h.1, Nat.eq_of_beq_eq_true h.2⟩
  · exact Nat.eq_of_beq_eq_true h
  · rw [Bool.and_eq_true] at h; exact ⟨Nat.eq_of_beq_eq_true h.1, Nat.eq_of_beq_eq_true h.2⟩
  · exact Nat.eq_of_beq_eq_true h
  · trivial
  · trivial
  · cases h

def isAggV : Value → Bool
  | .agg _ => true
  | _ => false

def tiOk (P : Program) (t : TypeId) (i : TI U) : Bool := match P.info? t, P.underlying t with
  | some inf, some d => match inf.zero with
    | some z => Nat.beq inf.size i.size && Nat.beq inf.bytes i.bytes && vsEq i.zero z.cells.toList && Nat.beq i.zero.length i.size && okCells i.zero && tkOk d i.tk &&
      (match i.ty with | some c => (U.isAgg c == i.tk.isAgg) && Nat.beq (U.shape c).length i.size | none => true) && (i.tk.isAgg || Nat.beq i.size 1) && (isAggV z == i.tk.isAgg)
    | none => false
  | _, _ => false

theorem tiOk_spec {t : TypeId} {i : TI U} (h : tiOk P t i = true) : TIok P t i := by
  unfold tiOk at h
  split at h
  case h_2 => cases h
  rename_i inf d hi hu
  split at h
  case h_2 => cases h
  rename_i z hz
  simp only [Bool.and_eq_true] at h
  obtain ⟨⟨⟨⟨⟨⟨⟨⟨h1, h2⟩, h3⟩, h4⟩, h5⟩, h6⟩, h7⟩, h8⟩, h9⟩ := h
  refine ⟨⟨inf, hi, Nat.eq_of_beq_eq_true h1, Nat.eq_of_beq_eq_true h2, z, hz, vsEq_spec h3, Nat.eq_of_beq_eq_true h4, h5⟩, ⟨d, hu, tkOk_spec h6⟩, fun c hc => ?_, fun hk => ?_, inf, z, hi, hz, fun hk => ?_, fun hk => ?_⟩
  · rw [hc] at h7
    simp only [Bool.and_eq_true] at h7
    exact ⟨eq_of_beq h7.1, Nat.eq_of_beq_eq_true h7.2⟩
  · rw [hk] at h8
    exact Nat.eq_of_beq_eq_true (by simpa using h8)
  · rw [hk] at h9
    cases z <;> first | exact ⟨_, rfl⟩ | (simp [isAggV] at h9)
  · rw [hk] at h9
    intro va hva
    rw [hva] at h9
    simp [isAggV] at h9

def fkEq : List FK → List FK → Bool
  | [], [] => true
  | .i :: l, .i :: r => fkEq l r
  | .s :: l, .s :: r => fkEq l r
  | .b :: l, .b :: r => fkEq l r
  | _, _ => false

theorem fkEq_spec : ∀ {l r : List FK}, fkEq l r = true → l = r
  | [], [], _ => rfl
  | [], _ :: _, h => by simp [fkEq] at h
  | a :: l, [], h => by cases a <;> simp [fkEq] at h
  | a :: l, q :: r, h => by
    cases a <;> cases q <;> simp only [fkEq] at h <;> first | (cases h; done) | rw [fkEq_spec h]

def flatOk (P : Program) (t : TypeId) (i : TI U) : Bool := match i.flat with
  | [] => true
  | l => !P.eqGuardType P.depth t && i.tk.isAgg && (match flatKs P 40 t with | some l' => fkEq l' l | none => false)

theorem flatOk_spec {t : TypeId} {i : TI U} (h : flatOk P t i = true) (hn : i.flat ≠ []) : P.eqGuardType P.depth t = false ∧ i.tk.isAgg = true ∧ ∃ n k, n + k = 10000 ∧ flatKs P n t = some i.flat := by
  unfold flatOk at h
  split at h
  · rename_i hf; exact absurd hf hn
  · simp only [Bool.and_eq_true, Bool.not_eq_true'] at h
    obtain ⟨⟨h1, h2⟩, h3⟩ := h
    refine ⟨h1, h2, 40, 9960, rfl, ?_⟩
    split at h3
    · rename_i l' hl
      rw [hl, fkEq_spec h3]
    · cases h3

/-! ## The environment -/
def lookC : List (Nat × Con U) → Nat → Option (Con U)
  | [], _ => none
  | (k, C) :: l, n => match Nat.beq n k with
    | true => some C
    | false => lookC l n

def lookL2 : List (Nat × Nat × Cut U) → Nat → Nat → List (Cut U)
  | [], _, _ => []
  | (f, id, C) :: l, g, jd => match Nat.beq g f && Nat.beq jd id with
    | true => C :: lookL2 l g jd
    | false => lookL2 l g jd

def mkEnv (ti : Tr (TI U)) (fn : Tr Func) (cons : List (Nat × Con U)) (cuts : List (Nat × Nat × Cut U)) : Env U := { ti := ti.get, fn := fn.get, con := lookC cons, cuts := lookL2 cuts }

def ConsOK (P : Program) : List (Nat × Con U) → Prop
  | [] => True
  | (f, C) :: l => ConOK P f C ∧ ConsOK P l

theorem lookC_ok : ∀ {l : List (Nat × Con U)}, ConsOK P l → ∀ {f : Nat} {C : Con U}, lookC l f = some C → ConOK P f C
  | [], _, f, C, h => by simp [lookC] at h
  | (k, D) :: l, hl, f, C, h => by
    unfold lookC at h
    split at h
    · rename_i hk
      cases h
      rw [Nat.eq_of_beq_eq_true hk]; exact hl.1
    · exact lookC_ok hl.2 h

def FnOK (P : Program) (f : Nat) (fn : Func) : Prop := P.funcs[f]? = some fn ∧ (fn.name == "runtime.NumGoroutine") = false

theorem mkEnv_ok {ti : Tr (TI U)} {fn : Tr Func} {cons : List (Nat × Con U)} {cuts : List (Nat × Nat × Cut U)} (h1 : ti.all (tiOk P) = true) (h2 : ti.all (flatOk P) = true) (h3 : fn.AllP (FnOK P)) (h4 : ConsOK P cons) : EnvOK P (mkEnv ti fn cons cuts) where
  ti := fun t i h => tiOk_spec (ti.all_get h1 h)
  flat := fun t i h hn => flatOk_spec (ti.all_get h2 h) hn
  con := fun f C h => lookC_ok h4 h
  fn := fun f g h => fn.allP_get h3 h
  proc := fun f p h => by cases h
  spec := fun f s h => by cases h

/-- with functions that turn their rows -/
def Env.withProc (G : Env U) (proc : FuncId → Option (Proc U)) : Env U := { G with proc := proc }

theorem EnvOK.withProc {G : Env U} (h : EnvOK P G) {proc : FuncId → Option (Proc U)} (hp : ∀ f p, proc f = some p → ProcOK P f p) : EnvOK P (G.withProc proc) where
  ti := h.ti
  flat := h.flat
  con := h.con
  fn := h.fn
  proc := hp
  spec := h.spec

/-- with a type of builders -/
def Env.withBld (G : Env U) (b : TypeId → Bool) : Env U := { G with isBld := b }

theorem EnvOK.withBld {G : Env U} (h : EnvOK P G) (b : TypeId → Bool) : EnvOK P (G.withBld b) where
  ti := h.ti
  flat := h.flat
  con := h.con
  fn := h.fn
  proc := h.proc
  spec := h.spec

/-- with functions that are not run -/
def Env.withSpec (G : Env U) (spec : FuncId → Option (List (AV U) → Heap U → Option (AV U × Heap U))) : Env U := { G with spec := spec }

theorem EnvOK.withSpec {G : Env U} (h : EnvOK P G) {spec : FuncId → Option (List (AV U) → Heap U → Option (AV U × Heap U))} (hp : ∀ f s, spec f = some s → SpecOK P f s) : EnvOK P (G.withSpec spec) where
  ti := h.ti
  flat := h.flat
  con := h.con
  fn := h.fn
  proc := h.proc
  spec := hp

def CutAt (P : Program) (f id : Nat) (C : Cut U) : Prop := ∀ (fn : Func) (c : Code), P.funcs[f]? = some fn → fn.body = some c → ∀ body ∈ loops c, (firstRegion body).getD 0 = id → CutOK P body C

def CutsAt (P : Program) : List (Nat × Nat × Cut U) → Prop
  | [] => True
  | (f, id, C) :: l => CutAt P f id C ∧ CutsAt P l

theorem lookL2_mem : ∀ {l : List (Nat × Nat × Cut U)}, CutsAt P l → ∀ {f id : Nat} {C : Cut U}, C ∈ lookL2 l f id → CutAt P f id C
  | [], _, f, id, C, h => by simp [lookL2] at h
  | (g, jd, D) :: l, hl, f, id, C, h => by
    unfold lookL2 at h
    split at h
    · rename_i hk
      rw [Bool.and_eq_true] at hk
      rcases List.mem_cons.1 h with rfl | h
      · rw [Nat.eq_of_beq_eq_true hk.1, Nat.eq_of_beq_eq_true hk.2]; exact hl.1
      · exact lookL2_mem hl.2 h
    · exact lookL2_mem hl.2 h

theorem mkEnv_cuts {ti : Tr (TI U)} {fn : Tr Func} {cons : List (Nat × Con U)} {cuts : List (Nat × Nat × Cut U)} (h : CutsAt P cuts) : CutsOK P (mkEnv ti fn cons cuts) :=
  fun _ g c hf hb body hbody _ hC => lookL2_mem h hC g c hf hb body hbody rfl

/-- a loop of a function, by the number of its first region -/
def loopsAt (fn : Func) (id : Nat) : List Code := match fn.body with
  | some c => (loops c).filter fun b => Nat.beq ((firstRegion b).getD 0) id
  | none => []

def loopAt (fn : Func) (id : Nat) : Code := (loopsAt fn id).headD .skip

theorem loops_trans : ∀ {c body : Code}, body ∈ loops c → ∀ b ∈ loops body, b ∈ loops c := by
  intro c
  induction c with
  | seq a b iha ihb =>
    intro body h x hx
    simp only [loops, List.mem_append] at h ⊢
    exact h.imp (fun h => iha h x hx) (fun h => ihb h x hx)
  | cond o a b iha ihb =>
    intro body h x hx
    simp only [loops, List.mem_append] at h ⊢
    exact h.imp (fun h => iha h x hx) (fun h => ihb h x hx)
  | block id a iha => intro body h x hx; simp only [loops] at h ⊢; exact iha h x hx
  | loop a iha =>
    intro body h x hx
    simp only [loops, List.mem_cons] at h ⊢
    rcases h with rfl | h
    · exact .inr hx
    · exact .inr (iha h x hx)
  | scope a iha => intro body h x hx; simp only [loops] at h ⊢; exact iha h x hx
  | _ => intro body h; simp [loops] at h

theorem one_mem {α : Type} {l : List α} {d : α} (h : l.length = 1) : ∀ x ∈ l, x = l.headD d := by
  match l, h with
  | [a], _ => intro x hx; simpa using hx

theorem cutAt_of {f id : Nat} {fn : Func} {C : Cut U} (hf : P.funcs[f]? = some fn) (h1 : (loopsAt fn id).length = 1) (h : CutOK P (loopAt fn id) C) : CutAt P f id C := by
  intro fn' c hf' hb body hbody hid
  rw [hf] at hf'
  cases hf'
  have : body ∈ loopsAt fn id := by
    unfold loopsAt
    rw [hb]
    exact List.mem_filter.2 ⟨hbody, by rw [hid]; exact Nat.beq_refl id⟩
  rw [one_mem (d := .skip) h1 body this]
  exact h

theorem within_loop {f id : Nat} {fn : Func} (hf : P.funcs[f]? = some fn) (h1 : (loopsAt fn id).length = 1) : Within P f (loopAt fn id) := by
  cases hb : fn.body with
  | none => unfold loopsAt at h1; rw [hb] at h1; cases h1
  | some c =>
    refine ⟨fn, c, hf, hb, fun b hbb => ?_⟩
    have hm : loopAt fn id ∈ loopsAt fn id := by
      unfold loopAt
      match hl : loopsAt fn id, h1 with
      | [a], _ => simp
    have hm2 : loopAt fn id ∈ loops c := by
      have : loopAt fn id ∈ (loops c).filter fun b => Nat.beq ((firstRegion b).getD 0) id := by
        have := hm
        unfold loopsAt at this
        rw [hb] at this
        exact this
      exact (List.mem_filter.1 this).1
    exact loops_trans hm2 b hbb

end Am
