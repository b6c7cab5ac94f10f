/- Arguments, read as typed data. -/
import Derived.Test.YtlogoccciaopnaaGreatDoorAmE3
import Derived.Test.YtlogoccciaopnaaGreatDoorAmF
import Derived.ChangeArms
import Derived.ChangeShapes
namespace Am
open Go
variable {U : TyU} {P : Program} {G : Env U}

/-- all lists and strings are of at most 'N' (a list's elements of type 't' weigh 'B t') -/
inductive SmallV (N : Nat) (B : U.T → Nat) : AV U → Prop where
  | int {k : IntKind} {n : Int} : SmallV N B (.int k n)
  | bool {b : Bool} : SmallV N B (.bool b)
  | str {s : List UInt8} : s.length ≤ N → SmallV N B (.str s)
  | fsl {t : U.T} {xs : List (U.den t)} : xs.length * B t ≤ N → (∀ x ∈ xs, ∀ c ∈ enc t x, SmallV N B c) → SmallV N B (.fsl t xs)

/-- what a bound on readings must give -/
structure SmallD {H : Type} (P : Program) (N : Nat) (W : TypeId → Nat) (S : TypeId → DataW H → Prop) : Prop where
  str : ∀ t bs, S t (.lit (.string bs)) → bs.length ≤ N
  slice : ∀ t e es sp, P.underlying t = some (.slice e) → S t (.slice es sp) → es.length * W e ≤ N ∧ ∀ d ∈ es, S e d
  struct : ∀ (t : TypeId) (fs : Array Field) (ps : List (DataW H)), P.underlying t = some (.struct fs) → S t (.agg ps) → ∀ (i : Nat) (f : Field) (d : DataW H), fs[i]? = some f → ps[i]? = some d → S f.type d
  array : ∀ (t : TypeId) (n : Nat) (e : TypeId) (ps : List (DataW H)), P.underlying t = some (.array n e) → S t (.agg ps) → ∀ d ∈ ps, S e d

/-! ## Shapes of types -/
def shapeFs (f : TypeId → Option (List (Cell U.T))) : List (Nat × TypeId) → Nat → Option (List (Cell U.T))
  | [], _ => some []
  | (off, t) :: r, o => match Nat.beq off o with
    | true => match f t with
      | some s => match shapeFs f r (o + s.length) with
        | some s' => some (s ++ s')
        | none => none
      | none => none
    | false => none

def arrayFs (sz : Nat) (e : TypeId) : Nat → Nat → List (Nat × TypeId)
  | 0, _ => []
  | m + 1, i => (i * sz, e) :: arrayFs sz e m (i + 1)

def sized (size : Nat) : Option (List (Cell U.T)) → Option (List (Cell U.T))
  | some s => match Nat.beq s.length size with
    | true => some s
    | false => none
  | none => none

def slOf (c : U.T) : Option (List (Cell U.T)) := match U.shape c with
  | [] => none
  | _ :: _ => some [.sl c]

def shapeTk (ti : TypeId → Option (TI U)) (f : TypeId → Option (List (Cell U.T))) : TK → Option (List (Cell U.T))
  | .int k => some [.int k]
  | .bool => some [.bool]
  | .str => some [.str]
  | .slice e => match ti e with
    | some i => match i.ty with
      | some c => slOf c
      | none => none
    | none => none
  | .struct fs => shapeFs f fs 0
  | .array m e => match ti e with
    | some i => shapeFs f (arrayFs i.size e m 0) 0
    | none => none
  | _ => none

def shapeOf (ti : TypeId → Option (TI U)) : Nat → TypeId → Option (List (Cell U.T))
  | 0, _ => none
  | n + 1, t => match ti t with
    | some i => sized i.size (shapeTk ti (shapeOf ti n) i.tk)
    | none => none

/-! ## Tuples put together -/
def tupApp : (s s' : List (Cell U.T)) → Tup U.toTyU0 s → Tup U.toTyU0 s' → Tup U.toTyU0 (s ++ s')
  | [], _, _, y => y
  | _ :: s, s', x, y => (x.1, tupApp s s' x.2 y)

theorem encT_app : ∀ (s s' : List (Cell U.T)) (x : Tup U.toTyU0 s) (y : Tup U.toTyU0 s'), encT (s ++ s') (tupApp s s' x y) = encT s x ++ encT s' y
  | [], _, _, _ => rfl
  | c :: s, s', x, y => by
    show encC c x.1 :: encT (s ++ s') (tupApp s s' x.2 y) = _
    rw [encT_app s s' x.2 y]; rfl

/-- the world ahead of the call: all that is there stays -/
def En.ofWorld (w : World) : En := { w := w, m := fun _ => none, n := fun _ => 0, I := fun b => b < w.heap.size }

theorem En.ofWorld_wf (w : World) : WF (En.ofWorld w) := ⟨fun _ h => h, fun k b o h => (by cases h), fun k b o h => (by cases h), fun k k' b o o' h => (by cases h)⟩

theorem list_of {α : Type} {Q : Nat → α → Prop} : ∀ (n : Nat), (∀ i, i < n → ∃ x, Q i x) → ∃ xs : List α, xs.length = n ∧ ∀ i x, xs[i]? = some x → Q i x
  | 0, _ => ⟨[], rfl, fun i x h => by simp at h⟩
  | n + 1, h => by
    obtain ⟨xs, h1, h2⟩ := list_of n fun i hi => h i (by omega)
    obtain ⟨x, hx⟩ := h n (by omega)
    refine ⟨xs ++ [x], by simp [h1], fun i y hy => ?_⟩
    rw [List.getElem?_append] at hy
    split at hy
    · exact h2 i y hy
    · rename_i hi
      have : i = n := by
        have := (List.getElem?_eq_some_iff.1 hy).1
        simp at this; omega
      subst this
      rw [h1] at hy
      simp at hy; subst hy; exact hx

section
variable {H : Type} {enc' : TypeId × Value → H} {w : World} {sp : Nat → Bool} {held : Bool} {N : Nat} {B : U.T → Nat} {W : TypeId → Nat} {S : TypeId → DataW H → Prop}

def Reads (w : World) (N : Nat) (B : U.T → Nat) (sh : List (Cell U.T)) (cs : List Value) : Prop := ∃ y : Tup U.toTyU0 sh, RelL (En.ofWorld w) (encT sh y) cs ∧ ∀ v ∈ encT sh y, SmallV N B v

theorem Reads.length {sh : List (Cell U.T)} {cs : List Value} (h : Reads w N B sh cs) : cs.length = sh.length := by
  obtain ⟨y, h1, _⟩ := h
  rw [← h1.1, encT_length]

theorem Reads.app {s s' : List (Cell U.T)} {cs cs' : List Value} (h : Reads w N B s cs) (h' : Reads w N B s' cs') : Reads w N B (s ++ s') (cs ++ cs') := by
  obtain ⟨y, h1, h2⟩ := h
  obtain ⟨y', h1', h2'⟩ := h'
  refine ⟨tupApp s s' y y', by rw [encT_app]; exact h1.append h1', fun v hv => ?_⟩
  rw [encT_app, List.mem_append] at hv
  exact hv.elim (h2 v) (h2' v)

theorem read_pieces {f : TypeId → Option (List (Cell U.T))} {T : TypeId → List Value → Option (DataW H × List MemPlace)} (hf : ∀ t s, f t = some s → P.cellsOf t = s.length)
    (hT : ∀ t cs x s, T t cs = some x → f t = some s → S t x.1 → Reads w N B s cs) (cs : List Value) :
    ∀ (l : List (Nat × TypeId)) (o : Nat) (s : List (Cell U.T)) (xs : List (DataW H × List MemPlace)), shapeFs f l o = some s → xs.length = l.length →
      (∀ (i : Nat) (p : Nat × TypeId), l[i]? = some p → T p.2 ((cs.drop p.1).take (P.cellsOf p.2)) = xs[i]?) → (∀ (i : Nat) (p : Nat × TypeId) (x : DataW H × List MemPlace), l[i]? = some p → xs[i]? = some x → S p.2 x.1) → Reads w N B s ((cs.drop o).take s.length)
  | [], o, s, xs, h, _, _, _ => by
    have h : some [] = some s := h
    cases h
    exact ⟨(), by simpa [encT] using RelL.nil, fun v hv => by simp [encT] at hv⟩
  | (off, t) :: r, o, s, xs, h, hl, hx, hs => by
    unfold shapeFs at h
    split at h
    case h_2 => cases h
    rename_i ho
    have ho : off = o := Nat.eq_of_beq_eq_true ho
    subst ho
    split at h
    case h_2 => cases h
    rename_i s1 h1
    split at h
    case h_2 => cases h
    rename_i s2 h2
    cases h
    cases xs with
    | nil => simp at hl
    | cons x xs =>
      have q1 := hx 0 (off, t) rfl
      simp only [List.getElem?_cons_zero] at q1
      have r1 := hT t _ x s1 q1 h1 (hs 0 (off, t) x rfl rfl)
      rw [hf t s1 h1] at r1
      have r2 := read_pieces hf hT cs r (off + s1.length) s2 xs h2 (by simpa using hl) (fun i p hp => by
        have := hx (i + 1) p (by simpa using hp)
        simpa using this) (fun i p y hp hy => hs (i + 1) p y (by simpa using hp) (by simpa using hy))
      have := r1.app r2
      rw [List.length_append]
      rw [List.take_add, List.drop_drop]
      exact this

theorem arrayFs_get (sz : Nat) (e : TypeId) : ∀ (m i : Nat), (arrayFs sz e m i).length = m ∧ ∀ (j : Nat) (p : Nat × TypeId), (arrayFs sz e m i)[j]? = some p → j < m ∧ p = ((i + j) * sz, e)
  | 0, i => ⟨rfl, fun j p h => by simp [arrayFs] at h⟩
  | m + 1, i => by
    obtain ⟨h1, h2⟩ := arrayFs_get sz e m (i + 1)
    refine ⟨by simp [arrayFs, h1], fun j p h => ?_⟩
    cases j with
    | zero => simp [arrayFs] at h; exact ⟨by omega, by rw [← h]; simp⟩
    | succ j =>
      simp only [arrayFs, List.getElem?_cons_succ] at h
      obtain ⟨h3, h4⟩ := h2 j p h
      exact ⟨by omega, by rw [h4, show i + 1 + j = i + (j + 1) by omega]⟩

theorem trod_array {n : Nat} {t e : TypeId} {fuel : Nat} {base : Nat} {cs : List Value} {x : DataW H × List MemPlace} (ht : P.underlying t = some (.array n e)) (h : DataW.trod enc' P w base sp held fuel t cs = some x) :
    ∃ (xs : List (DataW H × List MemPlace)) (m : Nat), fuel = m + 1 ∧ x = (.agg (xs.map (·.1)), xs.flatMap (·.2)) ∧ cs.length = P.cellsOf t ∧ xs.length = n ∧
      ∀ i, i < n → DataW.trod enc' P w base sp held m e ((cs.drop (i * P.cellsOf e)).take (P.cellsOf e)) = xs[i]? := by
  cases fuel with
  | zero => simp [DataW.trod] at h
  | succ m =>
    unfold DataW.trod at h
    rw [ht] at h
    split at h <;> simp_all
    obtain ⟨hl, xs, hp, hd⟩ := h
    exact ⟨xs, hd.symm, by simpa using mapM_some_length hp, fun i hi => mapM_some_get hp i i (by simp [hi])⟩

theorem TIok.cellsOf {t : TypeId} {i : TI U} (h : TIok P t i) : P.cellsOf t = i.size := by
  obtain ⟨inf, h1, h2, _⟩ := h.info
  unfold Program.cellsOf
  rw [h1]; exact h2

theorem shapeOf_size (hti : TIs P G) {n : Nat} {t : TypeId} {s : List (Cell U.T)} (h : shapeOf G.ti n t = some s) : P.cellsOf t = s.length := by
  cases n with
  | zero => cases h
  | succ n =>
    unfold shapeOf at h
    split at h
    case h_2 => cases h
    rename_i i hi
    rw [(hti t i hi).cellsOf]
    unfold sized at h
    split at h
    case h_2 => cases h
    split at h
    · rename_i hb; cases h; exact (Nat.eq_of_beq_eq_true hb).symm
    · cases h

theorem read (hti : TIs P G) (hS : SmallD P N W S) (hW : ∀ e i c, G.ti e = some i → i.ty = some c → W e = B c) {D : Nat} (hsh : ∀ e i c, G.ti e = some i → i.ty = some c → shapeOf G.ti D e = some (U.shape c)) :
    ∀ (fuel : Nat) (t : TypeId) (cs : List Value) (x : DataW H × List MemPlace) (n : Nat) (sh : List (Cell U.T)), DataW.trod enc' P w 0 sp held fuel t cs = some x → shapeOf G.ti n t = some sh → S t x.1 → Reads (U := U) w N B sh cs := by
  intro fuel
  induction fuel with
  | zero => intro t cs x n sh h; simp [DataW.trod] at h
  | succ m ih =>
    intro t cs x n sh h hs hx
    cases n with
    | zero => cases hs
    | succ n =>
      have hsz := shapeOf_size hti hs
      unfold shapeOf at hs
      split at hs
      case h_2 => cases hs
      rename_i i hi
      have hI := hti t i hi
      unfold sized at hs
      split at hs
      case h_2 => cases hs
      rename_i s htk
      split at hs
      case h_2 => cases hs
      cases hs
      obtain ⟨d, hu, hd⟩ := hI.und
      unfold shapeTk at htk
      split at htk
      · rename_i k hk
        rw [hk] at hd
        cases d <;> simp [TKok] at hd
        subst hd
        cases htk
        obtain ⟨z, rfl, rfl, _⟩ := DataW.trod_int hu h
        exact ⟨(z, ()), RelL.cons .int RelL.nil, fun v hv => by simp [encT, encC] at hv; subst hv; exact .int⟩
      · rename_i hk
        rw [hk] at hd
        cases d <;> simp [TKok] at hd
        cases htk
        obtain ⟨z, rfl, rfl⟩ := DataW.trod_bool hu h
        exact ⟨(z, ()), RelL.cons .bool RelL.nil, fun v hv => by simp [encT, encC] at hv; subst hv; exact .bool⟩
      · rename_i hk
        rw [hk] at hd
        cases d <;> simp [TKok] at hd
        cases htk
        obtain ⟨z, rfl, rfl, _⟩ := DataW.trod_string hu h
        have hl := hS.str _ _ hx
        exact ⟨(z.data.toList, ()), RelL.cons (.str (s := z.data.toList)) RelL.nil, fun v hv => by simp [encT, encC] at hv; subst hv; exact .str hl⟩
      · rename_i e hk
        split at htk
        case h_2 => cases htk
        rename_i j hj
        split at htk
        case h_2 => cases htk
        rename_i c hc
        unfold slOf at htk
        split at htk
        · cases htk
        rename_i c0 cr hcs
        cases htk
        have hue := hI.und_slice hk
        have hJ := hti e j hj
        have hje : P.cellsOf e = (U.shape c).length := by rw [hJ.cellsOf, (hJ.ty c hc).2]
        rcases DataW.trod_slice hue h with ⟨rfl, _⟩ | ⟨a, len, cap, elems, rest, m', hm, rfl, rfl, hb, hl, _, hlen, hel, _, _⟩
        · exact ⟨(([] : List (U.den c)), ()), RelL.cons (.fslE (fun _ => rfl)) RelL.nil, fun v hv => by
            simp [encT, encC] at hv; subst hv
            exact .fsl (by simp) (fun x hx => by cases hx)⟩
        · cases hm
          obtain ⟨hS1, hS2⟩ := hS.slice _ _ _ _ hue hx
          rw [List.length_map, hlen] at hS1
          have each : ∀ i, i < len → ∃ x : U.den c, ∃ ecs, w.cells? 0 (a.add (i * (U.shape c).length)) (U.shape c).length = some ecs ∧ RelL (En.ofWorld w) (enc c x) ecs ∧ ∀ v ∈ enc c x, SmallV N B v := by
            intro i hi'
            have q := hel i hi'
            have hie : i < elems.length := by omega
            rw [List.getElem?_eq_getElem hie, hje, Option.bind_eq_some_iff] at q
            obtain ⟨ecs, q1, q2⟩ := q
            obtain ⟨y, y1, y2⟩ := ih e ecs _ D _ q2 (hsh e j c hj hc) (hS2 _ (List.mem_map_of_mem (List.getElem_mem hie)))
            refine ⟨U.untup c y, ecs, q1, ?_, ?_⟩
            · rw [enc_untup]; exact y1
            · rw [enc_untup]; exact y2
          obtain ⟨xs, hxl, hxs⟩ := list_of len each
          have hsm : SmallV N B (.fsl c xs) := .fsl (by rw [hxl, ← hW e j c hj hc]; exact hS1) (fun x hx v hv => by
            obtain ⟨i, hi'⟩ := List.getElem?_of_mem hx
            obtain ⟨_, _, _, g⟩ := hxs i x hi'
            exact g v hv)
          refine ⟨(xs, ()), RelL.cons ?_ RelL.nil, fun v hv => by simp [encT, encC] at hv; subst hv; exact hsm⟩
          show Rel (En.ofWorld w) (.fsl c xs) (.slice (some a) len cap)
          by_cases h0 : len = 0
          · subst h0
            have : xs = [] := List.length_eq_zero_iff.1 hxl
            subst this
            exact .fslE (fun hh => by cases hh)
          · have hpos : 0 < (U.shape c).length := by rw [hcs]; simp
            have hx0 : 0 < xs.length := by omega
            obtain ⟨ecs, g1, g2, _⟩ := hxs 0 xs[0] (List.getElem?_eq_getElem hx0)
            obtain ⟨_, g3, g4⟩ := World.cells?_some g1
            have g5 := g4 0 hpos
            rw [Nat.zero_mul] at g5
            have hadd0 : (a.add 0).add 0 = a := by unfold Addr.add; simp
            rw [hadd0] at g5
            obtain ⟨v0, hv0⟩ : ∃ v0, ecs[0]? = some v0 := ⟨ecs[0], by simp [g3, hpos]⟩
            rw [hv0] at g5
            obtain ⟨b, ob, spot⟩ := a
            have hspot : spot = none := World.cell?_spot g5
            subst hspot
            have hI : (En.ofWorld w).I b := by
              show b < w.heap.size
              unfold World.cell? at g5
              split at g5
              · rename_i hh; exact (Array.getElem?_eq_some_iff.1 hh).1
              · cases g5
            rw [← hxl]
            refine Rel.mk_fsl hI (by rw [hxl]; exact hl) (fun i x hx j' y hy => ?_)
            obtain ⟨ecs, p1, p2, _⟩ := hxs i x hx
            obtain ⟨_, p3, p4⟩ := World.cells?_some p1
            have hj' : j' < ecs.length := by rw [← p2.1]; exact (List.getElem?_eq_some_iff.1 hy).1
            have p5 := p4 j' (by omega)
            rw [add_none, add_none] at p5
            exact ⟨ecs[j'], by rw [show (En.ofWorld w).w = w from rfl, p5]; simp [hj'], p2.2 j' y ecs[j'] hy (by simp [hj'])⟩
      · rename_i fs hk
        obtain ⟨fl, hul, hfl⟩ := hI.und_struct hk
        obtain ⟨xs, m', hm, rfl, hcl, hxl, hxs⟩ := DataW.trod_struct hul h
        cases hm
        have hS' := hS.struct _ _ _ hul hx
        have := read_pieces (w := w) (N := N) (B := B) (S := S) (P := P) (f := shapeOf G.ti n) (T := DataW.trod enc' P w 0 sp held m) (fun t s hh => shapeOf_size hti hh) (fun t cs x s h1 h2 h3 => ih t cs x n s h1 h2 h3) cs fs 0 sh xs htk
          (by rw [← hfl, hxl]; simp) (fun i p hp => by
            rw [← hfl, List.getElem?_map, Option.map_eq_some_iff] at hp
            obtain ⟨fd, h1, rfl⟩ := hp
            exact hxs i fd (by simpa using h1)) (fun i p y hp hy => by
            rw [← hfl, List.getElem?_map, Option.map_eq_some_iff] at hp
            obtain ⟨fd, h1, rfl⟩ := hp
            exact hS' i fd y.1 (by simpa using h1) (by rw [List.getElem?_map, hy]; rfl))
        rw [List.drop_zero, List.take_of_length_le (by rw [hcl, hsz]; exact Nat.le_refl _)] at this
        exact this
      · rename_i q e hk
        split at htk
        case h_2 => cases htk
        rename_i j hj
        have hua := hI.und_array hk
        obtain ⟨xs, m', hm, rfl, hcl, hxl, hxs⟩ := trod_array hua h
        cases hm
        have hS' := hS.array _ _ _ _ hua hx
        obtain ⟨a1, a2⟩ := arrayFs_get j.size e q 0
        have := read_pieces (w := w) (N := N) (B := B) (S := S) (P := P) (f := shapeOf G.ti n) (T := DataW.trod enc' P w 0 sp held m) (fun t s hh => shapeOf_size hti hh) (fun t cs x s h1 h2 h3 => ih t cs x n s h1 h2 h3) cs (arrayFs j.size e q 0) 0 sh xs htk
          (by rw [a1, hxl]) (fun i p hp => by
            obtain ⟨p1, rfl⟩ := a2 i p hp
            have := hxs i p1
            rw [(hti e j hj).cellsOf] at this
            dsimp only
            rw [(hti e j hj).cellsOf, Nat.zero_add]
            exact this) (fun i p y hp hy => by
            obtain ⟨p1, rfl⟩ := a2 i p hp
            exact hS' y.1 (List.mem_map_of_mem (List.mem_of_getElem? hy)))
        rw [List.drop_zero, List.take_of_length_le (by rw [hcl, hsz]; exact Nat.le_refl _)] at this
        exact this
      · cases htk
end
end Am
