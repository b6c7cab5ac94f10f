/- Copies, and Record of the batch layer and of its reference. -/
import Derived.Test.YtbeffjadfgbojaaAmL3
import Derived.Test.YtbeffjadfgbojaaAmC3
namespace Am
open Go Go.Proofs
set_option maxRecDepth 100000

theorem roomy_true {n b : Nat} (h : n * b ≤ 140737488355328) : roomy n b = true := by unfold roomy; rw [decide_eq_true h]; rfl
theorem roomy_wide {n b : Nat} (h : (n + n / 4 + 192) * b ≤ 281474976710656) : roomy n b = true := by unfold roomy; rw [decide_eq_true h, Bool.or_true]
theorem chk_roomy {R : Type} {n b : Nat} (h : n * b ≤ 140737488355328) (x : Option R) : chk (roomy n b) x = x := by rw [roomy_true h]; rfl

theorem chk_wide {R : Type} {n b : Nat} (h : (n + n / 4 + 192) * b ≤ 281474976710656) (x : Option R) : chk (roomy n b) x = x := by rw [roomy_wide h]; rfl

theorem g38_eq (a : List Int) (h : a.length * 8 ≤ 140737488355328) : g38 a = some a := chk_roomy (by omega) _
theorem g39_eq (a : List Dpixel) (h : a.length * 32 ≤ 140737488355328) : g39 a = some a := chk_roomy (by omega) _
theorem g40_eq (a : List Dstop) (h : a.length * 40 ≤ 140737488355328) : g40 a = some a := chk_roomy (by omega) _
theorem g41_eq (a : List Dseg) (h : a.length * 56 ≤ 140737488355328) : g41 a = some a := chk_roomy (by omega) _
theorem g42_eq (a : List Dpoint) (h : a.length * 16 ≤ 140737488355328) : g42 a = some a := chk_roomy (by omega) _
theorem g43_eq (a : List Dsample) (h : a.length * 40 ≤ 140737488355328) : g43 a = some a := chk_roomy (by omega) _
theorem g44_eq (a : List Ddynamic) (h : a.length * 40 ≤ 140737488355328) : g44 a = some a := chk_roomy (by omega) _
theorem g45_eq (a : List Dknot) (h : a.length * 16 ≤ 140737488355328) : g45 a = some a := chk_roomy (by omega) _
theorem g29_eq (a : List Dbind) (h : a.length * 32 ≤ 140737488355328) : g29 a = some a := chk_roomy (by omega) _

/-- no slice is of more than 2^47 bytes -/
structure EditSm (a : Dedit) : Prop where
  nmask : a.node.mask.v.length * 8 ≤ 140737488355328
  nimage : a.node.image.pix.length * 32 ≤ 140737488355328
  params : a.node.params.length * 8 ≤ 140737488355328
  stops : a.node.stops.length * 40 ≤ 140737488355328
  segs : a.node.segs.length * 56 ≤ 140737488355328
  warp : a.node.warp.d.length * 16 ≤ 140737488355328
  mask : a.mask.v.length * 8 ≤ 140737488355328
  image : a.image.pix.length * 32 ≤ 140737488355328
  samples : a.samples.length * 40 ≤ 140737488355328
  dynamics : a.brush.dynamics.length * 40 ≤ 140737488355328
  curves : ∀ x ∈ a.brush.dynamics, x.curve.length * 16 ≤ 140737488355328

theorem EditSm.len {a : Dedit} (h : EditSm a) : EditLen a where
  node := ⟨by have := h.nmask; omega, by have := h.nimage; omega, by have := h.params; omega, by have := h.stops; omega, by have := h.segs; omega, by have := h.warp; omega⟩
  mask := by have := h.mask; omega
  image := by have := h.image; omega
  samples := by have := h.samples; omega
  dynamics := by have := h.dynamics; omega
  curves := fun x hx => by have := h.curves x hx; omega

def zeroE : Dedit := (⟨(0 : Int), (0 : Int), (0 : Int), (0 : Int), (0 : Int), (0 : Int), ([] : List UInt8), ([] : List UInt8), ⟨(0 : Int), (0 : Int), (0 : Int), ([] : List UInt8), false, false, false, (0 : Int), (0 : Int), ⟨(0 : Int), (0 : Int), []⟩, ⟨(0 : Int), (0 : Int), (0 : Int), (0 : Int), (0 : Int), (0 : Int)⟩, (0 : Int), ⟨(0 : Int), (0 : Int), []⟩, ⟨(0 : Int), (0 : Int), (0 : Int), (0 : Int)⟩, (0 : Int), [], (0 : Int), [], [], (0 : Int), (0 : Int), (0 : Int), (0 : Int), ([] : List UInt8), (0 : Int), (0 : Int), (0 : Int), ⟨(0 : Int), (0 : Int), (0 : Int), []⟩⟩, ⟨(0 : Int), (0 : Int), []⟩, ⟨(0 : Int), (0 : Int), []⟩, ⟨(0 : Int), (0 : Int), (0 : Int), (0 : Int), (0 : Int), (0 : Int), (0 : Int), (0 : Int), (0 : Int), ⟨(0 : Int), (0 : Int), (0 : Int), (0 : Int)⟩, (0 : Int), [], false⟩, [], ⟨(0 : Int), (0 : Int)⟩, ⟨(0 : Int), (0 : Int), (0 : Int), (0 : Int)⟩, ⟨(0 : Int), (0 : Int), (0 : Int), (0 : Int)⟩⟩ : Dedit)

theorem set_get {α : Type} (l : List α) (i : Nat) (x : α) (h : l[i]? = some x) : l.set i x = l := by
  apply List.ext_getElem?
  intro j
  rw [List.getElem?_set]
  split
  · rename_i hij; subst hij
    split
    · exact h.symm
    · rename_i hn; rw [List.getElem?_eq_none (by omega)]
  · rfl

/-- the loop that copies the curves changes nothing -/
theorem L22_eq (T : _) (b1 b2 b3 : List Int) (dyn : List Ddynamic) (b5 : Dedit) (h : dyn.length * 40 ≤ 140737488355328) (hc : ∀ x ∈ dyn, x.curve.length * 16 ≤ 140737488355328) :
    loopOf step22_7 ((((), (), (dyn.length : Int), (0 : Int), ()), (T, b1, b2, b3, dyn, b5, ())) : D22_7.X) = some (((), (), ()), (T, b1, b2, b3, dyn, b5, ())) := by
  have := calm_loop (step := step22_7) dyn.length (st := fun i => ((((), (), (dyn.length : Int), (i : Int), ()), (T, b1, b2, b3, dyn, b5, ())) : D22_7.X)) (y := (((), (), ()), (T, b1, b2, b3, dyn, b5, ()))) (fun i hi => by
    have hg := List.getElem?_eq_getElem hi
    have hin : inB (i : Int) dyn.length = true := by simp [inB, hi]
    have hset : dyn.set i dyn[i] = dyn := set_get _ _ _ hg
    have h1 := g45_eq _ (hc _ (List.getElem_mem hi))
    show (match ltI (i : Int) (dyn.length : Int) with | true => _ | false => _) = _
    rw [ltI_nat, decide_eq_true hi]
    show chk (inB (i : Int) dyn.length) _ = _
    rw [hin]
    show (dyn[((i : Int)).toNat]?).bind _ = _
    rw [Int.toNat_natCast, hg]
    show (g45 dyn[i].curve).bind _ = _
    rw [h1]
    show some (Sum.inl ((((), (), (dyn.length : Int), (addI .i64 (i : Int) 1), ()), (T, b1, b2, b3, dyn.set i dyn[i], b5, ())) : D22_7.X)) = _
    rw [hset, addI_one i (by omega)]
    rfl) (by
    show (match ltI (dyn.length : Int) (dyn.length : Int) with | true => _ | false => _) = _
    rw [ltI_nat, decide_eq_false (Nat.lt_irrefl _)]
    rfl)
  exact this

/-- an edit in pieces, without the slices that have rows of their own -/
def tupE (a : Dedit) := (a.kind, a.id, a.parent, a.at_, a.value, a.to_, a.text, a.data, a.node.id, a.node.kind, a.node.parent, a.node.name, a.node.hidden, a.node.locked, a.node.clip, a.node.opacity, a.node.mode, a.node.mask.w, a.node.mask.h, (), a.node.t.a, a.node.t.b, a.node.t.c, a.node.t.d, a.node.t.e, a.node.t.f, a.node.kernel, a.node.image.w, a.node.image.h, a.node.image.pix, a.node.color.r, a.node.color.g, a.node.color.b, a.node.color.a, a.node.sub, (), a.node.spread, a.node.stops, a.node.segs, a.node.rule, a.node.width, a.node.join, a.node.cap, a.node.text, a.node.size, a.node.wrap, a.node.ref, a.node.warp.cols, a.node.warp.rows, a.node.warp.step, a.node.warp.d, a.mask.w, a.mask.h, (), a.image.w, a.image.h, a.image.pix, a.brush.size, a.brush.hard, a.brush.round, a.brush.flow, a.brush.opacity, a.brush.spacing, a.brush.angle, a.brush.scatter, a.brush.mode, a.brush.color.r, a.brush.color.g, a.brush.color.b, a.brush.color.a, a.brush.seed, (), a.brush.erase, a.samples, a.offset.x, a.offset.y, a.rect.x, a.rect.y, a.rect.w, a.rect.h, a.color.r, a.color.g, a.color.b, a.color.a, ())

theorem g22_eq (a : Dedit) (h : EditSm a) : g22 a = some a := by
  unfold g22
  rw [g38_eq _ h.nmask, g39_eq _ h.nimage, g38_eq _ h.params, g40_eq _ h.stops, g41_eq _ h.segs, g42_eq _ h.warp, g38_eq _ h.mask, g39_eq _ h.image, g43_eq _ h.samples, g44_eq _ h.dynamics]
  exact (congrArg (fun o : Option Y22_7 => Option.bind o _) (L22_eq (tupE a) a.node.mask.v a.node.params a.mask.v a.brush.dynamics zeroE h.dynamics h.curves)).trans rfl

/-! ## Record -/
/-- edits and their binds, side by side -/
def zipA (l : List Dedit) (binds : List (List Dbind)) : List Daction := List.zipWith (fun e b => ⟨e, b⟩) l binds

/-- the actions that were made so far -/
def accA (binds : List (List Dbind)) (i : Nat) (e : Dedit) (acc : List Daction) : List Daction := acc ++ [⟨e, binds.getD i []⟩]

theorem foldAt_acc {Y : Type} (binds : List (List Dbind)) (fin : List Daction → Y) : ∀ (l : List Dedit) (i : Nat) (acc : List Daction), l.length + i = binds.length → 
    foldAt (fun i e acc => .inl (accA binds i e acc)) fin l i acc = fin (acc ++ zipA l (binds.drop i))
  | [], i, acc, _ => by simp [foldAt, zipA]
  | e :: l, i, acc, h => by
    unfold foldAt
    show foldAt (fun i e acc => .inl (accA binds i e acc)) fin l (i + 1) (accA binds i e acc) = _
    rw [foldAt_acc binds fin l (i + 1) _ (by simp at h; omega)]
    have hi : i < binds.length := by simp at h; omega
    have hd : binds.drop i = binds[i] :: binds.drop (i + 1) := List.drop_eq_getElem_cons hi
    unfold zipA
    rw [hd, List.zipWith_cons_cons]
    unfold accA
    rw [List.append_assoc, show binds.getD i [] = binds[i] by simp [List.getD_eq_getElem?_getD, hi]]
    rfl

def recordR (l : List Dedit) (binds : List (List Dbind)) : List Daction × Int × Unit := match eqI (l.length : Int) (binds.length : Int) with
  | false => ([], 15, ())
  | true => match eqI (checkE (zipA l binds)) 0 with
    | false => ([], checkE (zipA l binds), ())
    | true => (zipA l binds, 0, ())

structure RecSm (l : List Dedit) (binds : List (List Dbind)) : Prop where
  len : l.length * 848 ≤ 140737488351232
  edits : ∀ e ∈ l, EditSm e
  each : ∀ b ∈ binds, b.length * 32 ≤ 140737488355328
  names : ∀ b ∈ binds, ∀ x : Dbind, x ∈ b → x.param.length < 9223372036854775807

theorem g11_eq (l : List Dedit) (binds : List (List Dbind)) (h : RecSm l binds) : g11 l binds = some (recordR l binds) := by
  unfold g11 recordR
  cases hl : eqI (l.length : Int) (binds.length : Int) with
  | false => rfl
  | true =>
    have hlen : l.length = binds.length := by
      have h' : (l.length : Int) = (binds.length : Int) := by simpa [eqI] using hl
      omega
    have hn := h.len
    have := fold_loop (S := List Daction) (step := step11_5) l (st := fun i acc => (((binds, (), l, (l.length : Int), (i : Int), ()), (acc, ())) : D11_5.X)) (fun i acc => acc.length = i) (F := fun i e acc => .inl (accA binds i e acc)) (fin := fun acc => (((), ()), (acc, ()))) (s := []) rfl
      (fun i e acc he hacc => by
        have hi := get_lt he
        have hib : i < binds.length := by omega
        have hb := List.getElem?_eq_getElem hib
        simp only [step11_5, ltI_nat, decide_eq_true hi, ix_nat, he, hb, Option.bind_some, g22_eq e (h.edits e (List.mem_of_getElem? he)), g29_eq _ (h.each _ (List.getElem_mem hib)), addI_one i (by omega)]
        rw [chk_wide (by
          show ((List.length (α := Daction) acc + 1) + (List.length (α := Daction) acc + 1) / 4 + 192) * 872 ≤ _
          have hacc : List.length (α := Daction) acc = i := hacc
          omega)]
        simp [accA, List.getD_eq_getElem?_getD, hib]) (fun i e acc s' he hacc hs => by cases hs; simp [accA, hacc]) (fun acc _ => by
        simp only [step11_5, ltI_nat, Nat.lt_irrefl, decide_false])
    have this := this.trans (congrArg some (foldAt_acc binds _ l 0 [] (by omega)))
    refine (congrArg (fun o : Option Y11_5 => Option.bind o _) this).trans ?_
    show (g17 (zipA l binds)).bind _ = _
    rw [g17_eq]
    show (match (!(eqI (checkE (zipA l binds)) 0)) with | true => _ | false => _) = some (match eqI (checkE (zipA l binds)) 0 with | false => _ | true => _)
    cases eqI (checkE (zipA l binds)) 0 <;> rfl

theorem zipA_mem {l : List Dedit} {binds : List (List Dbind)} {x : Daction} (h : x ∈ zipA l binds) : x.edit ∈ l ∧ x.binds ∈ binds := by
  unfold zipA at h
  rw [List.mem_iff_getElem?] at h
  obtain ⟨i, hi⟩ := h
  rw [List.getElem?_zipWith] at hi
  cases h1 : l[i]? with
  | none => rw [h1] at hi; cases hi
  | some e =>
    cases h2 : binds[i]? with
    | none => rw [h1, h2] at hi; cases hi
    | some b =>
      rw [h1, h2] at hi
      cases hi
      exact ⟨List.mem_of_getElem? h1, List.mem_of_getElem? h2⟩

theorem g12_eq (l : List Dedit) (binds : List (List Dbind)) (h : RecSm l binds) : g12 l binds = some (recordR l binds) := by
  unfold g12 recordR
  cases hl : eqI (l.length : Int) (binds.length : Int) with
  | false => rfl
  | true =>
    have hlen : l.length = binds.length := by
      have h' : (l.length : Int) = (binds.length : Int) := by simpa [eqI] using hl
      omega
    have hn := h.len
    have := fold_loop (S := List Daction) (step := step12_5) l (st := fun i acc => (((l, binds, (), (i : Int), ()), (acc, ())) : D12_5.X)) (fun i acc => acc.length = i) (F := fun i e acc => .inl (accA binds i e acc)) (fin := fun acc => (((), ()), (acc, ()))) (s := []) rfl
      (fun i e acc he hacc => by
        have hi := get_lt he
        have hib : i < binds.length := by omega
        have hb := List.getElem?_eq_getElem hib
        simp only [step12_5, ltI_nat, decide_eq_true hi, ix_nat, he, hb, Option.bind_some, addI_one i (by omega)]
        rw [chk_wide (by
          show ((List.length (α := Daction) acc + 1) + (List.length (α := Daction) acc + 1) / 4 + 192) * 872 ≤ _
          have hacc : List.length (α := Daction) acc = i := hacc
          omega)]
        simp [accA, List.getD_eq_getElem?_getD, hib]) (fun i e acc s' he hacc hs => by cases hs; simp [accA, hacc]) (fun acc _ => by
        simp only [step12_5, ltI_nat, Nat.lt_irrefl, decide_false])
    have this := this.trans (congrArg some (foldAt_acc binds _ l 0 [] (by omega)))
    refine (congrArg (fun o : Option Y12_5 => Option.bind o _) this).trans ?_
    show (g18 (zipA l binds)).bind _ = _
    rw [g18_eq _ (fun a ha b hb => h.names _ (zipA_mem ha).2 b hb)]
    show (match (!(eqI (checkE (zipA l binds)) 0)) with | true => _ | false => _) = some (match eqI (checkE (zipA l binds)) 0 with | false => _ | true => _)
    cases eqI (checkE (zipA l binds)) 0 <;> rfl

end Am
