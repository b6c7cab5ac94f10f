/- Fill of the batch layer and of its reference. -/
import Derived.Test.YtbeffjadfgbojaaAmL4
import Derived.Test.YtbeffjadfgbojaaAmC4
namespace Am
open Go Go.Proofs
set_option maxRecDepth 100000

/-- a parameter with another value; -1: none -/
def setI (ps : List Int) (k v : Int) : List Int := match ltI k 0 with
  | true => ps
  | false => ps.set k.toNat v

/-- an edit with another value of a field -/
def setE (a : Dedit) (b : List UInt8) (c : Int) : Dedit :=
  match eqS b ([97] : List UInt8) with
  | true => ⟨a.kind, a.id, a.parent, a.at_, a.value, a.to_, a.text, a.data, a.node, a.mask, a.image, a.brush, a.samples, a.offset, a.rect, ⟨a.color.r, a.color.g, a.color.b, c⟩⟩
  | false =>
   match eqS b ([97, 116] : List UInt8) with
   | true => ⟨a.kind, a.id, a.parent, c, a.value, a.to_, a.text, a.data, a.node, a.mask, a.image, a.brush, a.samples, a.offset, a.rect, a.color⟩
   | false =>
    match eqS b ([98] : List UInt8) with
    | true => ⟨a.kind, a.id, a.parent, a.at_, a.value, a.to_, a.text, a.data, a.node, a.mask, a.image, a.brush, a.samples, a.offset, a.rect, ⟨a.color.r, a.color.g, c, a.color.a⟩⟩
    | false =>
     match eqS b ([100, 120] : List UInt8) with
     | true => ⟨a.kind, a.id, a.parent, a.at_, a.value, a.to_, a.text, a.data, a.node, a.mask, a.image, a.brush, a.samples, ⟨c, a.offset.y⟩, a.rect, a.color⟩
     | false =>
      match eqS b ([100, 121] : List UInt8) with
      | true => ⟨a.kind, a.id, a.parent, a.at_, a.value, a.to_, a.text, a.data, a.node, a.mask, a.image, a.brush, a.samples, ⟨a.offset.x, c⟩, a.rect, a.color⟩
      | false =>
       match eqS b ([103] : List UInt8) with
       | true => ⟨a.kind, a.id, a.parent, a.at_, a.value, a.to_, a.text, a.data, a.node, a.mask, a.image, a.brush, a.samples, a.offset, a.rect, ⟨a.color.r, c, a.color.b, a.color.a⟩⟩
       | false =>
        match eqS b ([104] : List UInt8) with
        | true => ⟨a.kind, a.id, a.parent, a.at_, a.value, a.to_, a.text, a.data, a.node, a.mask, a.image, a.brush, a.samples, a.offset, ⟨a.rect.x, a.rect.y, a.rect.w, c⟩, a.color⟩
        | false =>
         match eqS b ([105, 100] : List UInt8) with
         | true => ⟨a.kind, c, a.parent, a.at_, a.value, a.to_, a.text, a.data, a.node, a.mask, a.image, a.brush, a.samples, a.offset, a.rect, a.color⟩
         | false =>
          match eqS b ([111, 112, 97, 99, 105, 116, 121] : List UInt8) with
          | true => ⟨a.kind, a.id, a.parent, a.at_, a.value, a.to_, a.text, a.data, ⟨a.node.id, a.node.kind, a.node.parent, a.node.name, a.node.hidden, a.node.locked, a.node.clip, c, a.node.mode, a.node.mask, a.node.t, a.node.kernel, a.node.image, a.node.color, a.node.sub, a.node.params, a.node.spread, a.node.stops, a.node.segs, a.node.rule, a.node.width, a.node.join, a.node.cap, a.node.text, a.node.size, a.node.wrap, a.node.ref, a.node.warp⟩, a.mask, a.image, a.brush, a.samples, a.offset, a.rect, a.color⟩
          | false =>
           match eqS b ([112, 97, 114, 101, 110, 116] : List UInt8) with
           | true => ⟨a.kind, a.id, c, a.at_, a.value, a.to_, a.text, a.data, a.node, a.mask, a.image, a.brush, a.samples, a.offset, a.rect, a.color⟩
           | false =>
            match eqS b ([114] : List UInt8) with
            | true => ⟨a.kind, a.id, a.parent, a.at_, a.value, a.to_, a.text, a.data, a.node, a.mask, a.image, a.brush, a.samples, a.offset, a.rect, ⟨c, a.color.g, a.color.b, a.color.a⟩⟩
            | false =>
             match eqS b ([116, 111] : List UInt8) with
             | true => ⟨a.kind, a.id, a.parent, a.at_, a.value, c, a.text, a.data, a.node, a.mask, a.image, a.brush, a.samples, a.offset, a.rect, a.color⟩
             | false =>
              match eqS b ([118, 97, 108, 117, 101] : List UInt8) with
              | true => ⟨a.kind, a.id, a.parent, a.at_, c, a.to_, a.text, a.data, a.node, a.mask, a.image, a.brush, a.samples, a.offset, a.rect, a.color⟩
              | false =>
               match eqS b ([119] : List UInt8) with
               | true => ⟨a.kind, a.id, a.parent, a.at_, a.value, a.to_, a.text, a.data, a.node, a.mask, a.image, a.brush, a.samples, a.offset, ⟨a.rect.x, a.rect.y, c, a.rect.h⟩, a.color⟩
               | false =>
                match eqS b ([120] : List UInt8) with
                | true => ⟨a.kind, a.id, a.parent, a.at_, a.value, a.to_, a.text, a.data, a.node, a.mask, a.image, a.brush, a.samples, a.offset, ⟨c, a.rect.y, a.rect.w, a.rect.h⟩, a.color⟩
                | false =>
                 match eqS b ([121] : List UInt8) with
                 | true => ⟨a.kind, a.id, a.parent, a.at_, a.value, a.to_, a.text, a.data, a.node, a.mask, a.image, a.brush, a.samples, a.offset, ⟨a.rect.x, c, a.rect.w, a.rect.h⟩, a.color⟩
                 | false =>
                  ⟨a.kind, a.id, a.parent, a.at_, a.value, a.to_, a.text, a.data, ⟨a.node.id, a.node.kind, a.node.parent, a.node.name, a.node.hidden, a.node.locked, a.node.clip, a.node.opacity, a.node.mode, a.node.mask, a.node.t, a.node.kernel, a.node.image, a.node.color, a.node.sub, (setI a.node.params (indexB b) c), a.node.spread, a.node.stops, a.node.segs, a.node.rule, a.node.width, a.node.join, a.node.cap, a.node.text, a.node.size, a.node.wrap, a.node.ref, a.node.warp⟩, a.mask, a.image, a.brush, a.samples, a.offset, a.rect, a.color⟩

theorem setI_length (ps : List Int) (k v : Int) : (setI ps k v).length = ps.length := by
  unfold setI; cases ltI k 0 <;> simp

theorem setI_get (ps : List Int) (k v : Int) (i : Nat) (h : i < ps.length) : (setI ps k v)[i]? = some (match eqI (i : Int) k with | true => v | false => ps[i]) := by
  unfold setI
  cases hk : ltI k 0 with
  | true =>
    have hk : k < 0 := by simpa [ltI] using hk
    have : eqI (i : Int) k = false := by unfold eqI; rw [beq_eq_false_iff_ne]; omega
    rw [this]; exact List.getElem?_eq_getElem h
  | false =>
    have hk : ¬ k < 0 := by simpa [ltI] using hk
    rw [List.getElem?_set]
    by_cases he : k.toNat = i
    · have : eqI (i : Int) k = true := by unfold eqI; rw [beq_iff_eq]; omega
      rw [this, if_pos he, if_pos (by omega)]
    · have : eqI (i : Int) k = false := by unfold eqI; rw [beq_eq_false_iff_ne]; omega
      rw [this, if_neg he]; exact List.getElem?_eq_getElem h

theorem setI_setI (ps : List Int) (k v w : Int) : setI (setI ps k v) k w = setI ps k w := by
  unfold setI
  cases ltI k 0 with
  | true => rfl
  | false => exact List.set_set v

theorem L24_eq (a : Dedit) (b : List UInt8) (c : Int) (z : Dedit) (h : a.node.params.length * 8 ≤ 140737488355328) :
    loopOf step24_4 (((b, c, (), (), (), (0 : Int), ()), (a, z, ([] : List Int), ())) : D24_4.X) = some (((), (), (), ()), (a, z, setI a.node.params (indexB b) c, ())) := by
  have := calm_loop (step := step24_4) a.node.params.length (st := fun i => (((b, c, (), (), (), (i : Int), ()), (a, z, (setI a.node.params (indexB b) c).take i, ())) : D24_4.X)) (y := (((), (), (), ()), (a, z, (setI a.node.params (indexB b) c).take a.node.params.length, ()))) (fun i hi => by
    have hg := List.getElem?_eq_getElem hi
    have hs := setI_get a.node.params (indexB b) c i hi
    have hlt : ((setI a.node.params (indexB b) c).take i).length = i := by rw [List.length_take, setI_length]; omega
    have htk : (setI a.node.params (indexB b) c).take (i + 1) = (setI a.node.params (indexB b) c).take i ++ [match eqI (i : Int) (indexB b) with | true => c | false => a.node.params[i]] := by
      rw [List.take_add_one, hs]; rfl
    have key : ∀ L L' : List Int, L.length = i → L' = L ++ [match eqI (i : Int) (indexB b) with | true => c | false => a.node.params[i]] →
        step24_4 (((b, c, (), (), (), (i : Int), ()), (a, z, L, ())) : D24_4.X) = some (.inl (((b, c, (), (), (), ((i + 1 : Nat) : Int), ()), (a, z, L', ())) : D24_4.X)) := by
      intro L L' hlt hL
      subst hL
      have hr : ∀ (x : Int) {R : Type} (y : Option R), chk (roomy (L.length + [x].length) 8) y = y := fun x {R} y => chk_roomy (by rw [hlt]; show (i + 1) * 8 ≤ _; omega) y
      show (match ltI (i : Int) (a.node.params.length : Int) with | true => _ | false => _) = _
      rw [ltI_nat, decide_eq_true hi]
      show (g46 b).bind _ = _
      rw [g46_eq]
      show (match eqI (i : Int) (indexB b) with | true => _ | false => _) = _
      cases eqI (i : Int) (indexB b) with
      | true =>
        show chk (roomy (L.length + [c].length) 8) _ = _
        rw [hr]
        show some (Sum.inl (((b, c, (), (), (), (addI .i64 (i : Int) 1), ()), (a, z, L ++ [c], ())) : D24_4.X)) = _
        rw [addI_one i (by omega)]; rfl
      | false =>
        show (ix a.node.params (i : Int)).bind _ = _
        rw [ix_nat, hg]
        show chk (roomy (L.length + [a.node.params[i]].length) 8) _ = _
        rw [hr]
        show some (Sum.inl (((b, c, (), (), (), (addI .i64 (i : Int) 1), ()), (a, z, L ++ [a.node.params[i]], ())) : D24_4.X)) = _
        rw [addI_one i (by omega)]; rfl
    exact key _ _ hlt htk) (by
    show (match ltI (a.node.params.length : Int) (a.node.params.length : Int) with | true => _ | false => _) = _
    rw [ltI_nat, decide_eq_false (Nat.lt_irrefl _)])
  have htake : (setI a.node.params (indexB b) c).take a.node.params.length = setI a.node.params (indexB b) c := List.take_of_length_le (by rw [setI_length]; exact Nat.le_refl _)
  exact this.trans (congrArg (fun L : List Int => (some (((), (), (), ()), (a, z, L, ())) : Option Y24_4)) htake)

theorem g24_eq (a : Dedit) (b : List UInt8) (c : Int) (h : a.node.params.length * 8 ≤ 140737488355328) : g24 a b c = some (setE a b c) := by
  unfold g24 setE
  cases eqS b ([97] : List UInt8) with
  | true => rfl
  | false =>
   cases eqS b ([97, 116] : List UInt8) with
   | true => rfl
   | false =>
    cases eqS b ([98] : List UInt8) with
    | true => rfl
    | false =>
     cases eqS b ([100, 120] : List UInt8) with
     | true => rfl
     | false =>
      cases eqS b ([100, 121] : List UInt8) with
      | true => rfl
      | false =>
       cases eqS b ([103] : List UInt8) with
       | true => rfl
       | false =>
        cases eqS b ([104] : List UInt8) with
        | true => rfl
        | false =>
         cases eqS b ([105, 100] : List UInt8) with
         | true => rfl
         | false =>
          cases eqS b ([111, 112, 97, 99, 105, 116, 121] : List UInt8) with
          | true => rfl
          | false =>
           cases eqS b ([112, 97, 114, 101, 110, 116] : List UInt8) with
           | true => rfl
           | false =>
            cases eqS b ([114] : List UInt8) with
            | true => rfl
            | false =>
             cases eqS b ([116, 111] : List UInt8) with
             | true => rfl
             | false =>
              cases eqS b ([118, 97, 108, 117, 101] : List UInt8) with
              | true => rfl
              | false =>
               cases eqS b ([119] : List UInt8) with
               | true => rfl
               | false =>
                cases eqS b ([120] : List UInt8) with
                | true => rfl
                | false =>
                 cases eqS b ([121] : List UInt8) with
                 | true => rfl
                 | false =>
                  exact (congrArg (fun o : Option Y24_4 => Option.bind o _) (L24_eq a b c zeroE h)).trans rfl

theorem setE_len (a : Dedit) (b : List UInt8) (c : Int) : (setE a b c).node.params.length = a.node.params.length := by
  unfold setE
  cases eqS b ([97] : List UInt8) with
  | true => rfl
  | false =>
   cases eqS b ([97, 116] : List UInt8) with
   | true => rfl
   | false =>
    cases eqS b ([98] : List UInt8) with
    | true => rfl
    | false =>
     cases eqS b ([100, 120] : List UInt8) with
     | true => rfl
     | false =>
      cases eqS b ([100, 121] : List UInt8) with
      | true => rfl
      | false =>
       cases eqS b ([103] : List UInt8) with
       | true => rfl
       | false =>
        cases eqS b ([104] : List UInt8) with
        | true => rfl
        | false =>
         cases eqS b ([105, 100] : List UInt8) with
         | true => rfl
         | false =>
          cases eqS b ([111, 112, 97, 99, 105, 116, 121] : List UInt8) with
          | true => rfl
          | false =>
           cases eqS b ([112, 97, 114, 101, 110, 116] : List UInt8) with
           | true => rfl
           | false =>
            cases eqS b ([114] : List UInt8) with
            | true => rfl
            | false =>
             cases eqS b ([116, 111] : List UInt8) with
             | true => rfl
             | false =>
              cases eqS b ([118, 97, 108, 117, 101] : List UInt8) with
              | true => rfl
              | false =>
               cases eqS b ([119] : List UInt8) with
               | true => rfl
               | false =>
                cases eqS b ([120] : List UInt8) with
                | true => rfl
                | false =>
                 cases eqS b ([121] : List UInt8) with
                 | true => rfl
                 | false =>
                  exact setI_length _ _ _

theorem setE_setE (a : Dedit) (b : List UInt8) (c d : Int) : setE (setE a b c) b d = setE a b d := by
  unfold setE
  cases eqS b ([97] : List UInt8) with
  | true => rfl
  | false =>
   cases eqS b ([97, 116] : List UInt8) with
   | true => rfl
   | false =>
    cases eqS b ([98] : List UInt8) with
    | true => rfl
    | false =>
     cases eqS b ([100, 120] : List UInt8) with
     | true => rfl
     | false =>
      cases eqS b ([100, 121] : List UInt8) with
      | true => rfl
      | false =>
       cases eqS b ([103] : List UInt8) with
       | true => rfl
       | false =>
        cases eqS b ([104] : List UInt8) with
        | true => rfl
        | false =>
         cases eqS b ([105, 100] : List UInt8) with
         | true => rfl
         | false =>
          cases eqS b ([111, 112, 97, 99, 105, 116, 121] : List UInt8) with
          | true => rfl
          | false =>
           cases eqS b ([112, 97, 114, 101, 110, 116] : List UInt8) with
           | true => rfl
           | false =>
            cases eqS b ([114] : List UInt8) with
            | true => rfl
            | false =>
             cases eqS b ([116, 111] : List UInt8) with
             | true => rfl
             | false =>
              cases eqS b ([118, 97, 108, 117, 101] : List UInt8) with
              | true => rfl
              | false =>
               cases eqS b ([119] : List UInt8) with
               | true => rfl
               | false =>
                cases eqS b ([120] : List UInt8) with
                | true => rfl
                | false =>
                 cases eqS b ([121] : List UInt8) with
                 | true => rfl
                 | false =>
                  simp only [setI_setI]

theorem setE_sm {a : Dedit} (h : EditSm a) (b : List UInt8) (c : Int) : EditSm (setE a b c) := by
  unfold setE
  cases eqS b ([97] : List UInt8) with
  | true => exact ⟨h.nmask, h.nimage, h.params, h.stops, h.segs, h.warp, h.mask, h.image, h.samples, h.dynamics, h.curves⟩
  | false =>
   cases eqS b ([97, 116] : List UInt8) with
   | true => exact ⟨h.nmask, h.nimage, h.params, h.stops, h.segs, h.warp, h.mask, h.image, h.samples, h.dynamics, h.curves⟩
   | false =>
    cases eqS b ([98] : List UInt8) with
    | true => exact ⟨h.nmask, h.nimage, h.params, h.stops, h.segs, h.warp, h.mask, h.image, h.samples, h.dynamics, h.curves⟩
    | false =>
     cases eqS b ([100, 120] : List UInt8) with
     | true => exact ⟨h.nmask, h.nimage, h.params, h.stops, h.segs, h.warp, h.mask, h.image, h.samples, h.dynamics, h.curves⟩
     | false =>
      cases eqS b ([100, 121] : List UInt8) with
      | true => exact ⟨h.nmask, h.nimage, h.params, h.stops, h.segs, h.warp, h.mask, h.image, h.samples, h.dynamics, h.curves⟩
      | false =>
       cases eqS b ([103] : List UInt8) with
       | true => exact ⟨h.nmask, h.nimage, h.params, h.stops, h.segs, h.warp, h.mask, h.image, h.samples, h.dynamics, h.curves⟩
       | false =>
        cases eqS b ([104] : List UInt8) with
        | true => exact ⟨h.nmask, h.nimage, h.params, h.stops, h.segs, h.warp, h.mask, h.image, h.samples, h.dynamics, h.curves⟩
        | false =>
         cases eqS b ([105, 100] : List UInt8) with
         | true => exact ⟨h.nmask, h.nimage, h.params, h.stops, h.segs, h.warp, h.mask, h.image, h.samples, h.dynamics, h.curves⟩
         | false =>
          cases eqS b ([111, 112, 97, 99, 105, 116, 121] : List UInt8) with
          | true => exact ⟨h.nmask, h.nimage, h.params, h.stops, h.segs, h.warp, h.mask, h.image, h.samples, h.dynamics, h.curves⟩
          | false =>
           cases eqS b ([112, 97, 114, 101, 110, 116] : List UInt8) with
           | true => exact ⟨h.nmask, h.nimage, h.params, h.stops, h.segs, h.warp, h.mask, h.image, h.samples, h.dynamics, h.curves⟩
           | false =>
            cases eqS b ([114] : List UInt8) with
            | true => exact ⟨h.nmask, h.nimage, h.params, h.stops, h.segs, h.warp, h.mask, h.image, h.samples, h.dynamics, h.curves⟩
            | false =>
             cases eqS b ([116, 111] : List UInt8) with
             | true => exact ⟨h.nmask, h.nimage, h.params, h.stops, h.segs, h.warp, h.mask, h.image, h.samples, h.dynamics, h.curves⟩
             | false =>
              cases eqS b ([118, 97, 108, 117, 101] : List UInt8) with
              | true => exact ⟨h.nmask, h.nimage, h.params, h.stops, h.segs, h.warp, h.mask, h.image, h.samples, h.dynamics, h.curves⟩
              | false =>
               cases eqS b ([119] : List UInt8) with
               | true => exact ⟨h.nmask, h.nimage, h.params, h.stops, h.segs, h.warp, h.mask, h.image, h.samples, h.dynamics, h.curves⟩
               | false =>
                cases eqS b ([120] : List UInt8) with
                | true => exact ⟨h.nmask, h.nimage, h.params, h.stops, h.segs, h.warp, h.mask, h.image, h.samples, h.dynamics, h.curves⟩
                | false =>
                 cases eqS b ([121] : List UInt8) with
                 | true => exact ⟨h.nmask, h.nimage, h.params, h.stops, h.segs, h.warp, h.mask, h.image, h.samples, h.dynamics, h.curves⟩
                 | false =>
                  exact ⟨h.nmask, h.nimage, by have := h.params; show (setI _ _ _).length * 8 ≤ _; rw [setI_length]; exact this, h.stops, h.segs, h.warp, h.mask, h.image, h.samples, h.dynamics, h.curves⟩

/-! ## Arguments by their names -/
def lookS (n : List UInt8) (l : List (List UInt8 × Int)) : Option Int := lookL (keyEq (U := UU) Ty.str) n l
def setS (n : List UInt8) (v : Int) (l : List (List UInt8 × Int)) : List (List UInt8 × Int) := setL (keyEq (U := UU) Ty.str) n v l

theorem lookS_setS (n m : List UInt8) (v : Int) : ∀ l : List (List UInt8 × Int), lookS n (setS m v l) = match eqS n m with | true => some v | false => lookS n l
  | [] => by
    show (match eqS n m with | true => some v | false => none) = _
    cases eqS n m <;> rfl
  | (a, b) :: l => by
    show lookS n (match eqS m a with | true => (m, v) :: l | false => (a, b) :: setS m v l) = match eqS n m with | true => some v | false => (match eqS n a with | true => some b | false => lookS n l)
    cases hma : eqS m a with
    | true =>
      have hma := eqS_iff.1 hma
      subst hma
      show (match eqS n m with | true => some v | false => lookS n l) = _
      cases eqS n m <;> rfl
    | false =>
      show (match eqS n a with | true => some b | false => lookS n (setS m v l)) = _
      rw [lookS_setS n m v l]
      cases hnm : eqS n m with
      | false => rfl
      | true =>
        have hnm := eqS_iff.1 hnm
        subst hnm
        rw [hma]

/-- the map of the first arguments -/
def esOf (l : List Darg) : List (List UInt8 × Int) := l.foldl (fun es x => setS x.name x.value es) []
/-- the value of a name -/
def lookA (l : List Darg) (n : List UInt8) : Option Int := lookS n (esOf l)

theorem esOf_snoc (l : List Darg) (x : Darg) : esOf (l ++ [x]) = setS x.name x.value (esOf l) := by unfold esOf; rw [List.foldl_append]; rfl
theorem lookA_snoc (l : List Darg) (x : Darg) (n : List UInt8) : lookA (l ++ [x]) n = match eqS n x.name with | true => some x.value | false => lookA l n := by
  unfold lookA; rw [esOf_snoc, lookS_setS]

theorem lookF_any (n : List UInt8) : ∀ (l : List Darg) (es : List (List UInt8 × Int)), (lookS n (l.foldl (fun es x => setS x.name x.value es) es)).isSome = ((lookS n es).isSome || l.any fun y => eqS n y.name)
  | [], es => by simp
  | x :: l, es => by
    rw [List.foldl_cons, lookF_any n l, lookS_setS, List.any_cons]
    cases eqS n x.name <;> simp

theorem lookA_any (l : List Darg) (n : List UInt8) : (lookA l n).isSome = l.any fun y => eqS n y.name := by
  unfold lookA esOf
  rw [lookF_any]; rfl

theorem take_snoc {α : Type} {l : List α} {i : Nat} {x : α} (h : l[i]? = some x) : l.take (i + 1) = l.take i ++ [x] := by rw [List.take_add_one, h]; rfl

/-- does the argument repeat an earlier name? -/
def againA (l : List Darg) (i : Nat) (x : Darg) : Bool := (l.take i).any fun y => eqS x.name y.name

/-- is there a name that is given twice? -/
def dupA (l : List Darg) : Bool := foldAt (S := Unit) (fun i x s => match againA l i x with | true => .inr true | false => .inl s) (fun _ => false) l 0 ()

theorem foldAt_map {α S Y Z : Type} {F : Nat → α → S → S ⊕ Y} {F' : Nat → α → S → S ⊕ Z} {fin : S → Y} {fin' : S → Z} (g : Y → Z) (hF : ∀ i a s, F' i a s = match F i a s with | .inl s => .inl s | .inr y => .inr (g y)) (hfin : ∀ s, fin' s = g (fin s)) :
    ∀ (l : List α) (i : Nat) (s : S), foldAt F' fin' l i s = g (foldAt F fin l i s)
  | [], _, s => hfin s
  | a :: l, i, s => by
    unfold foldAt
    rw [hF]
    cases F i a s with
    | inl s' => exact foldAt_map g hF hfin l (i + 1) s'
    | inr y => rfl

/-- the edit with the binds' values, or the error -/
def fillB (args : List Darg) (binds : List Dbind) (e : Dedit) : Dedit × Int × Unit :=
  foldAt (fun _ b e => match lookA args b.param with | some v => .inl (setE e b.field v) | none => .inr (zeroE, 9, ())) (fun e => (e, 0, ())) binds 0 e

def fillR (a : Daction) (args : List Darg) : Dedit × Int × Unit := match eqI (singleE a) 0 with
  | false => (zeroE, singleE a, ())
  | true => match dupA args with
    | true => (zeroE, 10, ())
    | false => fillB args a.binds a.edit

/-- what the args' loops say: a name twice, or none -/
theorem dup_loop {X Y : Type} {step : X → Option (X ⊕ Y)} (args : List Darg) {st : Nat → X} {z y : Y}
    (h1 : ∀ i x, args[i]? = some x → step (st i) = some (match againA args i x with | true => .inr z | false => .inl (st (i + 1)))) (h2 : step (st args.length) = some (.inr y)) :
    loopOf step (st 0) = some (match dupA args with | true => z | false => y) := by
  have := fold_loop (S := Unit) (step := step) args (st := fun i _ => st i) (fun _ _ => True) (F := fun i x s => match againA args i x with | true => .inr z | false => .inl s) (fin := fun _ => y) (s := ()) trivial
    (fun i x s hx _ => by
      rw [h1 i x hx]
      cases againA args i x <;> rfl) (fun _ _ _ _ _ _ _ => trivial) (fun _ _ => h2)
  rw [this]
  congr 1
  have e := foldAt_map (S := Unit) (F := fun i x s => match againA args i x with | true => .inr true | false => .inl s) (fin := fun _ => false) (fun b : Bool => match b with | true => z | false => y)
    (F' := fun i x s => match againA args i x with | true => .inr z | false => .inl s) (fin' := fun _ => y) (fun i a s => by cases againA args i a <;> rfl) (fun _ => rfl) args 0 ()
  exact e

theorem L7a_eq (a : Daction) (args : List Darg) (h : args.length ≤ 4611686018427387904) :
    loopOf step7_6 ((((), (), (), args, (args.length : Int), (0 : Int), ()), (a, zeroE, ([] : List (List UInt8 × Int)), ())) : D7_6.X) =
      some (match dupA args with | true => .inl (((), (10 : Int), ()), (zeroE, ())) | false => .inr (((), (), (), ()), (a, zeroE, esOf args, ()))) := by
  have := dup_loop (step := step7_6) args (st := fun i => ((((), (), (), args, (args.length : Int), (i : Int), ()), (a, zeroE, esOf (args.take i), ())) : D7_6.X)) (z := .inl (((), (10 : Int), ()), (zeroE, ()))) (y := .inr (((), (), (), ()), (a, zeroE, esOf args, ())))
    (fun i x hx => by
      have hi := get_lt hx
      have hes : esOf (args.take (i + 1)) = setS x.name x.value (esOf (args.take i)) := by rw [take_snoc hx, esOf_snoc]
      have hag : againA args i x = (lookA (args.take i) x.name).isSome := (lookA_any _ _).symm
      have key : ∀ es', es' = setS x.name x.value (esOf (args.take i)) → step7_6 ((((), (), (), args, (args.length : Int), (i : Int), ()), (a, zeroE, esOf (args.take i), ())) : D7_6.X) =
          some (match againA args i x with | true => .inr (.inl (((), (10 : Int), ()), (zeroE, ()))) | false => .inl ((((), (), (), args, (args.length : Int), ((i + 1 : Nat) : Int), ()), (a, zeroE, es', ())) : D7_6.X)) := by
        intro es' hes'
        subst hes'
        rw [hag]
        show (match ltI (i : Int) (args.length : Int) with | true => _ | false => _) = _
        rw [ltI_nat, decide_eq_true hi]
        show (ix args (i : Int)).bind _ = _
        rw [ix_nat, hx]
        show (match lookS x.name (esOf (args.take i)) with | some _ => _ | none => _) = some (match (lookS x.name (esOf (args.take i))).isSome with | true => _ | false => _)
        cases lookS x.name (esOf (args.take i)) with
        | some v => rfl
        | none =>
          show some (Sum.inl ((((), (), (), args, (args.length : Int), (addI .i64 (i : Int) 1), ()), (a, zeroE, _, ())) : D7_6.X)) = _
          rw [addI_one i (by omega)]; rfl
      exact key _ hes) (by
      show (match ltI (args.length : Int) (args.length : Int) with | true => _ | false => _) = _
      rw [ltI_nat, decide_eq_false (Nat.lt_irrefl _), List.take_length])
  exact this

theorem L8a_eq (a : Daction) (args : List Darg) (h : args.length ≤ 4611686018427387904) :
    loopOf step8_5 (((args, (), (), (0 : Int), ()), (a, zeroE, ())) : D8_5.X) = some (match dupA args with | true => .inl (((), (10 : Int), ()), (zeroE, ())) | false => .inr ((args, (), (), ()), (a, zeroE, ()))) := by
  have := dup_loop (step := step8_5) args (st := fun i => (((args, (), (), (i : Int), ()), (a, zeroE, ())) : D8_5.X)) (z := .inl (((), (10 : Int), ()), (zeroE, ()))) (y := .inr ((args, (), (), ()), (a, zeroE, ())))
    (fun i x hx => by
      have hi := get_lt hx
      have hlen : (args.take i).length = i := by simp; omega
      have inner := any_loop (step := step8_8) (args.take i) (st := fun k => (((args, (), (), (i : Int), (k : Int), ()), (a, zeroE, ())) : D8_8.X)) (p := fun y => eqS x.name y.name) (z := fun _ => .inl (((), (10 : Int), ()), (zeroE, ()))) (y := .inr ((args, (), (), (i : Int), ()), (a, zeroE, ())))
        (fun k y hy => by
          have hk := get_lt hy
          rw [hlen] at hk
          have hy' : args[k]? = some y := by rw [List.getElem?_take] at hy; simpa [hk] using hy
          show (match ltI (k : Int) (i : Int) with | true => _ | false => _) = _
          rw [ltI_nat, decide_eq_true hk]
          show (ix args (i : Int)).bind _ = _
          rw [ix_nat, hx]
          show (ix args (k : Int)).bind _ = _
          rw [ix_nat, hy']
          show (match eqS x.name y.name with | true => _ | false => _) = _
          cases eqS x.name y.name with
          | true => rfl
          | false =>
            show some (Sum.inl (((args, (), (), (i : Int), (addI .i64 (k : Int) 1), ()), (a, zeroE, ())) : D8_8.X)) = _
            rw [addI_one k (by omega)]; rfl) (by
          rw [hlen]
          show (match ltI (i : Int) (i : Int) with | true => _ | false => _) = _
          rw [ltI_nat, decide_eq_false (Nat.lt_irrefl _)])
      show (match ltI (i : Int) (args.length : Int) with | true => _ | false => _) = _
      rw [ltI_nat, decide_eq_true hi]
      unfold againA
      rcases inner with ⟨g1, k, g2⟩ | ⟨g1, g2⟩
      · rw [g1]
        exact (congrArg (fun o : Option Y8_8 => Option.bind o _) g2).trans rfl
      · rw [g1]
        refine (congrArg (fun o : Option Y8_8 => Option.bind o _) g2).trans ?_
        show some (Sum.inl (((args, (), (), (addI .i64 (i : Int) 1), ()), (a, zeroE, ())) : D8_5.X)) = _
        rw [addI_one i (by omega)]; rfl) (by
      show (match ltI (args.length : Int) (args.length : Int) with | true => _ | false => _) = _
      rw [ltI_nat, decide_eq_false (Nat.lt_irrefl _)])
  exact this

end Am
