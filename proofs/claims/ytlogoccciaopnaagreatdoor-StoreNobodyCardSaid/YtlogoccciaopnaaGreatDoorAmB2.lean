/- From contracts on typed data to the given statements. -/
import Derived.Test.YtlogoccciaopnaaGreatDoorAmB1
import Derived.ChangeSame
import Derived.WideKeyArgs
import Derived.RowKit
namespace Am
open Go
variable {U : TyU} {P : Program} {G : Env U}

/-- nothing that was there has turned -/
structure Keeps (w w' : World) : Prop where
  size : w.heap.size ≤ w'.heap.size
  heap : ∀ b, b < w.heap.size → w'.heap[b]? = w.heap[b]?
  io : sameIO w w'

theorem law_calls {f : FuncId} {ds : List (VD U)} {g : VDs ds → Option Bool} (hcon : ConOK P f (conOf ds (.one (.cell .bool)) g)) (x : VDs ds) (happ : matchVDs [] ds (encVDs ds x) = some x) (hg : g x = some true)
    {w : World} {args : Array Value} (hr : RelL (En.ofWorld w) (encVDs ds x) args.toList) {Post : Ending → World → Prop} (hP : ∀ w', Keeps w w' → Post (.returned (.bool true)) w') : Calls P f args w Post := by
  refine hcon.call (encVDs ds x) true ?_ rfl (En.ofWorld w) args (En.ofWorld_wf w) (fun _ => rfl) hr Post (fun c e' hw hE hv => ?_)
  · show (match matchVDs [] ds (encVDs ds x) with | some x => g x | none => none) = some true
    rw [happ]; exact hg
  · have hv : Rel (U := U) e' (.bool true) c := hv
    rw [hv.bool_inv]
    exact hP _ ⟨hE.size, fun b hb => hE.keep b hb (fun k o hD => absurd hD id), hE.io⟩

section
variable {H : Type} {enc' : TypeId × Value → H} {w w' : World}

theorem Keeps.sameAt (h : Keeps w w') {p : MemPlace} (hp : p.block < w.heap.size) : w.sameAt w' p := by
  cases p with
  | cell b off =>
    have hb := h.heap b hp
    show w'.cell? ⟨b, off, none⟩ = w.cell? ⟨b, off, none⟩
    simp only [World.cell?]
    rw [hb]
  | map b => exact h.heap b hp

theorem Keeps.keptBut (h : Keeps w w') (may : MemPlace → Prop) : w.keptBut w' may := by
  refine ⟨h.io.1, h.io.2, fun i hi => ?_⟩
  rw [h.heap i hi]
  cases w.heap[i]? with
  | none => rfl
  | some o =>
    cases o with
    | cells c t fr => exact ⟨rfl, rfl, rfl, fun _ _ => rfl⟩
    | map es clock => exact .inr ⟨rfl, rfl⟩
    | _ => rfl

theorem trodAll_stays (hl : laidOutB P = true) {sp' : Nat → Bool} : ∀ {ts : List TypeId} {vs : List Value} {ds : List (DataW H)} {ps : List MemPlace}, (∀ t ∈ ts, P.readableRec t = true ∧ t < P.types.size) →
    DataW.TrodAll enc' P w 0 (fun _ => true) true ts vs ds ps → (∀ p ∈ ps, w.sameAt w' p) → (∀ p ∈ ps, sp' p.block = true) → DataW.TrodAll enc' P w' 0 sp' true ts vs ds ps
  | [], [], [], _, _, h, _, _ => h
  | t :: ts, v :: vs, d :: ds, ps, hr, h, h1, h2 => by
    obtain ⟨p, q, g1, g2, rfl⟩ := h
    have ht := hr t (List.mem_cons_self ..)
    exact ⟨p, q, WideElems.Trod_stays hl ht.1 ht.2 g1 (fun x hx => h1 x (List.mem_append_left _ hx)) (fun x hx => h2 x (List.mem_append_left _ hx)),
      trodAll_stays hl (fun t ht => hr t (List.mem_cons_of_mem _ ht)) g2 (fun x hx => h1 x (List.mem_append_right _ hx)) (fun x hx => h2 x (List.mem_append_right _ hx)), rfl⟩
  | [], _ :: _, _, _, _, h, _, _ => h.elim
  | [], [], _ :: _, _, _, h, _, _ => h.elim
  | _ :: _, [], _, _, _, h, _, _ => h.elim
  | _ :: _, _ :: _, [], _, _, h, _, _ => h.elim

theorem law_post {fn : Func} {s : ChangeSpec} {args : Array Value} {ds gs : List (DataW H)} {before : List MemPlace} {t0 : TypeId} (hvars : s.vars = []) (hbool : P.underlying t0 = some .bool) (hres : fn.resultTypes = #[t0])
    (hl : laidOutB P = true) (hread : ∀ t ∈ fn.params.toList, P.readableRec t = true ∧ t < P.types.size) (hW : DataW.Whole enc' P fn.params.toList s.vars false w args.toList ds gs before)
    (hspec : s.fn H (ds ++ gs) = { results := [.lit (.bool true)], args := ds }) (hk : Keeps w w') : s.post enc' P fn false true false false w args (.bool true) w' := by
  have hlt : ∀ p ∈ before, p.block < w.heap.size := fun p hp => hW.lt p hp
  have hW' := hW
  obtain ⟨p, q, hA, hV, rfl, hz, hn⟩ := hW
  rw [hvars] at hV
  cases gs with
  | cons _ _ => exact hV.elim
  | nil =>
  have hq : q = [] := hV
  subst hq
  refine ⟨ds, [], p ++ [], [], p, [], hW', ?_, ?_, ?_, hk.keptBut _, fun h => (by cases h)⟩
  · rw [hspec, hres]
    exact ⟨[], [], RowKit.shut_bool hbool true, rfl, rfl⟩
  · rw [hspec]
    exact trodAll_stays hl hread hA (fun x hx => hk.sameAt (hlt x (List.mem_append_left _ hx))) (fun x hx => by simpa using hlt x (List.mem_append_left _ hx))
  · rw [hspec, hvars]; exact rfl

variable {N : Nat} {B : U.T → Nat} {W : TypeId → Nat} {S : TypeId → DataW H → Prop}

/-- an argument that is a struct -/
theorem readArg_ty (hti : TIs P G) (hS : SmallD P N W S) (hW : ∀ e i c, G.ti e = some i → i.ty = some c → W e = B c) {D : Nat} (hsh : ∀ e i c, G.ti e = some i → i.ty = some c → shapeOf G.ti D e = some (U.shape c)) {sp : Nat → Bool} {held : Bool} {base : Nat} {t : TypeId} {c : U.T} {fs : Array Field} {v : Value} {d : DataW H} {p : List MemPlace} {n : Nat}
    (hshape : shapeOf G.ti n t = some (U.shape c)) (hu : P.underlying t = some (.struct fs)) (hagg : U.isAgg c = true) (hval : Value.okWide P w .any base t v) (hd : DataW.Trod enc' P w 0 sp held t v d p) (hs : S t d) :
    ∃ x : U.den c, Rel (En.ofWorld w) (encV c x) v ∧ ∀ y ∈ enc c x, SmallV N B y := by
  obtain ⟨fuel, hf⟩ := hd
  unfold Value.okWide at hval
  rw [hu] at hval
  obtain ⟨cs, rfl, _, _⟩ := hval
  obtain ⟨y, h1, h2⟩ := read hti hS hW hsh fuel t _ _ n _ hf hshape hs
  refine ⟨U.untup c y, ?_, by rw [enc_untup]; exact h2⟩
  unfold encV
  rw [hagg]
  show Rel _ (.agg (enc c (U.untup c y))) _
  rw [enc_untup]
  exact Rel.of_agg h1

/-- an argument that is a slice -/
theorem readArg_sl (hti : TIs P G) (hS : SmallD P N W S) (hW : ∀ e i c, G.ti e = some i → i.ty = some c → W e = B c) {D : Nat} (hsh : ∀ e i c, G.ti e = some i → i.ty = some c → shapeOf G.ti D e = some (U.shape c)) {sp : Nat → Bool} {held : Bool} {base : Nat} {t e : TypeId} {c : U.T} {v : Value} {d : DataW H} {p : List MemPlace} {n : Nat}
    (hshape : shapeOf G.ti n t = some [.sl c]) (hu : P.underlying t = some (.slice e)) (hval : Value.okWide P w .any base t v) (hd : DataW.Trod enc' P w 0 sp held t v d p) (hs : S t d) :
    ∃ xs : List (U.den c), Rel (En.ofWorld w) (.fsl c xs) v ∧ SmallV (U := U) N B (.fsl c xs) := by
  obtain ⟨fuel, hf⟩ := hd
  have hv : v.cells.toList = [v] := by
    cases v <;> simp [Value.okWide, hu, Cell.okWide, Cell.ok] at hval
    rfl
  rw [hv] at hf
  obtain ⟨y, h1, h2⟩ := read hti hS hW hsh fuel t _ _ n _ hf hshape hs
  obtain ⟨u, rest, h3, h4, _⟩ := RelL.cons_inv (show RelL (En.ofWorld w) (encC (.sl c) y.1 :: encT [] y.2) [v] from h1)
  cases h3
  exact ⟨y.1, h4, h2 _ (List.mem_cons_self ..)⟩
end
end Am
