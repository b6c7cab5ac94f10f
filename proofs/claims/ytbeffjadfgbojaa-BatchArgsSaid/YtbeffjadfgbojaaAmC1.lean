/- The leaves. -/
import Derived.Test.YtbeffjadfgbojaaAmC0
import Derived.Test.YtbeffjadfgbojaaAmE3
import Derived.Test.YtbeffjadfgbojaaChecked
import Derived.Eval
namespace Am
open Go Go.Proofs
set_option maxRecDepth 100000

/-- the environment of these contracts and loops -/
noncomputable def E (cons : List (Nat × Con UU)) (cuts : List (Nat × Nat × Cut UU)) : Env UU := (mkEnv tiTree fnTree cons cuts).withProc procs
theorem E_ok {cons : List (Nat × Con UU)} {cuts : List (Nat × Nat × Cut UU)} (h : ConsOK Try.prog cons) : EnvOK Try.prog (E cons cuts) := (mkEnv_ok ti_ok flat_ok fn_ok h).withProc procs_ok
theorem E_cuts {cons : List (Nat × Con UU)} {cuts : List (Nat × Nat × Cut UU)} (h : CutsAt Try.prog cuts) : CutsOK Try.prog (E cons cuts) := mkEnv_cuts (ti := tiTree) (fn := fnTree) (cons := cons) h

abbrev appL {α : Type} (a b : List α) : List α := a ++ b

theorem isSome_body {o : Option Code} (h : o.isSome = true) : ∃ c, o = some c := by cases o with | none => cases h | some c => exact ⟨c, rfl⟩

theorem con {cons : List (Nat × Con UU)} {cuts : List (Nat × Nat × Cut UU)} (h1 : ConsOK Try.prog cons) (h2 : CutsAt Try.prog cuts) {f : Nat} {fn : Func} (hf : FnOK Try.prog f fn) (hb : fn.body.isSome = true) (hg : fnTree.get f = some fn)
    {ds : List (VD UU)} {rd : RD UU} (hds : typedL ds = true) (hrd : rd.typed = true) {g : VDs ds → Option rd.den} (n : Nat) (hs : ∀ x, run (E cons cuts) n f (encVDs ds x) [] (endK rd) = g x) : ConOK Try.prog f (conOf ds rd g) := by
  obtain ⟨body, hb⟩ := isSome_body hb
  exact con_ok (E_ok h1) (E_cuts h2) mixed hf.1 hb hf.2 hds hrd hg hs

theorem conBor {cons : List (Nat × Con UU)} {cuts : List (Nat × Nat × Cut UU)} (h1 : ConsOK Try.prog cons) (h2 : CutsAt Try.prog cuts) {f : Nat} {fn : Func} (hf : FnOK Try.prog f fn) (hb : fn.body.isSome = true) (hg : fnTree.get f = some fn)
    {ds : List (VD UU)} {rd : RD UU} (hds : borrowL ds = true) (hrd : rd.typed = true) {g : VDs ds → Option rd.den} (n : Nat) (hs : ∀ x, run (E cons cuts) n f (encVDs ds x) [] (endK rd) = g x) : ConOK Try.prog f (conOf ds rd g) := by
  obtain ⟨body, hb⟩ := isSome_body hb
  exact con_bor_ok (E_ok h1) (E_cuts h2) mixed hf.1 hb hf.2 hds hrd hg hs

theorem conNil {cons : List (Nat × Con UU)} {cuts : List (Nat × Nat × Cut UU)} (h1 : ConsOK Try.prog cons) (h2 : CutsAt Try.prog cuts) {f : Nat} {fn : Func} (hf : FnOK Try.prog f fn) (hb : fn.body.isSome = true) (hg : fnTree.get f = some fn)
    {t : UU.T} {rd : RD UU} (hrd : rd.typed = true) {g : List (UU.den t) → Option rd.den} (n : Nat) (hs1 : run (E cons cuts) n f [.nilsl] [] (endK rd) = g []) (hs2 : ∀ xs, run (E cons cuts) n f [.nsl t xs] [] (endK rd) = g xs) :
    ConOK Try.prog f (conOf [.cell (.sl t)] rd (fun x => g x.1)) := by
  obtain ⟨body, hb⟩ := isSome_body hb
  exact con_nil_ok (E_ok h1) (E_cuts h2) mixed hf.1 hb hf.2 hrd hg hs1 hs2

theorem ownNil {cons : List (Nat × Con UU)} {cuts : List (Nat × Nat × Cut UU)} (h1 : ConsOK Try.prog cons) (h2 : CutsAt Try.prog cuts) {f : Nat} {fn : Func} (hf : FnOK Try.prog f fn) (hb : fn.body.isSome = true) (hg : fnTree.get f = some fn)
    {t : UU.T} {g : List (UU.den t) → Option (List (UU.den t))} (n : Nat) (hs1 : run (E cons cuts) n f [.nilsl] [] (endOwn t) = g []) (hs2 : ∀ xs, run (E cons cuts) n f [.nsl t xs] [] (endOwn t) = g xs) :
    ConOK Try.prog f (conOwn [.cell (.sl t)] t (fun x => g x.1)) := by
  obtain ⟨body, hb⟩ := isSome_body hb
  exact own_nil_ok (E_ok h1) (E_cuts h2) mixed hf.1 hb hf.2 hg hs1 hs2

theorem own {cons : List (Nat × Con UU)} {cuts : List (Nat × Nat × Cut UU)} (h1 : ConsOK Try.prog cons) (h2 : CutsAt Try.prog cuts) {f : Nat} {fn : Func} (hf : FnOK Try.prog f fn) (hb : fn.body.isSome = true) (hg : fnTree.get f = some fn)
    {ds : List (VD UU)} {t : UU.T} (hds : typedL ds = true) {g : VDs ds → Option (List (UU.den t))} (n : Nat) (hs : ∀ x, run (E cons cuts) n f (encVDs ds x) [] (endOwn t) = g x) : ConOK Try.prog f (conOwn ds t g) := by
  obtain ⟨body, hb⟩ := isSome_body hb
  exact own_ok (E_ok h1) (E_cuts h2) mixed hf.1 hb hf.2 hds hg hs

theorem cut {cons : List (Nat × Con UU)} {cuts : List (Nat × Nat × Cut UU)} (h1 : ConsOK Try.prog cons) (h2 : CutsAt Try.prog cuts) {f id : Nat} {fn : Func} (hf : FnOK Try.prog f fn) (hone : (loopsAt fn id).length = 1)
    {D : Desc UU} {Y : Type} {outs : Y → AExit × St UU} {other : AExit → St UU → Option Y} (ho : OutOK other outs) {kont : {R : Type} → Y → (AExit → St UU → Option R) → Option R} (hkont : ∀ (R : Type) (y : Y) (k : AExit → St UU → Option R), kont y k = k (outs y).1 (outs y).2) {step : D.X → Option (D.X ⊕ Y)} (n : Nat)
    (hs : ∀ x, exec (E cons cuts) n f (loopAt fn id) (D.enc x) (roundK D.go other) = step x) : CutAt Try.prog f id (loopCut D (loopOf step) outs kont) :=
  cutAt_of hf.1 hone (loop_ok (E_ok h1) (E_cuts h2) mixed (within_loop hf.1 hone) ho hkont hs)

end Am
