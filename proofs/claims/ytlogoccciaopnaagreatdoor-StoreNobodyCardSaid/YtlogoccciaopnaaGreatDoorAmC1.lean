/- The environment of the runs. -/
import Derived.Test.YtlogoccciaopnaaGreatDoorAmC0
import Derived.Test.YtlogoccciaopnaaGreatDoorAmE4
import Derived.Test.YtlogoccciaopnaaGreatDoorAmB2
namespace Am
open Go Go.Proofs
set_option maxRecDepth 100000

theorem mixed : Tryz.prog.follows .mixedOrders = true := by kernel_rfl

noncomputable def specs (f : FuncId) : Option (List (AV UU) → Heap UU → Option (AV UU × Heap UU)) := match Nat.beq f 133 with
  | true => some (copyCheckS 183)
  | false => match Nat.beq f 96 with
    | true => some (bldStringS 183 5)
    | false => none

theorem specs_ok : ∀ f s, specs f = some s → SpecOK Tryz.prog f s := by
  intro f s h
  unfold specs at h
  split at h
  · rename_i hf
    rw [Nat.eq_of_beq_eq_true hf]
    cases h
    exact spec133
  · split at h
    · rename_i hf
      rw [Nat.eq_of_beq_eq_true hf]
      cases h
      exact spec96
    · cases h

/-- the environment of these contracts and loops -/
noncomputable def E (cons : List (Nat × Con UU)) (cuts : List (Nat × Nat × Cut UU)) : Env UU := ((mkEnv tiTree fnTree cons cuts).withSpec specs).withBld (fun t => Nat.beq t 183)
theorem E_ok {cons : List (Nat × Con UU)} {cuts : List (Nat × Nat × Cut UU)} (h : ConsOK Tryz.prog cons) : EnvOK Tryz.prog (E cons cuts) := ((mkEnv_ok ti_ok flat_ok fn_ok h).withSpec specs_ok).withBld _
theorem E_cuts {cons : List (Nat × Con UU)} {cuts : List (Nat × Nat × Cut UU)} (h : CutsAt Tryz.prog cuts) : CutsOK Tryz.prog (E cons cuts) := mkEnv_cuts (ti := tiTree) (fn := fnTree) (cons := cons) h

theorem isSome_body {o : Option Code} (h : o.isSome = true) : ∃ c, o = some c := by cases o with | none => cases h | some c => exact ⟨c, rfl⟩

theorem con {cons : List (Nat × Con UU)} {cuts : List (Nat × Nat × Cut UU)} (h1 : ConsOK Tryz.prog cons) (h2 : CutsAt Tryz.prog cuts) {f : Nat} {fn : Func} (hf : FnOK Tryz.prog f fn) (hb : fn.body.isSome = true) (hg : fnTree.get f = some fn)
    {ds : List (VD UU)} {rd : RD UU} (hds : typedL ds = true) (hrd : rd.typed = true) {g : VDs ds → Option rd.den} (n : Nat) (hs : ∀ x, run (E cons cuts) n f (encVDs ds x) [] (endK rd) = g x) : ConOK Tryz.prog f (conOf ds rd g) := by
  obtain ⟨body, hb⟩ := isSome_body hb
  exact con_ok (E_ok h1) (E_cuts h2) mixed hf.1 hb hf.2 hds hrd hg hs

theorem conNil {cons : List (Nat × Con UU)} {cuts : List (Nat × Nat × Cut UU)} (h1 : ConsOK Tryz.prog cons) (h2 : CutsAt Tryz.prog cuts) {f : Nat} {fn : Func} (hf : FnOK Tryz.prog f fn) (hb : fn.body.isSome = true) (hg : fnTree.get f = some fn)
    {t : UU.T} {rd : RD UU} (hrd : rd.typed = true) {g : List (UU.den t) → Option rd.den} (n : Nat) (hs1 : run (E cons cuts) n f [.nilsl] [] (endK rd) = g []) (hs2 : ∀ xs, run (E cons cuts) n f [.nsl t xs] [] (endK rd) = g xs) :
    ConOK Tryz.prog f (conOf [.cell (.sl t)] rd (fun x => g x.1)) := by
  obtain ⟨body, hb⟩ := isSome_body hb
  exact con_nil_ok (E_ok h1) (E_cuts h2) mixed hf.1 hb hf.2 hrd hg hs1 hs2

theorem ownNil {cons : List (Nat × Con UU)} {cuts : List (Nat × Nat × Cut UU)} (h1 : ConsOK Tryz.prog cons) (h2 : CutsAt Tryz.prog cuts) {f : Nat} {fn : Func} (hf : FnOK Tryz.prog f fn) (hb : fn.body.isSome = true) (hg : fnTree.get f = some fn)
    {t : UU.T} {g : List (UU.den t) → Option (List (UU.den t))} (n : Nat) (hs1 : run (E cons cuts) n f [.nilsl] [] (endOwn t) = g []) (hs2 : ∀ xs, run (E cons cuts) n f [.nsl t xs] [] (endOwn t) = g xs) :
    ConOK Tryz.prog f (conOwn [.cell (.sl t)] t (fun x => g x.1)) := by
  obtain ⟨body, hb⟩ := isSome_body hb
  exact own_nil_ok (E_ok h1) (E_cuts h2) mixed hf.1 hb hf.2 hg hs1 hs2

/-- a function, by its run -/
theorem conR {cons : List (Nat × Con UU)} {f : Nat} {fn : Func} (h1 : ConsOK Tryz.prog cons) (hf : FnOK Tryz.prog f fn) (hb : fn.body.isSome = true) (hg : fnTree.get f = some fn) (n : Nat) (fl bo : Bool) : ConOK Tryz.prog f (conRun (E cons []) n f fl bo) := by
  obtain ⟨body, hb⟩ := isSome_body hb
  exact conRun_ok (E_ok h1) (E_cuts (cuts := []) trivial) mixed hf.1 hb hf.2 n hg fl bo

end Am
