/- Contracts and loops. Printed by gen/auto.py. -/
import Derived.Test.YtbeffjadfgbojaaAmC5
namespace Am
open Go Go.Proofs
set_option maxRecDepth 100000

def D19_6 : Desc UU := ⟨32, [(3, .row 0 1), (8, .cell (.sl Ty.action)), (9, .cell (.int .i64)), (10, .cell (.int .i64)), (15, .cell (.sl Ty.bind)), (16, .cell (.int .i64)), (17, .cell (.int .i64))], [.row Ty.str]⟩
def D19_6x0 : Desc UU := ⟨32, [(3, .row 0 1), (8, .cell (.sl Ty.action)), (9, .cell (.int .i64)), (10, .cell (.int .i64))], [.row Ty.str]⟩
abbrev Y19_6 := D19_6x0.X
def outs19_6 (y : Y19_6) : AExit × St UU := ((.exit 2), D19_6x0.enc y)
def kont19_6 {R : Type} (y : Y19_6) (k : AExit → St UU → Option R) : Option R := k (.exit 2) (D19_6x0.enc y)
def other19_6 (ex : AExit) (st : St UU) : Option Y19_6 := match ex with
  | (.exit 2) => match D19_6x0.go st with
    | some y => some y
    | none => none
  | _ => none
theorem outok19_6 : OutOK other19_6 outs19_6 := ⟨fun ex st y hne h => by
  unfold other19_6 at h
  split at h
  · split at h
    · rename_i y' hy; cases h; exact ⟨rfl, go_pull hy⟩
    · cases h
  · cases h⟩
noncomputable def step19_6 (x : D19_6.X) : Option (D19_6.X ⊕ Y19_6) :=
  let s8 : List Daction := x.1.2.1
  let s9 : Int := x.1.2.2.1
  let s10 : Int := x.1.2.2.2.1
  let s15 : List Dbind := x.1.2.2.2.2.1
  let s16 : Int := x.1.2.2.2.2.2.1
  let s17 : Int := x.1.2.2.2.2.2.2.1
  let b0 : List (List UInt8) := x.2.1
  (match (ltI s17 s16) with | true => (ix s15 s17).bind fun x399 => chk (roomy (b0.length + [x399.param].length) 16) (some (.inl (((), s8, s9, s10, s15, s16, (addI .i64 s17 (1 : Int)), ()), ((appL (α := (List UInt8)) b0 [x399.param]), ())))) | false => some (.inr (((), s8, s9, s10, ()), (b0, ()))))
theorem step19_6_eq : ∀ x, exec (E [] []) 200 19 (loopAt Try.f19 6) (D19_6.enc x) (roundK D19_6.go other19_6) = step19_6 x := fun x => by
  obtain ⟨⟨s3, s8, s9, s10, s15, s16, s17, _⟩, ⟨b0, _⟩⟩ := x
  kernel_rfl
noncomputable def cut19_6 : Cut UU := loopCut D19_6 (loopOf step19_6) outs19_6 kont19_6
theorem cut19_6_ok : CutAt Try.prog 19 6 cut19_6 := cut (cons := []) (cuts := []) trivial trivial (fn := Try.f19) ⟨Try.func19, name19⟩ (by kernel_rfl) outok19_6 (fun R y k => by rfl) 200 step19_6_eq

def D19_3 : Desc UU := ⟨32, [(3, .row 0 1), (8, .cell (.sl Ty.action)), (9, .cell (.int .i64)), (10, .cell (.int .i64))], [.row Ty.str]⟩
def D19_3x0 : Desc UU := ⟨32, [(3, .row 0 1)], [.row Ty.str]⟩
abbrev Y19_3 := D19_3x0.X
def outs19_3 (y : Y19_3) : AExit × St UU := ((.exit 0), D19_3x0.enc y)
def kont19_3 {R : Type} (y : Y19_3) (k : AExit → St UU → Option R) : Option R := k (.exit 0) (D19_3x0.enc y)
def other19_3 (ex : AExit) (st : St UU) : Option Y19_3 := match ex with
  | (.exit 0) => match D19_3x0.go st with
    | some y => some y
    | none => none
  | _ => none
theorem outok19_3 : OutOK other19_3 outs19_3 := ⟨fun ex st y hne h => by
  unfold other19_3 at h
  split at h
  · split at h
    · rename_i y' hy; cases h; exact ⟨rfl, go_pull hy⟩
    · cases h
  · cases h⟩
noncomputable def step19_3 (x : D19_3.X) : Option (D19_3.X ⊕ Y19_3) :=
  let s8 : List Daction := x.1.2.1
  let s9 : Int := x.1.2.2.1
  let s10 : Int := x.1.2.2.2.1
  let b0 : List (List UInt8) := x.2.1
  (match (ltI s10 s9) with | true => (ix s8 s10).bind fun x405 => (loopOf step19_6 (((), s8, s9, s10, x405.binds, (x405.binds.length : Int), (0 : Int), ()), (b0, ()))).bind fun y406 => (let z407 := y406; some (.inl (((), z407.1.2.1, z407.1.2.2.1, (addI .i64 z407.1.2.2.2.1 (1 : Int)), ()), (z407.2.1, ())))) | false => some (.inr (((), ()), (b0, ()))))
theorem step19_3_eq : ∀ x, exec (E [] [(19, 6, cut19_6)]) 200 19 (loopAt Try.f19 3) (D19_3.enc x) (roundK D19_3.go other19_3) = step19_3 x := fun x => by
  obtain ⟨⟨s3, s8, s9, s10, _⟩, ⟨b0, _⟩⟩ := x
  kernel_rfl
noncomputable def cut19_3 : Cut UU := loopCut D19_3 (loopOf step19_3) outs19_3 kont19_3
theorem cut19_3_ok : CutAt Try.prog 19 3 cut19_3 := cut (cons := []) (cuts := [(19, 6, cut19_6)]) trivial ⟨cut19_6_ok, trivial⟩ (fn := Try.f19) ⟨Try.func19, name19⟩ (by kernel_rfl) outok19_3 (fun R y k => by rfl) 200 step19_3_eq

noncomputable def g19 (a : List Daction) : Option (List (List UInt8)) :=
  (loopOf step19_3 (((), a, (a.length : Int), (0 : Int), ()), ([], ()))).bind fun y408 => (let z409 := y408; (sortP z409.2.1).bind fun r410 => (compactP r410).bind fun r411 => some r411)
noncomputable def con19 : Con UU := conOf [.cell (.sl Ty.action)] (.one (.cell (.sl Ty.str))) (fun x => g19 x.1)
theorem con19_ok : ConOK Try.prog 19 con19 := con (cons := []) (cuts := [(19, 3, cut19_3)]) trivial ⟨cut19_3_ok, trivial⟩ (fn := Try.f19) ⟨Try.func19, name19⟩ (by kernel_rfl) (by kernel_rfl) rfl rfl 200
  (fun x => by obtain ⟨a, _⟩ := x; kernel_rfl)

noncomputable def g5 (a : List Daction) : Option Bool :=
  (g15 ).bind fun r412 => (g16 ).bind fun r413 => (g14 r412 r413).bind fun r414 => (match r414 with | true => (g17 a).bind fun r415 => (g18 a).bind fun r416 => (match (eqI r415 r416) with | true => (g19 a).bind fun r417 => (g20 a).bind fun r418 => (g14 r417 r418).bind fun r419 => (match r419 with | true => (g10 ).bind fun r420 => some r420 | false => some false) | false => some false) | false => some false)
noncomputable def con5 : Con UU := conOf [.cell (.sl Ty.action)] (.one (.cell .bool)) (fun x => g5 x.1)
theorem con5_ok : ConOK Try.prog 5 con5 := con (cons := [(10, con10), (14, con14), (15, con15), (16, con16), (17, con17), (18, con18), (19, con19), (20, con20)]) (cuts := []) ⟨con10_ok, con14_ok, con15_ok, con16_ok, con17_ok, con18_ok, con19_ok, con20_ok, trivial⟩ trivial (fn := Try.f5) ⟨Try.func5, name5⟩ (by kernel_rfl) (by kernel_rfl) rfl rfl 200
  (fun x => by obtain ⟨a, _⟩ := x; kernel_rfl)
end Am
