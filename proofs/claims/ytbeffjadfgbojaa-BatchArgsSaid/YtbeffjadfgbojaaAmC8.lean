/- Fill, of a row that is lent to it. Contracts and loops. Printed by gen/auto.py. -/
import Derived.Test.YtbeffjadfgbojaaAmC4
import Derived.Test.YtbeffjadfgbojaaAmC6
namespace Am
open Go Go.Proofs
set_option maxRecDepth 100000

def D7_6b : Desc UU := ⟨72, [(2, .ptr 0 85 0 0), (4, .ptr 1 84 0 0), (7, .map 2), (24, .bor Ty.arg), (25, .cell (.int .i64)), (26, .cell (.int .i64))], [.tbox Ty.action, .tbox Ty.edit, .tm Ty.str Ty.int]⟩
noncomputable def step7_6b : D7_6b.X → Option (D7_6b.X ⊕ Y7_6) := step7_6
theorem step7_6b_eq : ∀ x, exec (E [] []) 200 7 (loopAt Try.f7 6) (D7_6b.enc x) (roundK D7_6b.go other7_6) = step7_6b x := fun x => by
  obtain ⟨⟨s2, s4, s7, s24, s25, s26, _⟩, ⟨b0, b1, b2, _⟩⟩ := x
  kernel_rfl
noncomputable def cut7_6b : Cut UU := loopCut D7_6b (loopOf step7_6b) outs7_6 kont7_6
theorem cut7_6b_ok : CutAt Try.prog 7 6 cut7_6b := cut (cons := []) (cuts := []) trivial trivial (fn := Try.f7) ⟨Try.func7, name7⟩ (by kernel_rfl) outok7_6 (fun R y k => by rcases y with _ | _ <;> rfl) 200 step7_6b_eq

noncomputable def con7b : Con UU := conOf [.ty Ty.action, .bor Ty.arg] (.many [.ty Ty.edit, .cell (.int .i64)]) (fun x => g7 x.1 x.2.1)
theorem con7b_ok : ConOK Try.prog 7 con7b := conBor (cons := [(21, con21), (38, con38), (39, con39), (40, con40), (41, con41), (42, con42), (43, con43), (44, con44)]) (cuts := [(7, 6, cut7_6b), (7, 15, cut7_15), (22, 7, cut22_7)]) ⟨con21_ok, con38_ok, con39_ok, con40_ok, con41_ok, con42_ok, con43_ok, con44_ok, trivial⟩ ⟨cut7_6b_ok, cut7_15_ok, cut22_7_ok, trivial⟩ (fn := Try.f7) ⟨Try.func7, name7⟩ (by kernel_rfl) (by kernel_rfl) rfl rfl 200
  (fun x => by obtain ⟨a, b, _⟩ := x; kernel_rfl)

/-- Fill, of frozen arguments or of a row -/
noncomputable def con7m : Con UU := conAlt [.ty Ty.action, .cell (.sl Ty.arg)] [.ty Ty.action, .bor Ty.arg] (.many [.ty Ty.edit, .cell (.int .i64)]) (fun x => g7 x.1 x.2.1) (fun x => g7 x.1 x.2.1)
theorem con7m_ok : ConOK Try.prog 7 con7m := con_alt_ok con7_ok con7b_ok
end Am

namespace Am
open Go Go.Proofs
set_option maxRecDepth 100000

def D6_4 : Desc UU := ⟨121, [(1, .cell (.sl Ty.arg)), (3, .ptr 0 85 0 0), (5, .ptr 1 2 0 0), (7, .ptr 2 84 0 0), (8, .cell (.int .i64)), (9, .row 3 2), (10, .cell (.int .i64))], [.tbox Ty.action, .tbox Ty.arg, .tbox Ty.edit, .row Ty.arg]⟩
def D6_4x0 : Desc UU := ⟨121, [(1, .cell (.sl Ty.arg)), (3, .ptr 0 85 0 0), (5, .ptr 1 2 0 0), (7, .ptr 2 84 0 0), (8, .cell (.int .i64)), (9, .row 3 2)], [.tbox Ty.action, .tbox Ty.arg, .tbox Ty.edit, .row Ty.arg]⟩
abbrev Y6_4 := D6_4x0.X
def outs6_4 (y : Y6_4) : AExit × St UU := ((.exit 0), D6_4x0.enc y)
def kont6_4 {R : Type} (y : Y6_4) (k : AExit → St UU → Option R) : Option R := k (.exit 0) (D6_4x0.enc y)
def other6_4 (ex : AExit) (st : St UU) : Option Y6_4 := match ex with
  | (.exit 0) => match D6_4x0.go st with
    | some y => some y
    | none => none
  | _ => none
theorem outok6_4 : OutOK other6_4 outs6_4 := ⟨fun ex st y hne h => by
  unfold other6_4 at h
  split at h
  · split at h
    · rename_i y' hy; cases h; exact ⟨rfl, go_pull hy⟩
    · cases h
  · cases h⟩
noncomputable def step6_4 (x : D6_4.X) : Option (D6_4.X ⊕ Y6_4) :=
  let s1 : List Darg := x.1.1
  let s8 : Int := x.1.2.2.2.2.1
  let s10 : Int := x.1.2.2.2.2.2.2.1
  let b0 : Daction := x.2.1
  let b1 : Darg := x.2.2.1
  let b2 : Dedit := x.2.2.2.1
  let b3 : List Darg := x.2.2.2.2.1
  (match (leI (0 : Int) s10) with | true => (ix s1 s10).bind fun x423 => chk (roomy (b3.length + [x423].length) 24) (some (.inl ((s1, (), (), (), s8, (), (subI .i64 s10 (1 : Int)), ()), (b0, b1, b2, (appL (α := Darg) b3 [x423]), ())))) | false => some (.inr ((s1, (), (), (), s8, (), ()), (b0, b1, b2, b3, ()))))
theorem step6_4_eq : ∀ x, exec (E [] []) 200 6 (loopAt Try.f6 4) (D6_4.enc x) (roundK D6_4.go other6_4) = step6_4 x := fun x => by
  obtain ⟨⟨s1, s3, s5, s7, s8, s9, s10, _⟩, ⟨b0, b1, b2, b3, _⟩⟩ := x
  kernel_rfl
noncomputable def cut6_4 : Cut UU := loopCut D6_4 (loopOf step6_4) outs6_4 kont6_4
theorem cut6_4_ok : CutAt Try.prog 6 4 cut6_4 := cut (cons := []) (cuts := []) trivial trivial (fn := Try.f6) ⟨Try.func6, name6⟩ (by kernel_rfl) outok6_4 (fun R y k => by rfl) 200 step6_4_eq

def D6_11 : Desc UU := ⟨121, [(1, .cell (.sl Ty.arg)), (3, .ptr 0 85 0 0), (5, .ptr 1 2 0 0), (7, .ptr 2 84 0 0), (8, .cell (.int .i64)), (9, .row 3 2), (13, .cell (.int .i64))], [.tbox Ty.action, .tbox Ty.arg, .tbox Ty.edit, .row Ty.arg]⟩
def D6_11x0 : Desc UU := ⟨121, [(6, .cell .bool)], []⟩
def D6_11x1 : Desc UU := ⟨121, [(3, .ptr 0 85 0 0), (5, .ptr 1 2 0 0), (7, .ptr 2 84 0 0), (8, .cell (.int .i64)), (9, .row 3 2)], [.tbox Ty.action, .tbox Ty.arg, .tbox Ty.edit, .row Ty.arg]⟩
abbrev Y6_11 := D6_11x0.X ⊕ (D6_11x1.X)
def outs6_11 (y : Y6_11) : AExit × St UU := match y with
  | (.inl z) => (.ret, D6_11x0.enc z)
  | (.inr z) => ((.exit 2), D6_11x1.enc z)
def kont6_11 {R : Type} (y : Y6_11) (k : AExit → St UU → Option R) : Option R := match y with
  | (.inl z) => k .ret (D6_11x0.enc z)
  | (.inr z) => k (.exit 2) (D6_11x1.enc z)
def other6_11 (ex : AExit) (st : St UU) : Option Y6_11 := match ex with
  | .ret => match D6_11x0.go st with
    | some y => some (.inl y)
    | none => none
  | (.exit 2) => match D6_11x1.go st with
    | some y => some (.inr y)
    | none => none
  | _ => none
theorem outok6_11 : OutOK other6_11 outs6_11 := ⟨fun ex st y hne h => by
  unfold other6_11 at h
  split at h
  · split at h
    · rename_i y' hy; cases h; exact ⟨rfl, go_pull hy⟩
    · cases h
  · split at h
    · rename_i y' hy; cases h; exact ⟨rfl, go_pull hy⟩
    · cases h
  · cases h⟩
noncomputable def step6_11 (x : D6_11.X) : Option (D6_11.X ⊕ Y6_11) :=
  let s1 : List Darg := x.1.1
  let s8 : Int := x.1.2.2.2.2.1
  let s13 : Int := x.1.2.2.2.2.2.2.1
  let b0 : Daction := x.2.1
  let b1 : Darg := x.2.2.1
  let b2 : Dedit := x.2.2.2.1
  let b3 : List Darg := x.2.2.2.2.1
  (match (ltI s13 (s1.length : Int)) with | true => (ix s1 s13).bind fun x430 => (match (eqS x430.name b1.name) with | true => (g10 ).bind fun r431 => some (.inr (.inl ((r431, ()), (())))) | false => some (.inl ((s1, (), (), (), s8, (), (addI .i64 s13 (1 : Int)), ()), (b0, b1, b2, b3, ())))) | false => some (.inr (.inr (((), (), (), s8, (), ()), (b0, b1, b2, b3, ())))))
theorem step6_11_eq : ∀ x, exec (E [(10, con10)] []) 200 6 (loopAt Try.f6 11) (D6_11.enc x) (roundK D6_11.go other6_11) = step6_11 x := fun x => by
  obtain ⟨⟨s1, s3, s5, s7, s8, s9, s13, _⟩, ⟨b0, b1, b2, b3, _⟩⟩ := x
  kernel_rfl
noncomputable def cut6_11 : Cut UU := loopCut D6_11 (loopOf step6_11) outs6_11 kont6_11
theorem cut6_11_ok : CutAt Try.prog 6 11 cut6_11 := cut (cons := [(10, con10)]) (cuts := []) ⟨con10_ok, trivial⟩ trivial (fn := Try.f6) ⟨Try.func6, name6⟩ (by kernel_rfl) outok6_11 (fun R y k => by rcases y with _ | _ <;> rfl) 200 step6_11_eq

def D6_17 : Desc UU := ⟨121, [(3, .ptr 0 85 0 0), (5, .ptr 1 2 0 0), (7, .ptr 2 84 0 0), (8, .cell (.int .i64)), (9, .row 3 2), (14, .cell (.sl Ty.str)), (15, .cell (.int .i64))], [.tbox Ty.action, .tbox Ty.arg, .tbox Ty.edit, .row Ty.arg]⟩
def D6_17x0 : Desc UU := ⟨121, [(6, .cell .bool)], []⟩
def D6_17x1 : Desc UU := ⟨121, [(3, .ptr 0 85 0 0), (5, .ptr 1 2 0 0), (7, .ptr 2 84 0 0), (8, .cell (.int .i64)), (9, .row 3 2)], [.tbox Ty.action, .tbox Ty.arg, .tbox Ty.edit, .row Ty.arg]⟩
abbrev Y6_17 := D6_17x0.X ⊕ (D6_17x1.X)
def outs6_17 (y : Y6_17) : AExit × St UU := match y with
  | (.inl z) => (.ret, D6_17x0.enc z)
  | (.inr z) => ((.exit 4), D6_17x1.enc z)
def kont6_17 {R : Type} (y : Y6_17) (k : AExit → St UU → Option R) : Option R := match y with
  | (.inl z) => k .ret (D6_17x0.enc z)
  | (.inr z) => k (.exit 4) (D6_17x1.enc z)
def other6_17 (ex : AExit) (st : St UU) : Option Y6_17 := match ex with
  | .ret => match D6_17x0.go st with
    | some y => some (.inl y)
    | none => none
  | (.exit 4) => match D6_17x1.go st with
    | some y => some (.inr y)
    | none => none
  | _ => none
theorem outok6_17 : OutOK other6_17 outs6_17 := ⟨fun ex st y hne h => by
  unfold other6_17 at h
  split at h
  · split at h
    · rename_i y' hy; cases h; exact ⟨rfl, go_pull hy⟩
    · cases h
  · split at h
    · rename_i y' hy; cases h; exact ⟨rfl, go_pull hy⟩
    · cases h
  · cases h⟩
noncomputable def step6_17 (x : D6_17.X) : Option (D6_17.X ⊕ Y6_17) :=
  let s8 : Int := x.1.2.2.2.1
  let s14 : List (List UInt8) := x.1.2.2.2.2.2.1
  let s15 : Int := x.1.2.2.2.2.2.2.1
  let b0 : Daction := x.2.1
  let b1 : Darg := x.2.2.1
  let b2 : Dedit := x.2.2.2.1
  let b3 : List Darg := x.2.2.2.2.1
  (match (ltI s15 (s14.length : Int)) with | true => (ix s14 s15).bind fun x438 => (match (eqS x438 b1.name) with | true => (g10 ).bind fun r439 => some (.inr (.inl ((r439, ()), (())))) | false => some (.inl (((), (), (), s8, (), s14, (addI .i64 s15 (1 : Int)), ()), (b0, b1, b2, b3, ())))) | false => some (.inr (.inr (((), (), (), s8, (), ()), (b0, b1, b2, b3, ())))))
theorem step6_17_eq : ∀ x, exec (E [(10, con10)] []) 200 6 (loopAt Try.f6 17) (D6_17.enc x) (roundK D6_17.go other6_17) = step6_17 x := fun x => by
  obtain ⟨⟨s3, s5, s7, s8, s9, s14, s15, _⟩, ⟨b0, b1, b2, b3, _⟩⟩ := x
  kernel_rfl
noncomputable def cut6_17 : Cut UU := loopCut D6_17 (loopOf step6_17) outs6_17 kont6_17
theorem cut6_17_ok : CutAt Try.prog 6 17 cut6_17 := cut (cons := [(10, con10)]) (cuts := []) ⟨con10_ok, trivial⟩ trivial (fn := Try.f6) ⟨Try.func6, name6⟩ (by kernel_rfl) outok6_17 (fun R y k => by rcases y with _ | _ <;> rfl) 200 step6_17_eq

noncomputable def g6 (a : Daction) (b : List Darg) (c : Darg) : Option Bool :=
  (g7 a b).bind fun r421 => (loopOf step6_4 ((b, (), (), (), r421.2.1, (), (subI .i64 (b.length : Int) (1 : Int)), ()), (a, c, r421.1, [], ()))).bind fun y424 => (let z425 := y424; (g7 z425.2.1 z425.2.2.2.2.1).bind fun r426 => (match (!(eqI z425.1.2.2.2.2.1 r426.2.1)) with | true => some false | false => (g9 z425.2.2.2.1 r426.1).bind fun r427 => (match (!r427) with | true => some false | false => (loopOf step6_11 ((z425.1.1, (), (), (), z425.1.2.2.2.2.1, (), (0 : Int), ()), (z425.2.1, z425.2.2.1, z425.2.2.2.1, z425.2.2.2.2.1, ()))).bind fun y432 => (match y432 with | .inl z433 => some z433.1.1 | .inr w450 => (let z434 := w450; (g19 [z434.2.1]).bind fun r435 => (loopOf step6_17 (((), (), (), z434.1.2.2.2.1, (), r435, (0 : Int), ()), (z434.2.1, z434.2.2.1, z434.2.2.2.1, z434.2.2.2.2.1, ()))).bind fun y440 => (match y440 with | .inl z441 => some z441.1.1 | .inr w449 => (let z442 := w449; chk (roomy (z442.2.2.2.2.1.length + [z442.2.2.1].length) 24) ((g7 z442.2.1 (appL (α := Darg) z442.2.2.2.2.1 [z442.2.2.1])).bind fun r443 => (match (!(eqI z442.1.2.2.2.1 r443.2.1)) with | true => some false | false => (g9 z442.2.2.2.1 r443.1).bind fun r444 => (match (!r444) with | true => some false | false => (match (ltI (0 : Int) (z442.2.1.binds.length : Int)) with | true => (g10 ).bind fun r445 => some r445 | false => (match (!(eqI z442.1.2.2.2.1 (0 : Int))) with | true => (g10 ).bind fun r446 => some r446 | false => (g9 z442.2.2.2.1 z442.2.1.edit).bind fun r447 => (match r447 with | true => (g10 ).bind fun r448 => some r448 | false => some false)))))))))))))
noncomputable def con6 : Con UU := conOf [.ty Ty.action, .cell (.sl Ty.arg), .ty Ty.arg] (.one (.cell .bool)) (fun x => g6 x.1 x.2.1 x.2.2.1)
theorem con6_ok : ConOK Try.prog 6 con6 := con (cons := [(7, con7m), (9, con9), (10, con10), (19, con19)]) (cuts := [(6, 4, cut6_4), (6, 11, cut6_11), (6, 17, cut6_17)]) ⟨con7m_ok, con9_ok, con10_ok, con19_ok, trivial⟩ ⟨cut6_4_ok, cut6_11_ok, cut6_17_ok, trivial⟩ (fn := Try.f6) ⟨Try.func6, name6⟩ (by kernel_rfl) (by kernel_rfl) rfl rfl 200
  (fun x => by obtain ⟨a, b, c, _⟩ := x; kernel_rfl)
end Am
