/- Contracts and loops. Printed by gen/auto.py. -/
import Derived.Test.YtbeffjadfgbojaaAmC1
namespace Am
open Go Go.Proofs
set_option maxRecDepth 100000

def D14_4 : Desc UU := ⟨26, [(0, .cell (.sl Ty.str)), (1, .cell (.sl Ty.str)), (5, .cell (.int .i64))], []⟩
def D14_4x0 : Desc UU := ⟨26, [(4, .cell .bool)], []⟩
def D14_4x1 : Desc UU := ⟨26, [], []⟩
abbrev Y14_4 := D14_4x0.X ⊕ (D14_4x1.X)
def outs14_4 (y : Y14_4) : AExit × St UU := match y with
  | (.inl z) => (.ret, D14_4x0.enc z)
  | (.inr z) => ((.exit 0), D14_4x1.enc z)
def kont14_4 {R : Type} (y : Y14_4) (k : AExit → St UU → Option R) : Option R := match y with
  | (.inl z) => k .ret (D14_4x0.enc z)
  | (.inr z) => k (.exit 0) (D14_4x1.enc z)
def other14_4 (ex : AExit) (st : St UU) : Option Y14_4 := match ex with
  | .ret => match D14_4x0.go st with
    | some y => some (.inl y)
    | none => none
  | (.exit 0) => match D14_4x1.go st with
    | some y => some (.inr y)
    | none => none
  | _ => none
theorem outok14_4 : OutOK other14_4 outs14_4 := ⟨fun ex st y hne h => by
  unfold other14_4 at h
  split at h
  · split at h
    · rename_i y' hy; cases h; exact ⟨rfl, go_pull hy⟩
    · cases h
  · split at h
    · rename_i y' hy; cases h; exact ⟨rfl, go_pull hy⟩
    · cases h
  · cases h⟩
noncomputable def step14_4 (x : D14_4.X) : Option (D14_4.X ⊕ Y14_4) :=
  let s0 : List (List UInt8) := x.1.1
  let s1 : List (List UInt8) := x.1.2.1
  let s5 : Int := x.1.2.2.1
  (match (ltI s5 (s0.length : Int)) with | true => (ix s0 s5).bind fun x3 => (ix s1 s5).bind fun x4 => (match (!(eqS x3 x4)) with | true => some (.inr (.inl ((false, ()), (())))) | false => some (.inl ((s0, s1, (addI .i64 s5 (1 : Int)), ()), (())))) | false => some (.inr (.inr ((()), (())))))
theorem step14_4_eq : ∀ x, exec (E [] []) 200 14 (loopAt Try.f14 4) (D14_4.enc x) (roundK D14_4.go other14_4) = step14_4 x := fun x => by
  obtain ⟨⟨s0, s1, s5, _⟩, _⟩ := x
  kernel_rfl
noncomputable def cut14_4 : Cut UU := loopCut D14_4 (loopOf step14_4) outs14_4 kont14_4
theorem cut14_4_ok : CutAt Try.prog 14 4 cut14_4 := cut (cons := []) (cuts := []) trivial trivial (fn := Try.f14) ⟨Try.func14, name14⟩ (by kernel_rfl) outok14_4 (fun R y k => by rcases y with _ | _ <;> rfl) 200 step14_4_eq

noncomputable def g14 (a : List (List UInt8)) (b : List (List UInt8)) : Option Bool :=
  (match (!(eqI (a.length : Int) (b.length : Int))) with | true => some false | false => (loopOf step14_4 ((a, b, (0 : Int), ()), (()))).bind fun y5 => (match y5 with | .inl z6 => some z6.1.1 | .inr w8 => (let z7 := w8; some true)))
noncomputable def con14 : Con UU := conOf [.cell (.sl Ty.str), .cell (.sl Ty.str)] (.one (.cell .bool)) (fun x => g14 x.1 x.2.1)
theorem con14_ok : ConOK Try.prog 14 con14 := con (cons := []) (cuts := [(14, 4, cut14_4)]) trivial ⟨cut14_4_ok, trivial⟩ (fn := Try.f14) ⟨Try.func14, name14⟩ (by kernel_rfl) (by kernel_rfl) rfl rfl 200
  (fun x => by obtain ⟨a, b, _⟩ := x; kernel_rfl)

noncomputable def g15  : Option (List (List UInt8)) :=
  some ([([97] : List UInt8), ([97, 116] : List UInt8), ([98] : List UInt8), ([100, 120] : List UInt8), ([100, 121] : List UInt8), ([103] : List UInt8), ([104] : List UInt8), ([105, 100] : List UInt8), ([111, 112, 97, 99, 105, 116, 121] : List UInt8), ([112, 97, 114, 97, 109, 48] : List UInt8), ([112, 97, 114, 97, 109, 49] : List UInt8), ([112, 97, 114, 97, 109, 50] : List UInt8), ([112, 97, 114, 97, 109, 51] : List UInt8), ([112, 97, 114, 101, 110, 116] : List UInt8), ([114] : List UInt8), ([116, 111] : List UInt8), ([118, 97, 108, 117, 101] : List UInt8), ([119] : List UInt8), ([120] : List UInt8), ([121] : List UInt8)])
noncomputable def con15 : Con UU := conOf [] (.one (.cell (.sl Ty.str))) (fun x => g15 )
theorem con15_ok : ConOK Try.prog 15 con15 := con (cons := []) (cuts := []) trivial trivial (fn := Try.f15) ⟨Try.func15, name15⟩ (by kernel_rfl) (by kernel_rfl) rfl rfl 200
  (fun x => by kernel_rfl)

noncomputable def g55 (a : Int) : Option Bool :=
  (match (ltI a (33 : Int)) with | true => some true | false => some (ltI (126 : Int) a))
noncomputable def con55 : Con UU := conOf [.cell (.int .u8)] (.one (.cell .bool)) (fun x => g55 x.1)
theorem con55_ok : ConOK Try.prog 55 con55 := con (cons := []) (cuts := []) trivial trivial (fn := Try.f55) ⟨Try.func55, name55⟩ (by kernel_rfl) (by kernel_rfl) rfl rfl 200
  (fun x => by obtain ⟨a, _⟩ := x; kernel_rfl)

def D72_2 : Desc UU := ⟨19, [(0, .row 0 1), (1, .fn 55 []), (7, .cell (.int .i64)), (8, .cell (.int .i64))], [.row Ty.u8]⟩
def D72_2x0 : Desc UU := ⟨19, [(4, .cell (.int .i64))], []⟩
def D72_2x1 : Desc UU := ⟨19, [], []⟩
abbrev Y72_2 := D72_2x0.X ⊕ (D72_2x1.X)
def outs72_2 (y : Y72_2) : AExit × St UU := match y with
  | (.inl z) => (.ret, D72_2x0.enc z)
  | (.inr z) => ((.exit 0), D72_2x1.enc z)
def kont72_2 {R : Type} (y : Y72_2) (k : AExit → St UU → Option R) : Option R := match y with
  | (.inl z) => k .ret (D72_2x0.enc z)
  | (.inr z) => k (.exit 0) (D72_2x1.enc z)
def other72_2 (ex : AExit) (st : St UU) : Option Y72_2 := match ex with
  | .ret => match D72_2x0.go st with
    | some y => some (.inl y)
    | none => none
  | (.exit 0) => match D72_2x1.go st with
    | some y => some (.inr y)
    | none => none
  | _ => none
theorem outok72_2 : OutOK other72_2 outs72_2 := ⟨fun ex st y hne h => by
  unfold other72_2 at h
  split at h
  · split at h
    · rename_i y' hy; cases h; exact ⟨rfl, go_pull hy⟩
    · cases h
  · split at h
    · rename_i y' hy; cases h; exact ⟨rfl, go_pull hy⟩
    · cases h
  · cases h⟩
noncomputable def step72_2 (x : D72_2.X) : Option (D72_2.X ⊕ Y72_2) :=
  let s7 : Int := x.1.2.2.1
  let s8 : Int := x.1.2.2.2.1
  let b0 : List Int := x.2.1
  (match (ltI s8 s7) with | true => chk (inB s8 b0.length) ((b0[s8.toNat]?).bind fun x13 => (g55 x13).bind fun r14 => (match r14 with | true => some (.inr (.inl ((s8, ()), (())))) | false => some (.inl (((), (), s7, (addI .i64 s8 (1 : Int)), ()), (b0, ()))))) | false => some (.inr (.inr ((()), (())))))
theorem step72_2_eq : ∀ x, exec (E [(55, con55)] []) 200 72 (loopAt Try.f72 2) (D72_2.enc x) (roundK D72_2.go other72_2) = step72_2 x := fun x => by
  obtain ⟨⟨s0, s1, s7, s8, _⟩, ⟨b0, _⟩⟩ := x
  kernel_rfl
noncomputable def cut72_2 : Cut UU := loopCut D72_2 (loopOf step72_2) outs72_2 kont72_2
theorem cut72_2_ok : CutAt Try.prog 72 2 cut72_2 := cut (cons := [(55, con55)]) (cuts := []) ⟨con55_ok, trivial⟩ trivial (fn := Try.f72) ⟨Try.func72, name72⟩ (by kernel_rfl) outok72_2 (fun R y k => by rcases y with _ | _ <;> rfl) 200 step72_2_eq

noncomputable def g34 (a : List UInt8) : Option Bool :=
  (match (eqS a ([] : List UInt8)) with | true => some false | false => (match (ltI (32 : Int) (a.length : Int)) with | true => some false | false => (loopOf step72_2 (((), (), ((a.map fun b => (b.toNat : Int)).length : Int), (0 : Int), ()), ((a.map fun b => (b.toNat : Int)), ()))).bind fun y15 => (match y15 with | .inl z16 => some (!(leI (0 : Int) z16.1.1)) | .inr w18 => (let z17 := w18; some true))))
noncomputable def con34 : Con UU := conOf [.cell .str] (.one (.cell .bool)) (fun x => g34 x.1)
theorem con34_ok : ConOK Try.prog 34 con34 := con (cons := []) (cuts := [(72, 2, cut72_2)]) trivial ⟨cut72_2_ok, trivial⟩ (fn := Try.f34) ⟨Try.func34, name34⟩ (by kernel_rfl) (by kernel_rfl) rfl rfl 200
  (fun x => by obtain ⟨a, _⟩ := x; kernel_rfl)

def D56_2 : Desc UU := ⟨19, [(0, .cell (.sl Ty.str)), (1, .cell .str), (7, .cell (.int .i64)), (8, .cell (.int .i64))], []⟩
def D56_2x0 : Desc UU := ⟨19, [(4, .cell (.int .i64))], []⟩
def D56_2x1 : Desc UU := ⟨19, [], []⟩
abbrev Y56_2 := D56_2x0.X ⊕ (D56_2x1.X)
def outs56_2 (y : Y56_2) : AExit × St UU := match y with
  | (.inl z) => (.ret, D56_2x0.enc z)
  | (.inr z) => ((.exit 0), D56_2x1.enc z)
def kont56_2 {R : Type} (y : Y56_2) (k : AExit → St UU → Option R) : Option R := match y with
  | (.inl z) => k .ret (D56_2x0.enc z)
  | (.inr z) => k (.exit 0) (D56_2x1.enc z)
def other56_2 (ex : AExit) (st : St UU) : Option Y56_2 := match ex with
  | .ret => match D56_2x0.go st with
    | some y => some (.inl y)
    | none => none
  | (.exit 0) => match D56_2x1.go st with
    | some y => some (.inr y)
    | none => none
  | _ => none
theorem outok56_2 : OutOK other56_2 outs56_2 := ⟨fun ex st y hne h => by
  unfold other56_2 at h
  split at h
  · split at h
    · rename_i y' hy; cases h; exact ⟨rfl, go_pull hy⟩
    · cases h
  · split at h
    · rename_i y' hy; cases h; exact ⟨rfl, go_pull hy⟩
    · cases h
  · cases h⟩
noncomputable def step56_2 (x : D56_2.X) : Option (D56_2.X ⊕ Y56_2) :=
  let s0 : List (List UInt8) := x.1.1
  let s1 : List UInt8 := x.1.2.1
  let s7 : Int := x.1.2.2.1
  let s8 : Int := x.1.2.2.2.1
  (match (ltI s8 s7) with | true => (ix s0 s8).bind fun x22 => (match (eqS s1 x22) with | true => some (.inr (.inl ((s8, ()), (())))) | false => some (.inl ((s0, s1, s7, (addI .i64 s8 (1 : Int)), ()), (())))) | false => some (.inr (.inr ((()), (())))))
theorem step56_2_eq : ∀ x, exec (E [] []) 200 56 (loopAt Try.f56 2) (D56_2.enc x) (roundK D56_2.go other56_2) = step56_2 x := fun x => by
  obtain ⟨⟨s0, s1, s7, s8, _⟩, _⟩ := x
  kernel_rfl
noncomputable def cut56_2 : Cut UU := loopCut D56_2 (loopOf step56_2) outs56_2 kont56_2
theorem cut56_2_ok : CutAt Try.prog 56 2 cut56_2 := cut (cons := []) (cuts := []) trivial trivial (fn := Try.f56) ⟨Try.func56, name56⟩ (by kernel_rfl) outok56_2 (fun R y k => by rcases y with _ | _ <;> rfl) 200 step56_2_eq

noncomputable def g56 (a : List (List UInt8)) (b : List UInt8) : Option Int :=
  (loopOf step56_2 ((a, b, (a.length : Int), (0 : Int), ()), (()))).bind fun y23 => (match y23 with | .inl z24 => some z24.1.1 | .inr w26 => (let z25 := w26; some (-1 : Int)))
noncomputable def con56 : Con UU := conOf [.cell (.sl Ty.str), .cell .str] (.one (.cell (.int .i64))) (fun x => g56 x.1 x.2.1)
theorem con56_ok : ConOK Try.prog 56 con56 := con (cons := []) (cuts := [(56, 2, cut56_2)]) trivial ⟨cut56_2_ok, trivial⟩ (fn := Try.f56) ⟨Try.func56, name56⟩ (by kernel_rfl) (by kernel_rfl) rfl rfl 200
  (fun x => by obtain ⟨a, b, _⟩ := x; kernel_rfl)

noncomputable def g35 (a : List (List UInt8)) (b : List UInt8) : Option Bool :=
  (g56 a b).bind fun r27 => some (leI (0 : Int) r27)
noncomputable def con35 : Con UU := conOf [.cell (.sl Ty.str), .cell .str] (.one (.cell .bool)) (fun x => g35 x.1 x.2.1)
theorem con35_ok : ConOK Try.prog 35 con35 := con (cons := [(56, con56)]) (cuts := []) ⟨con56_ok, trivial⟩ trivial (fn := Try.f35) ⟨Try.func35, name35⟩ (by kernel_rfl) (by kernel_rfl) rfl rfl 200
  (fun x => by obtain ⟨a, b, _⟩ := x; kernel_rfl)

def D57_2 : Desc UU := ⟨19, [(0, .cell (.sl Ty.bind)), (1, .fnt 37 [(Ty.bind, 0)]), (7, .cell (.int .i64)), (8, .cell (.int .i64))], []⟩
def D57_2x0 : Desc UU := ⟨19, [(4, .cell (.int .i64))], []⟩
def D57_2x1 : Desc UU := ⟨19, [], []⟩
abbrev Y57_2 := D57_2x0.X ⊕ (D57_2x1.X)
def outs57_2 (y : Y57_2) : AExit × St UU := match y with
  | (.inl z) => (.ret, D57_2x0.enc z)
  | (.inr z) => ((.exit 0), D57_2x1.enc z)
def kont57_2 {R : Type} (y : Y57_2) (k : AExit → St UU → Option R) : Option R := match y with
  | (.inl z) => k .ret (D57_2x0.enc z)
  | (.inr z) => k (.exit 0) (D57_2x1.enc z)
def other57_2 (ex : AExit) (st : St UU) : Option Y57_2 := match ex with
  | .ret => match D57_2x0.go st with
    | some y => some (.inl y)
    | none => none
  | (.exit 0) => match D57_2x1.go st with
    | some y => some (.inr y)
    | none => none
  | _ => none
theorem outok57_2 : OutOK other57_2 outs57_2 := ⟨fun ex st y hne h => by
  unfold other57_2 at h
  split at h
  · split at h
    · rename_i y' hy; cases h; exact ⟨rfl, go_pull hy⟩
    · cases h
  · split at h
    · rename_i y' hy; cases h; exact ⟨rfl, go_pull hy⟩
    · cases h
  · cases h⟩
noncomputable def step57_2 (x : D57_2.X) : Option (D57_2.X ⊕ Y57_2) :=
  let s0 : List Dbind := x.1.1
  let s1 : Dbind × Unit := x.1.2.1
  let s7 : Int := x.1.2.2.1
  let s8 : Int := x.1.2.2.2.1
  (match (ltI s8 s7) with | true => (ix s0 s8).bind fun x30 => (match (eqS x30.field s1.1.field) with | true => some (.inr (.inl ((s8, ()), (())))) | false => some (.inl ((s0, (s1.1, ()), s7, (addI .i64 s8 (1 : Int)), ()), (())))) | false => some (.inr (.inr ((()), (())))))
theorem step57_2_eq : ∀ x, exec (E [] []) 200 57 (loopAt Try.f57 2) (D57_2.enc x) (roundK D57_2.go other57_2) = step57_2 x := fun x => by
  obtain ⟨⟨s0, s1, s7, s8, _⟩, _⟩ := x
  kernel_rfl
noncomputable def cut57_2 : Cut UU := loopCut D57_2 (loopOf step57_2) outs57_2 kont57_2
theorem cut57_2_ok : CutAt Try.prog 57 2 cut57_2 := cut (cons := []) (cuts := []) trivial trivial (fn := Try.f57) ⟨Try.func57, name57⟩ (by kernel_rfl) outok57_2 (fun R y k => by rcases y with _ | _ <;> rfl) 200 step57_2_eq

noncomputable def g57 (a : List Dbind) (b : Dbind × Unit) : Option Int :=
  (loopOf step57_2 ((a, (b.1, ()), (a.length : Int), (0 : Int), ()), (()))).bind fun y31 => (match y31 with | .inl z32 => some z32.1.1 | .inr w34 => (let z33 := w34; some (-1 : Int)))
noncomputable def con57 : Con UU := conOf [.cell (.sl Ty.bind), .fnt 37 [(Ty.bind, 0)]] (.one (.cell (.int .i64))) (fun x => g57 x.1 x.2.1)
theorem con57_ok : ConOK Try.prog 57 con57 := con (cons := []) (cuts := [(57, 2, cut57_2)]) trivial ⟨cut57_2_ok, trivial⟩ (fn := Try.f57) ⟨Try.func57, name57⟩ (by kernel_rfl) (by kernel_rfl) rfl rfl 200
  (fun x => by obtain ⟨a, b, _⟩ := x; kernel_rfl)

noncomputable def g36 (a : List Dbind) (b : Dbind × Unit) : Option Bool :=
  (g57 a (b.1, ())).bind fun r35 => some (leI (0 : Int) r35)
noncomputable def con36 : Con UU := conOf [.cell (.sl Ty.bind), .fnt 37 [(Ty.bind, 0)]] (.one (.cell .bool)) (fun x => g36 x.1 x.2.1)
theorem con36_ok : ConOK Try.prog 36 con36 := con (cons := [(57, con57)]) (cuts := []) ⟨con57_ok, trivial⟩ trivial (fn := Try.f36) ⟨Try.func36, name36⟩ (by kernel_rfl) (by kernel_rfl) rfl rfl 200
  (fun x => by obtain ⟨a, b, _⟩ := x; kernel_rfl)

def D21_4 : Desc UU := ⟨42, [(1, .ptr 0 85 0 0), (10, .cell (.sl Ty.bind)), (11, .cell (.int .i64)), (12, .cell (.int .i64))], [.tbox Ty.action]⟩
def D21_4x0 : Desc UU := ⟨42, [(2, .cell (.int .i64))], []⟩
def D21_4x1 : Desc UU := ⟨42, [], []⟩
abbrev Y21_4 := D21_4x0.X ⊕ (D21_4x1.X)
def outs21_4 (y : Y21_4) : AExit × St UU := match y with
  | (.inl z) => (.ret, D21_4x0.enc z)
  | (.inr z) => ((.exit 0), D21_4x1.enc z)
def kont21_4 {R : Type} (y : Y21_4) (k : AExit → St UU → Option R) : Option R := match y with
  | (.inl z) => k .ret (D21_4x0.enc z)
  | (.inr z) => k (.exit 0) (D21_4x1.enc z)
def other21_4 (ex : AExit) (st : St UU) : Option Y21_4 := match ex with
  | .ret => match D21_4x0.go st with
    | some y => some (.inl y)
    | none => none
  | (.exit 0) => match D21_4x1.go st with
    | some y => some (.inr y)
    | none => none
  | _ => none
theorem outok21_4 : OutOK other21_4 outs21_4 := ⟨fun ex st y hne h => by
  unfold other21_4 at h
  split at h
  · split at h
    · rename_i y' hy; cases h; exact ⟨rfl, go_pull hy⟩
    · cases h
  · split at h
    · rename_i y' hy; cases h; exact ⟨rfl, go_pull hy⟩
    · cases h
  · cases h⟩
noncomputable def step21_4 (x : D21_4.X) : Option (D21_4.X ⊕ Y21_4) :=
  let s10 : List Dbind := x.1.2.1
  let s11 : Int := x.1.2.2.1
  let s12 : Int := x.1.2.2.2.1
  let b0 : Daction := x.2.1
  (match (ltI s12 s11) with | true => (ix s10 s12).bind fun x45 => (g34 x45.param).bind fun r46 => (match (!r46) with | true => some (.inr (.inl (((13 : Int), ()), (())))) | false => (g15 ).bind fun r47 => (g35 r47 x45.field).bind fun r48 => (match (!r48) with | true => some (.inr (.inl (((9 : Int), ()), (())))) | false => chk (upTo s12 b0.binds.length) ((g36 (b0.binds.take s12.toNat) (x45, ())).bind fun r49 => (match r49 with | true => some (.inr (.inl (((10 : Int), ()), (())))) | false => (match (eqS x45.field ([97, 116] : List UInt8)) with | true => some (.inl (((), s10, s11, (addI .i64 s12 (1 : Int)), ()), (b0, ()))) | false => (match (eqS x45.field ([105, 100] : List UInt8)) with | true => some (.inl (((), s10, s11, (addI .i64 s12 (1 : Int)), ()), (b0, ()))) | false => (match (eqS x45.field ([112, 97, 114, 101, 110, 116] : List UInt8)) with | true => some (.inl (((), s10, s11, (addI .i64 s12 (1 : Int)), ()), (b0, ()))) | false => (match (eqS x45.field ([116, 111] : List UInt8)) with | true => some (.inl (((), s10, s11, (addI .i64 s12 (1 : Int)), ()), (b0, ()))) | false => (match (eqS x45.field ([118, 97, 108, 117, 101] : List UInt8)) with | true => some (.inl (((), s10, s11, (addI .i64 s12 (1 : Int)), ()), (b0, ()))) | false => (match (eqS x45.field ([120] : List UInt8)) with | true => some (.inl (((), s10, s11, (addI .i64 s12 (1 : Int)), ()), (b0, ()))) | false => (match (eqS x45.field ([121] : List UInt8)) with | true => some (.inl (((), s10, s11, (addI .i64 s12 (1 : Int)), ()), (b0, ()))) | false => (match (eqS x45.field ([119] : List UInt8)) with | true => some (.inl (((), s10, s11, (addI .i64 s12 (1 : Int)), ()), (b0, ()))) | false => (match (eqS x45.field ([104] : List UInt8)) with | true => some (.inl (((), s10, s11, (addI .i64 s12 (1 : Int)), ()), (b0, ()))) | false => (match (eqS x45.field ([100, 120] : List UInt8)) with | true => some (.inl (((), s10, s11, (addI .i64 s12 (1 : Int)), ()), (b0, ()))) | false => (match (eqS x45.field ([100, 121] : List UInt8)) with | true => some (.inl (((), s10, s11, (addI .i64 s12 (1 : Int)), ()), (b0, ()))) | false => (match (eqS x45.field ([114] : List UInt8)) with | true => some (.inl (((), s10, s11, (addI .i64 s12 (1 : Int)), ()), (b0, ()))) | false => (match (eqS x45.field ([103] : List UInt8)) with | true => some (.inl (((), s10, s11, (addI .i64 s12 (1 : Int)), ()), (b0, ()))) | false => (match (eqS x45.field ([98] : List UInt8)) with | true => some (.inl (((), s10, s11, (addI .i64 s12 (1 : Int)), ()), (b0, ()))) | false => (match (eqS x45.field ([97] : List UInt8)) with | true => some (.inl (((), s10, s11, (addI .i64 s12 (1 : Int)), ()), (b0, ()))) | false => (match (eqS x45.field ([111, 112, 97, 99, 105, 116, 121] : List UInt8)) with | true => some (.inl (((), s10, s11, (addI .i64 s12 (1 : Int)), ()), (b0, ()))) | false => (match (eqS x45.field ([112, 97, 114, 97, 109, 48] : List UInt8)) with | true => (ix x45.field (subI .i64 (x45.field.length : Int) (1 : Int))).bind fun c50 => (match (ltI (IntKind.wrap .i64 (subI .u8 (c50.toNat : Int) (48 : Int))) (b0.edit.node.params.length : Int)) with | true => (ix b0.edit.node.params (IntKind.wrap .i64 (subI .u8 (c50.toNat : Int) (48 : Int)))).bind fun x51 => some (.inl (((), s10, s11, (addI .i64 s12 (1 : Int)), ()), (b0, ()))) | false => some (.inr (.inl (((2 : Int), ()), (()))))) | false => (match (eqS x45.field ([112, 97, 114, 97, 109, 49] : List UInt8)) with | true => (ix x45.field (subI .i64 (x45.field.length : Int) (1 : Int))).bind fun c52 => (match (ltI (IntKind.wrap .i64 (subI .u8 (c52.toNat : Int) (48 : Int))) (b0.edit.node.params.length : Int)) with | true => (ix b0.edit.node.params (IntKind.wrap .i64 (subI .u8 (c52.toNat : Int) (48 : Int)))).bind fun x53 => some (.inl (((), s10, s11, (addI .i64 s12 (1 : Int)), ()), (b0, ()))) | false => some (.inr (.inl (((2 : Int), ()), (()))))) | false => (match (eqS x45.field ([112, 97, 114, 97, 109, 50] : List UInt8)) with | true => (ix x45.field (subI .i64 (x45.field.length : Int) (1 : Int))).bind fun c54 => (match (ltI (IntKind.wrap .i64 (subI .u8 (c54.toNat : Int) (48 : Int))) (b0.edit.node.params.length : Int)) with | true => (ix b0.edit.node.params (IntKind.wrap .i64 (subI .u8 (c54.toNat : Int) (48 : Int)))).bind fun x55 => some (.inl (((), s10, s11, (addI .i64 s12 (1 : Int)), ()), (b0, ()))) | false => some (.inr (.inl (((2 : Int), ()), (()))))) | false => (match (eqS x45.field ([112, 97, 114, 97, 109, 51] : List UInt8)) with | true => (ix x45.field (subI .i64 (x45.field.length : Int) (1 : Int))).bind fun c56 => (match (ltI (IntKind.wrap .i64 (subI .u8 (c56.toNat : Int) (48 : Int))) (b0.edit.node.params.length : Int)) with | true => (ix b0.edit.node.params (IntKind.wrap .i64 (subI .u8 (c56.toNat : Int) (48 : Int)))).bind fun x57 => some (.inl (((), s10, s11, (addI .i64 s12 (1 : Int)), ()), (b0, ()))) | false => some (.inr (.inl (((2 : Int), ()), (()))))) | false => some (.inr (.inl (((2 : Int), ()), (())))))))))))))))))))))))))))) | false => some (.inr (.inr ((()), (())))))
theorem step21_4_eq : ∀ x, exec (E [(15, con15), (34, con34), (35, con35), (36, con36)] []) 200 21 (loopAt Try.f21 4) (D21_4.enc x) (roundK D21_4.go other21_4) = step21_4 x := fun x => by
  obtain ⟨⟨s1, s10, s11, s12, _⟩, ⟨b0, _⟩⟩ := x
  kernel_rfl
noncomputable def cut21_4 : Cut UU := loopCut D21_4 (loopOf step21_4) outs21_4 kont21_4
theorem cut21_4_ok : CutAt Try.prog 21 4 cut21_4 := cut (cons := [(15, con15), (34, con34), (35, con35), (36, con36)]) (cuts := []) ⟨con15_ok, con34_ok, con35_ok, con36_ok, trivial⟩ trivial (fn := Try.f21) ⟨Try.func21, name21⟩ (by kernel_rfl) outok21_4 (fun R y k => by rcases y with _ | _ <;> rfl) 200 step21_4_eq

noncomputable def g21 (a : Daction) : Option Int :=
  (match (ltI (16 : Int) (a.binds.length : Int)) with | true => some (3 : Int) | false => (loopOf step21_4 (((), a.binds, (a.binds.length : Int), (0 : Int), ()), (a, ()))).bind fun y58 => (match y58 with | .inl z59 => some z59.1.1 | .inr w61 => (let z60 := w61; some (0 : Int))))
noncomputable def con21 : Con UU := conOf [.ty Ty.action] (.one (.cell (.int .i64))) (fun x => g21 x.1)
theorem con21_ok : ConOK Try.prog 21 con21 := con (cons := []) (cuts := [(21, 4, cut21_4)]) trivial ⟨cut21_4_ok, trivial⟩ (fn := Try.f21) ⟨Try.func21, name21⟩ (by kernel_rfl) (by kernel_rfl) rfl rfl 200
  (fun x => by obtain ⟨a, _⟩ := x; kernel_rfl)

def D17_4 : Desc UU := ⟨21, [(9, .cell (.sl Ty.action)), (10, .cell (.int .i64)), (11, .cell (.int .i64))], []⟩
def D17_4x0 : Desc UU := ⟨21, [(2, .cell (.int .i64))], []⟩
def D17_4x1 : Desc UU := ⟨21, [], []⟩
abbrev Y17_4 := D17_4x0.X ⊕ (D17_4x1.X)
def outs17_4 (y : Y17_4) : AExit × St UU := match y with
  | (.inl z) => (.ret, D17_4x0.enc z)
  | (.inr z) => ((.exit 0), D17_4x1.enc z)
def kont17_4 {R : Type} (y : Y17_4) (k : AExit → St UU → Option R) : Option R := match y with
  | (.inl z) => k .ret (D17_4x0.enc z)
  | (.inr z) => k (.exit 0) (D17_4x1.enc z)
def other17_4 (ex : AExit) (st : St UU) : Option Y17_4 := match ex with
  | .ret => match D17_4x0.go st with
    | some y => some (.inl y)
    | none => none
  | (.exit 0) => match D17_4x1.go st with
    | some y => some (.inr y)
    | none => none
  | _ => none
theorem outok17_4 : OutOK other17_4 outs17_4 := ⟨fun ex st y hne h => by
  unfold other17_4 at h
  split at h
  · split at h
    · rename_i y' hy; cases h; exact ⟨rfl, go_pull hy⟩
    · cases h
  · split at h
    · rename_i y' hy; cases h; exact ⟨rfl, go_pull hy⟩
    · cases h
  · cases h⟩
noncomputable def step17_4 (x : D17_4.X) : Option (D17_4.X ⊕ Y17_4) :=
  let s9 : List Daction := x.1.1
  let s10 : Int := x.1.2.1
  let s11 : Int := x.1.2.2.1
  (match (ltI s11 s10) with | true => (ix s9 s11).bind fun x63 => (g21 x63).bind fun r64 => (match (!(eqI r64 (0 : Int))) with | true => some (.inr (.inl ((r64, ()), (())))) | false => some (.inl ((s9, s10, (addI .i64 s11 (1 : Int)), ()), (())))) | false => some (.inr (.inr ((()), (())))))
theorem step17_4_eq : ∀ x, exec (E [(21, con21)] []) 200 17 (loopAt Try.f17 4) (D17_4.enc x) (roundK D17_4.go other17_4) = step17_4 x := fun x => by
  obtain ⟨⟨s9, s10, s11, _⟩, _⟩ := x
  kernel_rfl
noncomputable def cut17_4 : Cut UU := loopCut D17_4 (loopOf step17_4) outs17_4 kont17_4
theorem cut17_4_ok : CutAt Try.prog 17 4 cut17_4 := cut (cons := [(21, con21)]) (cuts := []) ⟨con21_ok, trivial⟩ trivial (fn := Try.f17) ⟨Try.func17, name17⟩ (by kernel_rfl) outok17_4 (fun R y k => by rcases y with _ | _ <;> rfl) 200 step17_4_eq

noncomputable def g17 (a : List Daction) : Option Int :=
  (match (ltI (256 : Int) (a.length : Int)) with | true => some (3 : Int) | false => (loopOf step17_4 ((a, (a.length : Int), (0 : Int), ()), (()))).bind fun y65 => (match y65 with | .inl z66 => some z66.1.1 | .inr w68 => (let z67 := w68; some (0 : Int))))
noncomputable def con17 : Con UU := conOf [.cell (.sl Ty.action)] (.one (.cell (.int .i64))) (fun x => g17 x.1)
theorem con17_ok : ConOK Try.prog 17 con17 := con (cons := []) (cuts := [(17, 4, cut17_4)]) trivial ⟨cut17_4_ok, trivial⟩ (fn := Try.f17) ⟨Try.func17, name17⟩ (by kernel_rfl) (by kernel_rfl) rfl rfl 200
  (fun x => by obtain ⟨a, _⟩ := x; kernel_rfl)

def D50_2 : Desc UU := ⟨28, [(0, .cell .str), (3, .cell (.int .i64))], []⟩
def D50_2x0 : Desc UU := ⟨28, [(2, .cell .bool)], []⟩
def D50_2x1 : Desc UU := ⟨28, [(0, .cell .str)], []⟩
abbrev Y50_2 := D50_2x0.X ⊕ (D50_2x1.X)
def outs50_2 (y : Y50_2) : AExit × St UU := match y with
  | (.inl z) => (.ret, D50_2x0.enc z)
  | (.inr z) => ((.exit 0), D50_2x1.enc z)
def kont50_2 {R : Type} (y : Y50_2) (k : AExit → St UU → Option R) : Option R := match y with
  | (.inl z) => k .ret (D50_2x0.enc z)
  | (.inr z) => k (.exit 0) (D50_2x1.enc z)
def other50_2 (ex : AExit) (st : St UU) : Option Y50_2 := match ex with
  | .ret => match D50_2x0.go st with
    | some y => some (.inl y)
    | none => none
  | (.exit 0) => match D50_2x1.go st with
    | some y => some (.inr y)
    | none => none
  | _ => none
theorem outok50_2 : OutOK other50_2 outs50_2 := ⟨fun ex st y hne h => by
  unfold other50_2 at h
  split at h
  · split at h
    · rename_i y' hy; cases h; exact ⟨rfl, go_pull hy⟩
    · cases h
  · split at h
    · rename_i y' hy; cases h; exact ⟨rfl, go_pull hy⟩
    · cases h
  · cases h⟩
noncomputable def step50_2 (x : D50_2.X) : Option (D50_2.X ⊕ Y50_2) :=
  let s0 : List UInt8 := x.1.1
  let s3 : Int := x.1.2.1
  (match (ltI s3 (s0.length : Int)) with | true => (ix s0 s3).bind fun c75 => (match (ltI (c75.toNat : Int) (33 : Int)) with | true => some (.inr (.inl ((false, ()), (())))) | false => (ix s0 s3).bind fun c76 => (match (ltI (126 : Int) (c76.toNat : Int)) with | true => some (.inr (.inl ((false, ()), (())))) | false => some (.inl ((s0, (addI .i64 s3 (1 : Int)), ()), (()))))) | false => some (.inr (.inr ((s0, ()), (())))))
theorem step50_2_eq : ∀ x, exec (E [] []) 200 50 (loopAt Try.f50 2) (D50_2.enc x) (roundK D50_2.go other50_2) = step50_2 x := fun x => by
  obtain ⟨⟨s0, s3, _⟩, _⟩ := x
  kernel_rfl
noncomputable def cut50_2 : Cut UU := loopCut D50_2 (loopOf step50_2) outs50_2 kont50_2
theorem cut50_2_ok : CutAt Try.prog 50 2 cut50_2 := cut (cons := []) (cuts := []) trivial trivial (fn := Try.f50) ⟨Try.func50, name50⟩ (by kernel_rfl) outok50_2 (fun R y k => by rcases y with _ | _ <;> rfl) 200 step50_2_eq

noncomputable def g50 (a : List UInt8) : Option Bool :=
  (loopOf step50_2 ((a, (0 : Int), ()), (()))).bind fun y77 => (match y77 with | .inl z78 => some z78.1.1 | .inr w80 => (let z79 := w80; (match (ltI (0 : Int) (z79.1.1.length : Int)) with | true => some (leI (z79.1.1.length : Int) (32 : Int)) | false => some false)))
noncomputable def con50 : Con UU := conOf [.cell .str] (.one (.cell .bool)) (fun x => g50 x.1)
theorem con50_ok : ConOK Try.prog 50 con50 := con (cons := []) (cuts := [(50, 2, cut50_2)]) trivial ⟨cut50_2_ok, trivial⟩ (fn := Try.f50) ⟨Try.func50, name50⟩ (by kernel_rfl) (by kernel_rfl) rfl rfl 200
  (fun x => by obtain ⟨a, _⟩ := x; kernel_rfl)

noncomputable def g16  : Option (List (List UInt8)) :=
  some ([([97] : List UInt8), ([97, 116] : List UInt8), ([98] : List UInt8), ([100, 120] : List UInt8), ([100, 121] : List UInt8), ([103] : List UInt8), ([104] : List UInt8), ([105, 100] : List UInt8), ([111, 112, 97, 99, 105, 116, 121] : List UInt8), ([112, 97, 114, 97, 109, 48] : List UInt8), ([112, 97, 114, 97, 109, 49] : List UInt8), ([112, 97, 114, 97, 109, 50] : List UInt8), ([112, 97, 114, 97, 109, 51] : List UInt8), ([112, 97, 114, 101, 110, 116] : List UInt8), ([114] : List UInt8), ([116, 111] : List UInt8), ([118, 97, 108, 117, 101] : List UInt8), ([119] : List UInt8), ([120] : List UInt8), ([121] : List UInt8)])
noncomputable def con16 : Con UU := conOf [] (.one (.cell (.sl Ty.str))) (fun x => g16 )
theorem con16_ok : ConOK Try.prog 16 con16 := con (cons := []) (cuts := []) trivial trivial (fn := Try.f16) ⟨Try.func16, name16⟩ (by kernel_rfl) (by kernel_rfl) rfl rfl 200
  (fun x => by kernel_rfl)

def D51_3 : Desc UU := ⟨18, [(0, .cell .str), (3, .cell (.sl Ty.str)), (4, .cell (.int .i64))], []⟩
def D51_3x0 : Desc UU := ⟨18, [(2, .cell .bool)], []⟩
def D51_3x1 : Desc UU := ⟨18, [], []⟩
abbrev Y51_3 := D51_3x0.X ⊕ (D51_3x1.X)
def outs51_3 (y : Y51_3) : AExit × St UU := match y with
  | (.inl z) => (.ret, D51_3x0.enc z)
  | (.inr z) => ((.exit 0), D51_3x1.enc z)
def kont51_3 {R : Type} (y : Y51_3) (k : AExit → St UU → Option R) : Option R := match y with
  | (.inl z) => k .ret (D51_3x0.enc z)
  | (.inr z) => k (.exit 0) (D51_3x1.enc z)
def other51_3 (ex : AExit) (st : St UU) : Option Y51_3 := match ex with
  | .ret => match D51_3x0.go st with
    | some y => some (.inl y)
    | none => none
  | (.exit 0) => match D51_3x1.go st with
    | some y => some (.inr y)
    | none => none
  | _ => none
theorem outok51_3 : OutOK other51_3 outs51_3 := ⟨fun ex st y hne h => by
  unfold other51_3 at h
  split at h
  · split at h
    · rename_i y' hy; cases h; exact ⟨rfl, go_pull hy⟩
    · cases h
  · split at h
    · rename_i y' hy; cases h; exact ⟨rfl, go_pull hy⟩
    · cases h
  · cases h⟩
noncomputable def step51_3 (x : D51_3.X) : Option (D51_3.X ⊕ Y51_3) :=
  let s0 : List UInt8 := x.1.1
  let s3 : List (List UInt8) := x.1.2.1
  let s4 : Int := x.1.2.2.1
  (match (ltI s4 (s3.length : Int)) with | true => (ix s3 s4).bind fun x84 => (match (eqS x84 s0) with | true => some (.inr (.inl ((true, ()), (())))) | false => some (.inl ((s0, s3, (addI .i64 s4 (1 : Int)), ()), (())))) | false => some (.inr (.inr ((()), (())))))
theorem step51_3_eq : ∀ x, exec (E [] []) 200 51 (loopAt Try.f51 3) (D51_3.enc x) (roundK D51_3.go other51_3) = step51_3 x := fun x => by
  obtain ⟨⟨s0, s3, s4, _⟩, _⟩ := x
  kernel_rfl
noncomputable def cut51_3 : Cut UU := loopCut D51_3 (loopOf step51_3) outs51_3 kont51_3
theorem cut51_3_ok : CutAt Try.prog 51 3 cut51_3 := cut (cons := []) (cuts := []) trivial trivial (fn := Try.f51) ⟨Try.func51, name51⟩ (by kernel_rfl) outok51_3 (fun R y k => by rcases y with _ | _ <;> rfl) 200 step51_3_eq

noncomputable def g51 (a : List UInt8) : Option Bool :=
  (g16 ).bind fun r82 => (loopOf step51_3 ((a, r82, (0 : Int), ()), (()))).bind fun y85 => (match y85 with | .inl z86 => some z86.1.1 | .inr w88 => (let z87 := w88; some false))
noncomputable def con51 : Con UU := conOf [.cell .str] (.one (.cell .bool)) (fun x => g51 x.1)
theorem con51_ok : ConOK Try.prog 51 con51 := con (cons := [(16, con16)]) (cuts := [(51, 3, cut51_3)]) ⟨con16_ok, trivial⟩ ⟨cut51_3_ok, trivial⟩ (fn := Try.f51) ⟨Try.func51, name51⟩ (by kernel_rfl) (by kernel_rfl) rfl rfl 200
  (fun x => by obtain ⟨a, _⟩ := x; kernel_rfl)

def D30_7 : Desc UU := ⟨43, [(1, .cell (.int .i64)), (2, .ptr 0 85 0 0), (5, .ptr 1 2 0 0), (6, .cell (.int .i64))], [.tbox Ty.action, .tbox Ty.bind]⟩
def D30_7x0 : Desc UU := ⟨43, [(4, .cell (.int .i64))], []⟩
def D30_7x1 : Desc UU := ⟨43, [(2, .ptr 0 85 0 0), (5, .ptr 1 2 0 0)], [.tbox Ty.action, .tbox Ty.bind]⟩
abbrev Y30_7 := D30_7x0.X ⊕ (D30_7x1.X)
def outs30_7 (y : Y30_7) : AExit × St UU := match y with
  | (.inl z) => (.ret, D30_7x0.enc z)
  | (.inr z) => ((.exit 0), D30_7x1.enc z)
def kont30_7 {R : Type} (y : Y30_7) (k : AExit → St UU → Option R) : Option R := match y with
  | (.inl z) => k .ret (D30_7x0.enc z)
  | (.inr z) => k (.exit 0) (D30_7x1.enc z)
def other30_7 (ex : AExit) (st : St UU) : Option Y30_7 := match ex with
  | .ret => match D30_7x0.go st with
    | some y => some (.inl y)
    | none => none
  | (.exit 0) => match D30_7x1.go st with
    | some y => some (.inr y)
    | none => none
  | _ => none
theorem outok30_7 : OutOK other30_7 outs30_7 := ⟨fun ex st y hne h => by
  unfold other30_7 at h
  split at h
  · split at h
    · rename_i y' hy; cases h; exact ⟨rfl, go_pull hy⟩
    · cases h
  · split at h
    · rename_i y' hy; cases h; exact ⟨rfl, go_pull hy⟩
    · cases h
  · cases h⟩
noncomputable def step30_7 (x : D30_7.X) : Option (D30_7.X ⊕ Y30_7) :=
  let s1 : Int := x.1.1
  let s6 : Int := x.1.2.2.2.1
  let b0 : Daction := x.2.1
  let b1 : Dbind := x.2.2.1
  (match (ltI s6 s1) with | true => (ix b0.binds s6).bind fun x91 => (match (eqS x91.field b1.field) with | true => some (.inr (.inl (((10 : Int), ()), (())))) | false => some (.inl ((s1, (), (), (addI .i64 s6 (1 : Int)), ()), (b0, b1, ())))) | false => some (.inr (.inr (((), (), ()), (b0, b1, ())))))
theorem step30_7_eq : ∀ x, exec (E [] []) 200 30 (loopAt Try.f30 7) (D30_7.enc x) (roundK D30_7.go other30_7) = step30_7 x := fun x => by
  obtain ⟨⟨s1, s2, s5, s6, _⟩, ⟨b0, b1, _⟩⟩ := x
  kernel_rfl
noncomputable def cut30_7 : Cut UU := loopCut D30_7 (loopOf step30_7) outs30_7 kont30_7
theorem cut30_7_ok : CutAt Try.prog 30 7 cut30_7 := cut (cons := []) (cuts := []) trivial trivial (fn := Try.f30) ⟨Try.func30, name30⟩ (by kernel_rfl) outok30_7 (fun R y k => by rcases y with _ | _ <;> rfl) 200 step30_7_eq

def D46_2 : Desc UU := ⟨16, [(0, .cell .str), (3, .cell (.int .i64))], []⟩
def D46_2x0 : Desc UU := ⟨16, [(2, .cell (.int .i64))], []⟩
def D46_2x1 : Desc UU := ⟨16, [], []⟩
abbrev Y46_2 := D46_2x0.X ⊕ (D46_2x1.X)
def outs46_2 (y : Y46_2) : AExit × St UU := match y with
  | (.inl z) => (.ret, D46_2x0.enc z)
  | (.inr z) => ((.exit 0), D46_2x1.enc z)
def kont46_2 {R : Type} (y : Y46_2) (k : AExit → St UU → Option R) : Option R := match y with
  | (.inl z) => k .ret (D46_2x0.enc z)
  | (.inr z) => k (.exit 0) (D46_2x1.enc z)
def other46_2 (ex : AExit) (st : St UU) : Option Y46_2 := match ex with
  | .ret => match D46_2x0.go st with
    | some y => some (.inl y)
    | none => none
  | (.exit 0) => match D46_2x1.go st with
    | some y => some (.inr y)
    | none => none
  | _ => none
theorem outok46_2 : OutOK other46_2 outs46_2 := ⟨fun ex st y hne h => by
  unfold other46_2 at h
  split at h
  · split at h
    · rename_i y' hy; cases h; exact ⟨rfl, go_pull hy⟩
    · cases h
  · split at h
    · rename_i y' hy; cases h; exact ⟨rfl, go_pull hy⟩
    · cases h
  · cases h⟩
noncomputable def step46_2 (x : D46_2.X) : Option (D46_2.X ⊕ Y46_2) :=
  let s0 : List UInt8 := x.1.1
  let s3 : Int := x.1.2.1
  (match (ltI s3 (4 : Int)) with | true => chk (upTo (addI .i64 s3 (1 : Int)) (([48, 49, 50, 51] : List UInt8).length)) (chk (upTo s3 ((addI .i64 s3 (1 : Int)).toNat)) (chk (decide (([112, 97, 114, 97, 109] : List UInt8).length + ((([48, 49, 50, 51] : List UInt8).take ((addI .i64 s3 (1 : Int)).toNat)).drop s3.toNat).length ≤ 4611686018427387904)) ((match (eqS s0 (([112, 97, 114, 97, 109] : List UInt8) ++ ((([48, 49, 50, 51] : List UInt8).take ((addI .i64 s3 (1 : Int)).toNat)).drop s3.toNat))) with | true => some (.inr (.inl ((s3, ()), (())))) | false => some (.inl ((s0, (addI .i64 s3 (1 : Int)), ()), (()))))))) | false => some (.inr (.inr ((()), (())))))
theorem step46_2_eq : ∀ x, exec (E [] []) 200 46 (loopAt Try.f46 2) (D46_2.enc x) (roundK D46_2.go other46_2) = step46_2 x := fun x => by
  obtain ⟨⟨s0, s3, _⟩, _⟩ := x
  kernel_rfl
noncomputable def cut46_2 : Cut UU := loopCut D46_2 (loopOf step46_2) outs46_2 kont46_2
theorem cut46_2_ok : CutAt Try.prog 46 2 cut46_2 := cut (cons := []) (cuts := []) trivial trivial (fn := Try.f46) ⟨Try.func46, name46⟩ (by kernel_rfl) outok46_2 (fun R y k => by rcases y with _ | _ <;> rfl) 200 step46_2_eq

noncomputable def g46 (a : List UInt8) : Option Int :=
  (loopOf step46_2 ((a, (0 : Int), ()), (()))).bind fun y95 => (match y95 with | .inl z96 => some z96.1.1 | .inr w98 => (let z97 := w98; some (-1 : Int)))
noncomputable def con46 : Con UU := conOf [.cell .str] (.one (.cell (.int .i64))) (fun x => g46 x.1)
theorem con46_ok : ConOK Try.prog 46 con46 := con (cons := []) (cuts := [(46, 2, cut46_2)]) trivial ⟨cut46_2_ok, trivial⟩ (fn := Try.f46) ⟨Try.func46, name46⟩ (by kernel_rfl) (by kernel_rfl) rfl rfl 200
  (fun x => by obtain ⟨a, _⟩ := x; kernel_rfl)

noncomputable def g30 (a : Daction) (b : Int) : Option Int :=
  (ix a.binds b).bind fun x72 => (g50 x72.param).bind fun r81 => (match (!r81) with | true => some (13 : Int) | false => (g51 x72.field).bind fun r89 => (match (!r89) with | true => some (9 : Int) | false => (loopOf step30_7 ((b, (), (), (0 : Int), ()), (a, x72, ()))).bind fun y92 => (match y92 with | .inl z93 => some z93.1.1 | .inr w100 => (let z94 := w100; (g46 z94.2.2.1.field).bind fun r99 => (match (leI (z94.2.1.edit.node.params.length : Int) r99) with | true => some (2 : Int) | false => some (0 : Int))))))
noncomputable def con30 : Con UU := conOf [.ty Ty.action, .cell (.int .i64)] (.one (.cell (.int .i64))) (fun x => g30 x.1 x.2.1)
theorem con30_ok : ConOK Try.prog 30 con30 := con (cons := [(46, con46), (50, con50), (51, con51)]) (cuts := [(30, 7, cut30_7)]) ⟨con46_ok, con50_ok, con51_ok, trivial⟩ ⟨cut30_7_ok, trivial⟩ (fn := Try.f30) ⟨Try.func30, name30⟩ (by kernel_rfl) (by kernel_rfl) rfl rfl 200
  (fun x => by obtain ⟨a, b, _⟩ := x; kernel_rfl)

def D18_9 : Desc UU := ⟨41, [(0, .cell (.sl Ty.action)), (3, .cell (.int .i64)), (4, .cell (.int .i64))], []⟩
def D18_9x0 : Desc UU := ⟨41, [(2, .cell (.int .i64))], []⟩
def D18_9x1 : Desc UU := ⟨41, [(0, .cell (.sl Ty.action)), (3, .cell (.int .i64))], []⟩
abbrev Y18_9 := D18_9x0.X ⊕ (D18_9x1.X)
def outs18_9 (y : Y18_9) : AExit × St UU := match y with
  | (.inl z) => (.ret, D18_9x0.enc z)
  | (.inr z) => ((.exit 2), D18_9x1.enc z)
def kont18_9 {R : Type} (y : Y18_9) (k : AExit → St UU → Option R) : Option R := match y with
  | (.inl z) => k .ret (D18_9x0.enc z)
  | (.inr z) => k (.exit 2) (D18_9x1.enc z)
def other18_9 (ex : AExit) (st : St UU) : Option Y18_9 := match ex with
  | .ret => match D18_9x0.go st with
    | some y => some (.inl y)
    | none => none
  | (.exit 2) => match D18_9x1.go st with
    | some y => some (.inr y)
    | none => none
  | _ => none
theorem outok18_9 : OutOK other18_9 outs18_9 := ⟨fun ex st y hne h => by
  unfold other18_9 at h
  split at h
  · split at h
    · rename_i y' hy; cases h; exact ⟨rfl, go_pull hy⟩
    · cases h
  · split at h
    · rename_i y' hy; cases h; exact ⟨rfl, go_pull hy⟩
    · cases h
  · cases h⟩
noncomputable def step18_9 (x : D18_9.X) : Option (D18_9.X ⊕ Y18_9) :=
  let s0 : List Daction := x.1.1
  let s3 : Int := x.1.2.1
  let s4 : Int := x.1.2.2.1
  (ix s0 s3).bind fun x102 => (match (ltI s4 (x102.binds.length : Int)) with | true => (ix s0 s3).bind fun x103 => (g30 x103 s4).bind fun r104 => (match (!(eqI r104 (0 : Int))) with | true => some (.inr (.inl ((r104, ()), (())))) | false => some (.inl ((s0, s3, (addI .i64 s4 (1 : Int)), ()), (())))) | false => some (.inr (.inr ((s0, s3, ()), (())))))
theorem step18_9_eq : ∀ x, exec (E [(30, con30)] []) 200 18 (loopAt Try.f18 9) (D18_9.enc x) (roundK D18_9.go other18_9) = step18_9 x := fun x => by
  obtain ⟨⟨s0, s3, s4, _⟩, _⟩ := x
  kernel_rfl
noncomputable def cut18_9 : Cut UU := loopCut D18_9 (loopOf step18_9) outs18_9 kont18_9
theorem cut18_9_ok : CutAt Try.prog 18 9 cut18_9 := cut (cons := [(30, con30)]) (cuts := []) ⟨con30_ok, trivial⟩ trivial (fn := Try.f18) ⟨Try.func18, name18⟩ (by kernel_rfl) outok18_9 (fun R y k => by rcases y with _ | _ <;> rfl) 200 step18_9_eq

def D18_4 : Desc UU := ⟨41, [(0, .cell (.sl Ty.action)), (3, .cell (.int .i64))], []⟩
def D18_4x0 : Desc UU := ⟨41, [(2, .cell (.int .i64))], []⟩
def D18_4x1 : Desc UU := ⟨41, [], []⟩
abbrev Y18_4 := D18_4x0.X ⊕ (D18_4x1.X)
def outs18_4 (y : Y18_4) : AExit × St UU := match y with
  | (.inl z) => (.ret, D18_4x0.enc z)
  | (.inr z) => ((.exit 0), D18_4x1.enc z)
def kont18_4 {R : Type} (y : Y18_4) (k : AExit → St UU → Option R) : Option R := match y with
  | (.inl z) => k .ret (D18_4x0.enc z)
  | (.inr z) => k (.exit 0) (D18_4x1.enc z)
def other18_4 (ex : AExit) (st : St UU) : Option Y18_4 := match ex with
  | .ret => match D18_4x0.go st with
    | some y => some (.inl y)
    | none => none
  | (.exit 0) => match D18_4x1.go st with
    | some y => some (.inr y)
    | none => none
  | _ => none
theorem outok18_4 : OutOK other18_4 outs18_4 := ⟨fun ex st y hne h => by
  unfold other18_4 at h
  split at h
  · split at h
    · rename_i y' hy; cases h; exact ⟨rfl, go_pull hy⟩
    · cases h
  · split at h
    · rename_i y' hy; cases h; exact ⟨rfl, go_pull hy⟩
    · cases h
  · cases h⟩
noncomputable def step18_4 (x : D18_4.X) : Option (D18_4.X ⊕ Y18_4) :=
  let s0 : List Daction := x.1.1
  let s3 : Int := x.1.2.1
  (match (ltI s3 (s0.length : Int)) with | true => (ix s0 s3).bind fun x109 => (match (ltI (16 : Int) (x109.binds.length : Int)) with | true => some (.inr (.inl (((3 : Int), ()), (())))) | false => (loopOf step18_9 ((s0, s3, (0 : Int), ()), (()))).bind fun y110 => (match y110 with | .inl z111 => some (.inr (.inl ((z111.1.1, ()), (())))) | .inr w113 => (let z112 := w113; some (.inl ((z112.1.1, (addI .i64 z112.1.2.1 (1 : Int)), ()), (())))))) | false => some (.inr (.inr ((()), (())))))
theorem step18_4_eq : ∀ x, exec (E [] [(18, 9, cut18_9)]) 200 18 (loopAt Try.f18 4) (D18_4.enc x) (roundK D18_4.go other18_4) = step18_4 x := fun x => by
  obtain ⟨⟨s0, s3, _⟩, _⟩ := x
  kernel_rfl
noncomputable def cut18_4 : Cut UU := loopCut D18_4 (loopOf step18_4) outs18_4 kont18_4
theorem cut18_4_ok : CutAt Try.prog 18 4 cut18_4 := cut (cons := []) (cuts := [(18, 9, cut18_9)]) trivial ⟨cut18_9_ok, trivial⟩ (fn := Try.f18) ⟨Try.func18, name18⟩ (by kernel_rfl) outok18_4 (fun R y k => by rcases y with _ | _ <;> rfl) 200 step18_4_eq

noncomputable def g18 (a : List Daction) : Option Int :=
  (match (ltI (256 : Int) (a.length : Int)) with | true => some (3 : Int) | false => (loopOf step18_4 ((a, (0 : Int), ()), (()))).bind fun y114 => (match y114 with | .inl z115 => some z115.1.1 | .inr w117 => (let z116 := w117; some (0 : Int))))
noncomputable def con18 : Con UU := conOf [.cell (.sl Ty.action)] (.one (.cell (.int .i64))) (fun x => g18 x.1)
theorem con18_ok : ConOK Try.prog 18 con18 := con (cons := []) (cuts := [(18, 4, cut18_4)]) trivial ⟨cut18_4_ok, trivial⟩ (fn := Try.f18) ⟨Try.func18, name18⟩ (by kernel_rfl) (by kernel_rfl) rfl rfl 200
  (fun x => by obtain ⟨a, _⟩ := x; kernel_rfl)

def D33_4 : Desc UU := ⟨50, [(0, .cell (.sl Ty.str)), (1, .cell .str), (5, .row 0 1), (6, .cell .bool), (7, .cell (.int .i64))], [.row Ty.str]⟩
def D33_4x0 : Desc UU := ⟨50, [(4, .cell (.sl Ty.str))], []⟩
def D33_4x1 : Desc UU := ⟨50, [(1, .cell .str), (5, .row 0 1), (6, .cell .bool)], [.row Ty.str]⟩
abbrev Y33_4 := D33_4x0.X ⊕ (D33_4x1.X)
def outs33_4 (y : Y33_4) : AExit × St UU := match y with
  | (.inl z) => (.ret, D33_4x0.enc z)
  | (.inr z) => ((.exit 0), D33_4x1.enc z)
def kont33_4 {R : Type} (y : Y33_4) (k : AExit → St UU → Option R) : Option R := match y with
  | (.inl z) => k .ret (D33_4x0.enc z)
  | (.inr z) => k (.exit 0) (D33_4x1.enc z)
def other33_4 (ex : AExit) (st : St UU) : Option Y33_4 := match ex with
  | .ret => match D33_4x0.go st with
    | some y => some (.inl y)
    | none => none
  | (.exit 0) => match D33_4x1.go st with
    | some y => some (.inr y)
    | none => none
  | _ => none
theorem outok33_4 : OutOK other33_4 outs33_4 := ⟨fun ex st y hne h => by
  unfold other33_4 at h
  split at h
  · split at h
    · rename_i y' hy; cases h; exact ⟨rfl, go_pull hy⟩
    · cases h
  · split at h
    · rename_i y' hy; cases h; exact ⟨rfl, go_pull hy⟩
    · cases h
  · cases h⟩
noncomputable def step33_4 (x : D33_4.X) : Option (D33_4.X ⊕ Y33_4) :=
  let s0 : List (List UInt8) := x.1.1
  let s1 : List UInt8 := x.1.2.1
  let s6 : Bool := x.1.2.2.2.1
  let s7 : Int := x.1.2.2.2.2.1
  let b0 : List (List UInt8) := x.2.1
  (match (ltI s7 (s0.length : Int)) with | true => (ix s0 s7).bind fun x126 => (match (eqS x126 s1) with | true => some (.inr (.inl ((s0, ()), (())))) | false => (match (!s6) with | true => (ix s0 s7).bind fun x127 => (match (!((ltS x127 s1) || (eqS x127 s1))) with | true => chk (roomy (b0.length + [s1].length) 16) ((ix s0 s7).bind fun x128 => chk (roomy ((appL (α := (List UInt8)) b0 [s1]).length + [x128].length) 16) (some (.inl ((s0, s1, (), true, (addI .i64 s7 (1 : Int)), ()), ((appL (α := (List UInt8)) (appL (α := (List UInt8)) b0 [s1]) [x128]), ()))))) | false => (ix s0 s7).bind fun x129 => chk (roomy (b0.length + [x129].length) 16) (some (.inl ((s0, s1, (), s6, (addI .i64 s7 (1 : Int)), ()), ((appL (α := (List UInt8)) b0 [x129]), ()))))) | false => (ix s0 s7).bind fun x130 => chk (roomy (b0.length + [x130].length) 16) (some (.inl ((s0, s1, (), s6, (addI .i64 s7 (1 : Int)), ()), ((appL (α := (List UInt8)) b0 [x130]), ())))))) | false => some (.inr (.inr ((s1, (), s6, ()), (b0, ())))))
theorem step33_4_eq : ∀ x, exec (E [] []) 200 33 (loopAt Try.f33 4) (D33_4.enc x) (roundK D33_4.go other33_4) = step33_4 x := fun x => by
  obtain ⟨⟨s0, s1, s5, s6, s7, _⟩, ⟨b0, _⟩⟩ := x
  kernel_rfl
noncomputable def cut33_4 : Cut UU := loopCut D33_4 (loopOf step33_4) outs33_4 kont33_4
theorem cut33_4_ok : CutAt Try.prog 33 4 cut33_4 := cut (cons := []) (cuts := []) trivial trivial (fn := Try.f33) ⟨Try.func33, name33⟩ (by kernel_rfl) outok33_4 (fun R y k => by rcases y with _ | _ <;> rfl) 200 step33_4_eq

noncomputable def g33 (a : List (List UInt8)) (b : List UInt8) : Option (List (List UInt8)) :=
  (loopOf step33_4 ((a, b, (), false, (0 : Int), ()), ([], ()))).bind fun y131 => (match y131 with | .inl z132 => some z132.1.1 | .inr w134 => (let z133 := w134; (match (!z133.1.2.2.1) with | true => chk (roomy (z133.2.1.length + [z133.1.1].length) 16) (some (appL (α := (List UInt8)) z133.2.1 [z133.1.1])) | false => some z133.2.1)))
noncomputable def con33 : Con UU := conOf [.cell (.sl Ty.str), .cell .str] (.one (.cell (.sl Ty.str))) (fun x => g33 x.1 x.2.1)
theorem con33_ok : ConOK Try.prog 33 con33 := con (cons := []) (cuts := [(33, 4, cut33_4)]) trivial ⟨cut33_4_ok, trivial⟩ (fn := Try.f33) ⟨Try.func33, name33⟩ (by kernel_rfl) (by kernel_rfl) rfl rfl 200
  (fun x => by obtain ⟨a, b, _⟩ := x; kernel_rfl)

def D20_6 : Desc UU := ⟨35, [(0, .cell (.sl Ty.action)), (3, .cell (.sl Ty.str)), (4, .cell (.int .i64)), (5, .cell (.int .i64))], []⟩
def D20_6x0 : Desc UU := ⟨35, [(0, .cell (.sl Ty.action)), (3, .cell (.sl Ty.str)), (4, .cell (.int .i64))], []⟩
abbrev Y20_6 := D20_6x0.X
def outs20_6 (y : Y20_6) : AExit × St UU := ((.exit 2), D20_6x0.enc y)
def kont20_6 {R : Type} (y : Y20_6) (k : AExit → St UU → Option R) : Option R := k (.exit 2) (D20_6x0.enc y)
def other20_6 (ex : AExit) (st : St UU) : Option Y20_6 := match ex with
  | (.exit 2) => match D20_6x0.go st with
    | some y => some y
    | none => none
  | _ => none
theorem outok20_6 : OutOK other20_6 outs20_6 := ⟨fun ex st y hne h => by
  unfold other20_6 at h
  split at h
  · split at h
    · rename_i y' hy; cases h; exact ⟨rfl, go_pull hy⟩
    · cases h
  · cases h⟩
noncomputable def step20_6 (x : D20_6.X) : Option (D20_6.X ⊕ Y20_6) :=
  let s0 : List Daction := x.1.1
  let s3 : List (List UInt8) := x.1.2.1
  let s4 : Int := x.1.2.2.1
  let s5 : Int := x.1.2.2.2.1
  (ix s0 s4).bind fun x140 => (match (ltI s5 (x140.binds.length : Int)) with | true => (ix s0 s4).bind fun x141 => (ix x141.binds s5).bind fun x142 => (g33 s3 x142.param).bind fun r143 => some (.inl ((s0, r143, s4, (addI .i64 s5 (1 : Int)), ()), (()))) | false => some (.inr ((s0, s3, s4, ()), (()))))
theorem step20_6_eq : ∀ x, exec (E [(33, con33)] []) 200 20 (loopAt Try.f20 6) (D20_6.enc x) (roundK D20_6.go other20_6) = step20_6 x := fun x => by
  obtain ⟨⟨s0, s3, s4, s5, _⟩, _⟩ := x
  kernel_rfl
noncomputable def cut20_6 : Cut UU := loopCut D20_6 (loopOf step20_6) outs20_6 kont20_6
theorem cut20_6_ok : CutAt Try.prog 20 6 cut20_6 := cut (cons := [(33, con33)]) (cuts := []) ⟨con33_ok, trivial⟩ trivial (fn := Try.f20) ⟨Try.func20, name20⟩ (by kernel_rfl) outok20_6 (fun R y k => by rfl) 200 step20_6_eq

def D20_3 : Desc UU := ⟨35, [(0, .cell (.sl Ty.action)), (3, .cell (.sl Ty.str)), (4, .cell (.int .i64))], []⟩
def D20_3x0 : Desc UU := ⟨35, [(3, .cell (.sl Ty.str))], []⟩
abbrev Y20_3 := D20_3x0.X
def outs20_3 (y : Y20_3) : AExit × St UU := ((.exit 0), D20_3x0.enc y)
def kont20_3 {R : Type} (y : Y20_3) (k : AExit → St UU → Option R) : Option R := k (.exit 0) (D20_3x0.enc y)
def other20_3 (ex : AExit) (st : St UU) : Option Y20_3 := match ex with
  | (.exit 0) => match D20_3x0.go st with
    | some y => some y
    | none => none
  | _ => none
theorem outok20_3 : OutOK other20_3 outs20_3 := ⟨fun ex st y hne h => by
  unfold other20_3 at h
  split at h
  · split at h
    · rename_i y' hy; cases h; exact ⟨rfl, go_pull hy⟩
    · cases h
  · cases h⟩
noncomputable def step20_3 (x : D20_3.X) : Option (D20_3.X ⊕ Y20_3) :=
  let s0 : List Daction := x.1.1
  let s3 : List (List UInt8) := x.1.2.1
  let s4 : Int := x.1.2.2.1
  (match (ltI s4 (s0.length : Int)) with | true => (loopOf step20_6 ((s0, s3, s4, (0 : Int), ()), (()))).bind fun y148 => (let z149 := y148; some (.inl ((z149.1.1, z149.1.2.1, (addI .i64 z149.1.2.2.1 (1 : Int)), ()), (())))) | false => some (.inr ((s3, ()), (()))))
theorem step20_3_eq : ∀ x, exec (E [] [(20, 6, cut20_6)]) 200 20 (loopAt Try.f20 3) (D20_3.enc x) (roundK D20_3.go other20_3) = step20_3 x := fun x => by
  obtain ⟨⟨s0, s3, s4, _⟩, _⟩ := x
  kernel_rfl
noncomputable def cut20_3 : Cut UU := loopCut D20_3 (loopOf step20_3) outs20_3 kont20_3
theorem cut20_3_ok : CutAt Try.prog 20 3 cut20_3 := cut (cons := []) (cuts := [(20, 6, cut20_6)]) trivial ⟨cut20_6_ok, trivial⟩ (fn := Try.f20) ⟨Try.func20, name20⟩ (by kernel_rfl) outok20_3 (fun R y k => by rfl) 200 step20_3_eq

noncomputable def g20 (a : List Daction) : Option (List (List UInt8)) :=
  (loopOf step20_3 ((a, [], (0 : Int), ()), (()))).bind fun y150 => (let z151 := y150; some z151.1.1)
noncomputable def con20 : Con UU := conOf [.cell (.sl Ty.action)] (.one (.cell (.sl Ty.str))) (fun x => g20 x.1)
theorem con20_ok : ConOK Try.prog 20 con20 := con (cons := []) (cuts := [(20, 3, cut20_3)]) trivial ⟨cut20_3_ok, trivial⟩ (fn := Try.f20) ⟨Try.func20, name20⟩ (by kernel_rfl) (by kernel_rfl) rfl rfl 200
  (fun x => by obtain ⟨a, _⟩ := x; kernel_rfl)

def D48_4 : Desc UU := ⟨26, [(0, .cell (.sl Ty.int)), (1, .cell (.sl Ty.int)), (5, .cell (.int .i64))], []⟩
def D48_4x0 : Desc UU := ⟨26, [(4, .cell .bool)], []⟩
def D48_4x1 : Desc UU := ⟨26, [], []⟩
abbrev Y48_4 := D48_4x0.X ⊕ (D48_4x1.X)
def outs48_4 (y : Y48_4) : AExit × St UU := match y with
  | (.inl z) => (.ret, D48_4x0.enc z)
  | (.inr z) => ((.exit 0), D48_4x1.enc z)
def kont48_4 {R : Type} (y : Y48_4) (k : AExit → St UU → Option R) : Option R := match y with
  | (.inl z) => k .ret (D48_4x0.enc z)
  | (.inr z) => k (.exit 0) (D48_4x1.enc z)
def other48_4 (ex : AExit) (st : St UU) : Option Y48_4 := match ex with
  | .ret => match D48_4x0.go st with
    | some y => some (.inl y)
    | none => none
  | (.exit 0) => match D48_4x1.go st with
    | some y => some (.inr y)
    | none => none
  | _ => none
theorem outok48_4 : OutOK other48_4 outs48_4 := ⟨fun ex st y hne h => by
  unfold other48_4 at h
  split at h
  · split at h
    · rename_i y' hy; cases h; exact ⟨rfl, go_pull hy⟩
    · cases h
  · split at h
    · rename_i y' hy; cases h; exact ⟨rfl, go_pull hy⟩
    · cases h
  · cases h⟩
noncomputable def step48_4 (x : D48_4.X) : Option (D48_4.X ⊕ Y48_4) :=
  let s0 : List Int := x.1.1
  let s1 : List Int := x.1.2.1
  let s5 : Int := x.1.2.2.1
  (match (ltI s5 (s0.length : Int)) with | true => (ix s0 s5).bind fun x154 => (ix s1 s5).bind fun x155 => (match (!(eqI x154 x155)) with | true => some (.inr (.inl ((false, ()), (())))) | false => some (.inl ((s0, s1, (addI .i64 s5 (1 : Int)), ()), (())))) | false => some (.inr (.inr ((()), (())))))
theorem step48_4_eq : ∀ x, exec (E [] []) 200 48 (loopAt Try.f48 4) (D48_4.enc x) (roundK D48_4.go other48_4) = step48_4 x := fun x => by
  obtain ⟨⟨s0, s1, s5, _⟩, _⟩ := x
  kernel_rfl
noncomputable def cut48_4 : Cut UU := loopCut D48_4 (loopOf step48_4) outs48_4 kont48_4
theorem cut48_4_ok : CutAt Try.prog 48 4 cut48_4 := cut (cons := []) (cuts := []) trivial trivial (fn := Try.f48) ⟨Try.func48, name48⟩ (by kernel_rfl) outok48_4 (fun R y k => by rcases y with _ | _ <;> rfl) 200 step48_4_eq

noncomputable def g48 (a : List Int) (b : List Int) : Option Bool :=
  (match (!(eqI (a.length : Int) (b.length : Int))) with | true => some false | false => (loopOf step48_4 ((a, b, (0 : Int), ()), (()))).bind fun y156 => (match y156 with | .inl z157 => some z157.1.1 | .inr w159 => (let z158 := w159; some true)))
noncomputable def con48 : Con UU := conOf [.cell (.sl Ty.int), .cell (.sl Ty.int)] (.one (.cell .bool)) (fun x => g48 x.1 x.2.1)
theorem con48_ok : ConOK Try.prog 48 con48 := con (cons := []) (cuts := [(48, 4, cut48_4)]) trivial ⟨cut48_4_ok, trivial⟩ (fn := Try.f48) ⟨Try.func48, name48⟩ (by kernel_rfl) (by kernel_rfl) rfl rfl 200
  (fun x => by obtain ⟨a, b, _⟩ := x; kernel_rfl)

noncomputable def g26 (a : Dmask) (b : Dmask) : Option Bool :=
  (match (eqI a.w b.w) with | true => (match (eqI a.h b.h) with | true => (g48 a.v b.v).bind fun r160 => some r160 | false => some false) | false => some false)
noncomputable def con26 : Con UU := conOf [.ty Ty.mask, .ty Ty.mask] (.one (.cell .bool)) (fun x => g26 x.1 x.2.1)
theorem con26_ok : ConOK Try.prog 26 con26 := con (cons := [(48, con48)]) (cuts := []) ⟨con48_ok, trivial⟩ trivial (fn := Try.f26) ⟨Try.func26, name26⟩ (by kernel_rfl) (by kernel_rfl) rfl rfl 200
  (fun x => by obtain ⟨a, b, _⟩ := x; kernel_rfl)

def D27_4 : Desc UU := ⟨45, [(2, .ptr 0 3 0 0), (3, .ptr 1 3 0 0), (5, .cell (.int .i64))], [.tbox Ty.image, .tbox Ty.image]⟩
def D27_4x0 : Desc UU := ⟨45, [(4, .cell .bool)], []⟩
def D27_4x1 : Desc UU := ⟨45, [], []⟩
abbrev Y27_4 := D27_4x0.X ⊕ (D27_4x1.X)
def outs27_4 (y : Y27_4) : AExit × St UU := match y with
  | (.inl z) => (.ret, D27_4x0.enc z)
  | (.inr z) => ((.exit 0), D27_4x1.enc z)
def kont27_4 {R : Type} (y : Y27_4) (k : AExit → St UU → Option R) : Option R := match y with
  | (.inl z) => k .ret (D27_4x0.enc z)
  | (.inr z) => k (.exit 0) (D27_4x1.enc z)
def other27_4 (ex : AExit) (st : St UU) : Option Y27_4 := match ex with
  | .ret => match D27_4x0.go st with
    | some y => some (.inl y)
    | none => none
  | (.exit 0) => match D27_4x1.go st with
    | some y => some (.inr y)
    | none => none
  | _ => none
theorem outok27_4 : OutOK other27_4 outs27_4 := ⟨fun ex st y hne h => by
  unfold other27_4 at h
  split at h
  · split at h
    · rename_i y' hy; cases h; exact ⟨rfl, go_pull hy⟩
    · cases h
  · split at h
    · rename_i y' hy; cases h; exact ⟨rfl, go_pull hy⟩
    · cases h
  · cases h⟩
noncomputable def step27_4 (x : D27_4.X) : Option (D27_4.X ⊕ Y27_4) :=
  let s5 : Int := x.1.2.2.1
  let b0 : Dimage := x.2.1
  let b1 : Dimage := x.2.2.1
  (match (ltI s5 (b0.pix.length : Int)) with | true => (ix b0.pix s5).bind fun x163 => (ix b1.pix s5).bind fun x164 => (match (!((eqI x163.r x164.r) && ((eqI x163.g x164.g) && ((eqI x163.b x164.b) && ((eqI x163.a x164.a) && true))))) with | true => some (.inr (.inl ((false, ()), (())))) | false => some (.inl (((), (), (addI .i64 s5 (1 : Int)), ()), (b0, b1, ())))) | false => some (.inr (.inr ((()), (())))))
theorem step27_4_eq : ∀ x, exec (E [] []) 200 27 (loopAt Try.f27 4) (D27_4.enc x) (roundK D27_4.go other27_4) = step27_4 x := fun x => by
  obtain ⟨⟨s2, s3, s5, _⟩, ⟨b0, b1, _⟩⟩ := x
  kernel_rfl
noncomputable def cut27_4 : Cut UU := loopCut D27_4 (loopOf step27_4) outs27_4 kont27_4
theorem cut27_4_ok : CutAt Try.prog 27 4 cut27_4 := cut (cons := []) (cuts := []) trivial trivial (fn := Try.f27) ⟨Try.func27, name27⟩ (by kernel_rfl) outok27_4 (fun R y k => by rcases y with _ | _ <;> rfl) 200 step27_4_eq

noncomputable def g27 (a : Dimage) (b : Dimage) : Option Bool :=
  (match (!(eqI a.w b.w)) with | true => some false | false => (match (!(eqI a.h b.h)) with | true => some false | false => (match (!(eqI (a.pix.length : Int) (b.pix.length : Int))) with | true => some false | false => (loopOf step27_4 (((), (), (0 : Int), ()), (a, b, ()))).bind fun y165 => (match y165 with | .inl z166 => some z166.1.1 | .inr w168 => (let z167 := w168; some true)))))
noncomputable def con27 : Con UU := conOf [.ty Ty.image, .ty Ty.image] (.one (.cell .bool)) (fun x => g27 x.1 x.2.1)
theorem con27_ok : ConOK Try.prog 27 con27 := con (cons := []) (cuts := [(27, 4, cut27_4)]) trivial ⟨cut27_4_ok, trivial⟩ (fn := Try.f27) ⟨Try.func27, name27⟩ (by kernel_rfl) (by kernel_rfl) rfl rfl 200
  (fun x => by obtain ⟨a, b, _⟩ := x; kernel_rfl)

def D49_4 : Desc UU := ⟨26, [(0, .cell (.sl Ty.knot)), (1, .cell (.sl Ty.knot)), (5, .cell (.int .i64))], []⟩
def D49_4x0 : Desc UU := ⟨26, [(4, .cell .bool)], []⟩
def D49_4x1 : Desc UU := ⟨26, [], []⟩
abbrev Y49_4 := D49_4x0.X ⊕ (D49_4x1.X)
def outs49_4 (y : Y49_4) : AExit × St UU := match y with
  | (.inl z) => (.ret, D49_4x0.enc z)
  | (.inr z) => ((.exit 0), D49_4x1.enc z)
def kont49_4 {R : Type} (y : Y49_4) (k : AExit → St UU → Option R) : Option R := match y with
  | (.inl z) => k .ret (D49_4x0.enc z)
  | (.inr z) => k (.exit 0) (D49_4x1.enc z)
def other49_4 (ex : AExit) (st : St UU) : Option Y49_4 := match ex with
  | .ret => match D49_4x0.go st with
    | some y => some (.inl y)
    | none => none
  | (.exit 0) => match D49_4x1.go st with
    | some y => some (.inr y)
    | none => none
  | _ => none
theorem outok49_4 : OutOK other49_4 outs49_4 := ⟨fun ex st y hne h => by
  unfold other49_4 at h
  split at h
  · split at h
    · rename_i y' hy; cases h; exact ⟨rfl, go_pull hy⟩
    · cases h
  · split at h
    · rename_i y' hy; cases h; exact ⟨rfl, go_pull hy⟩
    · cases h
  · cases h⟩
noncomputable def step49_4 (x : D49_4.X) : Option (D49_4.X ⊕ Y49_4) :=
  let s0 : List Dknot := x.1.1
  let s1 : List Dknot := x.1.2.1
  let s5 : Int := x.1.2.2.1
  (match (ltI s5 (s0.length : Int)) with | true => (ix s0 s5).bind fun x173 => (ix s1 s5).bind fun x174 => (match (!((eqI x173.x x174.x) && ((eqI x173.y x174.y) && true))) with | true => some (.inr (.inl ((false, ()), (())))) | false => some (.inl ((s0, s1, (addI .i64 s5 (1 : Int)), ()), (())))) | false => some (.inr (.inr ((()), (())))))
theorem step49_4_eq : ∀ x, exec (E [] []) 200 49 (loopAt Try.f49 4) (D49_4.enc x) (roundK D49_4.go other49_4) = step49_4 x := fun x => by
  obtain ⟨⟨s0, s1, s5, _⟩, _⟩ := x
  kernel_rfl
noncomputable def cut49_4 : Cut UU := loopCut D49_4 (loopOf step49_4) outs49_4 kont49_4
theorem cut49_4_ok : CutAt Try.prog 49 4 cut49_4 := cut (cons := []) (cuts := []) trivial trivial (fn := Try.f49) ⟨Try.func49, name49⟩ (by kernel_rfl) outok49_4 (fun R y k => by rcases y with _ | _ <;> rfl) 200 step49_4_eq

noncomputable def g49 (a : List Dknot) (b : List Dknot) : Option Bool :=
  (match (!(eqI (a.length : Int) (b.length : Int))) with | true => some false | false => (loopOf step49_4 ((a, b, (0 : Int), ()), (()))).bind fun y175 => (match y175 with | .inl z176 => some z176.1.1 | .inr w178 => (let z177 := w178; some true)))
noncomputable def con49 : Con UU := conOf [.cell (.sl Ty.knot), .cell (.sl Ty.knot)] (.one (.cell .bool)) (fun x => g49 x.1 x.2.1)
theorem con49_ok : ConOK Try.prog 49 con49 := con (cons := []) (cuts := [(49, 4, cut49_4)]) trivial ⟨cut49_4_ok, trivial⟩ (fn := Try.f49) ⟨Try.func49, name49⟩ (by kernel_rfl) (by kernel_rfl) rfl rfl 200
  (fun x => by obtain ⟨a, b, _⟩ := x; kernel_rfl)

def D28_4 : Desc UU := ⟨136, [(2, .ptr 0 16 0 0), (3, .ptr 1 16 0 0), (5, .cell (.int .i64))], [.tbox Ty.brush, .tbox Ty.brush]⟩
def D28_4x0 : Desc UU := ⟨136, [(4, .cell .bool)], []⟩
def D28_4x1 : Desc UU := ⟨136, [], []⟩
abbrev Y28_4 := D28_4x0.X ⊕ (D28_4x1.X)
def outs28_4 (y : Y28_4) : AExit × St UU := match y with
  | (.inl z) => (.ret, D28_4x0.enc z)
  | (.inr z) => ((.exit 0), D28_4x1.enc z)
def kont28_4 {R : Type} (y : Y28_4) (k : AExit → St UU → Option R) : Option R := match y with
  | (.inl z) => k .ret (D28_4x0.enc z)
  | (.inr z) => k (.exit 0) (D28_4x1.enc z)
def other28_4 (ex : AExit) (st : St UU) : Option Y28_4 := match ex with
  | .ret => match D28_4x0.go st with
    | some y => some (.inl y)
    | none => none
  | (.exit 0) => match D28_4x1.go st with
    | some y => some (.inr y)
    | none => none
  | _ => none
theorem outok28_4 : OutOK other28_4 outs28_4 := ⟨fun ex st y hne h => by
  unfold other28_4 at h
  split at h
  · split at h
    · rename_i y' hy; cases h; exact ⟨rfl, go_pull hy⟩
    · cases h
  · split at h
    · rename_i y' hy; cases h; exact ⟨rfl, go_pull hy⟩
    · cases h
  · cases h⟩
noncomputable def step28_4 (x : D28_4.X) : Option (D28_4.X ⊕ Y28_4) :=
  let s5 : Int := x.1.2.2.1
  let b0 : Dbrush := x.2.1
  let b1 : Dbrush := x.2.2.1
  (match (ltI s5 (b0.dynamics.length : Int)) with | true => (ix b0.dynamics s5).bind fun x180 => (ix b1.dynamics s5).bind fun x181 => (match (!(eqI x180.target x181.target)) with | true => some (.inr (.inl ((false, ()), (())))) | false => (match (!(eqI x180.source x181.source)) with | true => some (.inr (.inl ((false, ()), (())))) | false => (g49 x180.curve x181.curve).bind fun r182 => (match (!r182) with | true => some (.inr (.inl ((false, ()), (())))) | false => some (.inl (((), (), (addI .i64 s5 (1 : Int)), ()), (b0, b1, ())))))) | false => some (.inr (.inr ((()), (())))))
theorem step28_4_eq : ∀ x, exec (E [(49, con49)] []) 200 28 (loopAt Try.f28 4) (D28_4.enc x) (roundK D28_4.go other28_4) = step28_4 x := fun x => by
  obtain ⟨⟨s2, s3, s5, _⟩, ⟨b0, b1, _⟩⟩ := x
  kernel_rfl
noncomputable def cut28_4 : Cut UU := loopCut D28_4 (loopOf step28_4) outs28_4 kont28_4
theorem cut28_4_ok : CutAt Try.prog 28 4 cut28_4 := cut (cons := [(49, con49)]) (cuts := []) ⟨con49_ok, trivial⟩ trivial (fn := Try.f28) ⟨Try.func28, name28⟩ (by kernel_rfl) outok28_4 (fun R y k => by rcases y with _ | _ <;> rfl) 200 step28_4_eq

noncomputable def g28 (a : Dbrush) (b : Dbrush) : Option Bool :=
  (match (!(eqI a.size b.size)) with | true => some false | false => (match (!(eqI a.hard b.hard)) with | true => some false | false => (match (!(eqI a.round b.round)) with | true => some false | false => (match (!(eqI a.flow b.flow)) with | true => some false | false => (match (!(eqI a.opacity b.opacity)) with | true => some false | false => (match (!(eqI a.spacing b.spacing)) with | true => some false | false => (match (!(eqI a.angle b.angle)) with | true => some false | false => (match (!(eqI a.scatter b.scatter)) with | true => some false | false => (match (!(eqI a.mode b.mode)) with | true => some false | false => (match (!((eqI a.color.r b.color.r) && ((eqI a.color.g b.color.g) && ((eqI a.color.b b.color.b) && ((eqI a.color.a b.color.a) && true))))) with | true => some false | false => (match (!(eqI a.seed b.seed)) with | true => some false | false => (match (!(eqB a.erase b.erase)) with | true => some false | false => (match (!(eqI (a.dynamics.length : Int) (b.dynamics.length : Int))) with | true => some false | false => (loopOf step28_4 (((), (), (0 : Int), ()), (a, b, ()))).bind fun y183 => (match y183 with | .inl z184 => some z184.1.1 | .inr w186 => (let z185 := w186; some true)))))))))))))))
noncomputable def con28 : Con UU := conOf [.ty Ty.brush, .ty Ty.brush] (.one (.cell .bool)) (fun x => g28 x.1 x.2.1)
theorem con28_ok : ConOK Try.prog 28 con28 := con (cons := []) (cuts := [(28, 4, cut28_4)]) trivial ⟨cut28_4_ok, trivial⟩ (fn := Try.f28) ⟨Try.func28, name28⟩ (by kernel_rfl) (by kernel_rfl) rfl rfl 200
  (fun x => by obtain ⟨a, b, _⟩ := x; kernel_rfl)

def D58_4 : Desc UU := ⟨26, [(0, .cell (.sl Ty.stop)), (1, .cell (.sl Ty.stop)), (5, .cell (.int .i64))], []⟩
def D58_4x0 : Desc UU := ⟨26, [(4, .cell .bool)], []⟩
def D58_4x1 : Desc UU := ⟨26, [], []⟩
abbrev Y58_4 := D58_4x0.X ⊕ (D58_4x1.X)
def outs58_4 (y : Y58_4) : AExit × St UU := match y with
  | (.inl z) => (.ret, D58_4x0.enc z)
  | (.inr z) => ((.exit 0), D58_4x1.enc z)
def kont58_4 {R : Type} (y : Y58_4) (k : AExit → St UU → Option R) : Option R := match y with
  | (.inl z) => k .ret (D58_4x0.enc z)
  | (.inr z) => k (.exit 0) (D58_4x1.enc z)
def other58_4 (ex : AExit) (st : St UU) : Option Y58_4 := match ex with
  | .ret => match D58_4x0.go st with
    | some y => some (.inl y)
    | none => none
  | (.exit 0) => match D58_4x1.go st with
    | some y => some (.inr y)
    | none => none
  | _ => none
theorem outok58_4 : OutOK other58_4 outs58_4 := ⟨fun ex st y hne h => by
  unfold other58_4 at h
  split at h
  · split at h
    · rename_i y' hy; cases h; exact ⟨rfl, go_pull hy⟩
    · cases h
  · split at h
    · rename_i y' hy; cases h; exact ⟨rfl, go_pull hy⟩
    · cases h
  · cases h⟩
noncomputable def step58_4 (x : D58_4.X) : Option (D58_4.X ⊕ Y58_4) :=
  let s0 : List Dstop := x.1.1
  let s1 : List Dstop := x.1.2.1
  let s5 : Int := x.1.2.2.1
  (match (ltI s5 (s0.length : Int)) with | true => (ix s0 s5).bind fun x189 => (ix s1 s5).bind fun x190 => (match (!((eqI x189.at_ x190.at_) && ((eqI x189.color.r x190.color.r) && ((eqI x189.color.g x190.color.g) && ((eqI x189.color.b x190.color.b) && ((eqI x189.color.a x190.color.a) && true)))))) with | true => some (.inr (.inl ((false, ()), (())))) | false => some (.inl ((s0, s1, (addI .i64 s5 (1 : Int)), ()), (())))) | false => some (.inr (.inr ((()), (())))))
theorem step58_4_eq : ∀ x, exec (E [] []) 200 58 (loopAt Try.f58 4) (D58_4.enc x) (roundK D58_4.go other58_4) = step58_4 x := fun x => by
  obtain ⟨⟨s0, s1, s5, _⟩, _⟩ := x
  kernel_rfl
noncomputable def cut58_4 : Cut UU := loopCut D58_4 (loopOf step58_4) outs58_4 kont58_4
theorem cut58_4_ok : CutAt Try.prog 58 4 cut58_4 := cut (cons := []) (cuts := []) trivial trivial (fn := Try.f58) ⟨Try.func58, name58⟩ (by kernel_rfl) outok58_4 (fun R y k => by rcases y with _ | _ <;> rfl) 200 step58_4_eq

noncomputable def g58 (a : List Dstop) (b : List Dstop) : Option Bool :=
  (match (!(eqI (a.length : Int) (b.length : Int))) with | true => some false | false => (loopOf step58_4 ((a, b, (0 : Int), ()), (()))).bind fun y191 => (match y191 with | .inl z192 => some z192.1.1 | .inr w194 => (let z193 := w194; some true)))
noncomputable def con58 : Con UU := conOf [.cell (.sl Ty.stop), .cell (.sl Ty.stop)] (.one (.cell .bool)) (fun x => g58 x.1 x.2.1)
theorem con58_ok : ConOK Try.prog 58 con58 := con (cons := []) (cuts := [(58, 4, cut58_4)]) trivial ⟨cut58_4_ok, trivial⟩ (fn := Try.f58) ⟨Try.func58, name58⟩ (by kernel_rfl) (by kernel_rfl) rfl rfl 200
  (fun x => by obtain ⟨a, b, _⟩ := x; kernel_rfl)

def D59_4 : Desc UU := ⟨26, [(0, .cell (.sl Ty.seg)), (1, .cell (.sl Ty.seg)), (5, .cell (.int .i64))], []⟩
def D59_4x0 : Desc UU := ⟨26, [(4, .cell .bool)], []⟩
def D59_4x1 : Desc UU := ⟨26, [], []⟩
abbrev Y59_4 := D59_4x0.X ⊕ (D59_4x1.X)
def outs59_4 (y : Y59_4) : AExit × St UU := match y with
  | (.inl z) => (.ret, D59_4x0.enc z)
  | (.inr z) => ((.exit 0), D59_4x1.enc z)
def kont59_4 {R : Type} (y : Y59_4) (k : AExit → St UU → Option R) : Option R := match y with
  | (.inl z) => k .ret (D59_4x0.enc z)
  | (.inr z) => k (.exit 0) (D59_4x1.enc z)
def other59_4 (ex : AExit) (st : St UU) : Option Y59_4 := match ex with
  | .ret => match D59_4x0.go st with
    | some y => some (.inl y)
    | none => none
  | (.exit 0) => match D59_4x1.go st with
    | some y => some (.inr y)
    | none => none
  | _ => none
theorem outok59_4 : OutOK other59_4 outs59_4 := ⟨fun ex st y hne h => by
  unfold other59_4 at h
  split at h
  · split at h
    · rename_i y' hy; cases h; exact ⟨rfl, go_pull hy⟩
    · cases h
  · split at h
    · rename_i y' hy; cases h; exact ⟨rfl, go_pull hy⟩
    · cases h
  · cases h⟩
noncomputable def step59_4 (x : D59_4.X) : Option (D59_4.X ⊕ Y59_4) :=
  let s0 : List Dseg := x.1.1
  let s1 : List Dseg := x.1.2.1
  let s5 : Int := x.1.2.2.1
  (match (ltI s5 (s0.length : Int)) with | true => (ix s0 s5).bind fun x197 => (ix s1 s5).bind fun x198 => (match (!((eqI x197.kind x198.kind) && ((eqI x197.p0.x x198.p0.x) && ((eqI x197.p0.y x198.p0.y) && ((eqI x197.p1.x x198.p1.x) && ((eqI x197.p1.y x198.p1.y) && ((eqI x197.p2.x x198.p2.x) && ((eqI x197.p2.y x198.p2.y) && true)))))))) with | true => some (.inr (.inl ((false, ()), (())))) | false => some (.inl ((s0, s1, (addI .i64 s5 (1 : Int)), ()), (())))) | false => some (.inr (.inr ((()), (())))))
theorem step59_4_eq : ∀ x, exec (E [] []) 200 59 (loopAt Try.f59 4) (D59_4.enc x) (roundK D59_4.go other59_4) = step59_4 x := fun x => by
  obtain ⟨⟨s0, s1, s5, _⟩, _⟩ := x
  kernel_rfl
noncomputable def cut59_4 : Cut UU := loopCut D59_4 (loopOf step59_4) outs59_4 kont59_4
theorem cut59_4_ok : CutAt Try.prog 59 4 cut59_4 := cut (cons := []) (cuts := []) trivial trivial (fn := Try.f59) ⟨Try.func59, name59⟩ (by kernel_rfl) outok59_4 (fun R y k => by rcases y with _ | _ <;> rfl) 200 step59_4_eq

noncomputable def g59 (a : List Dseg) (b : List Dseg) : Option Bool :=
  (match (!(eqI (a.length : Int) (b.length : Int))) with | true => some false | false => (loopOf step59_4 ((a, b, (0 : Int), ()), (()))).bind fun y199 => (match y199 with | .inl z200 => some z200.1.1 | .inr w202 => (let z201 := w202; some true)))
noncomputable def con59 : Con UU := conOf [.cell (.sl Ty.seg), .cell (.sl Ty.seg)] (.one (.cell .bool)) (fun x => g59 x.1 x.2.1)
theorem con59_ok : ConOK Try.prog 59 con59 := con (cons := []) (cuts := [(59, 4, cut59_4)]) trivial ⟨cut59_4_ok, trivial⟩ (fn := Try.f59) ⟨Try.func59, name59⟩ (by kernel_rfl) (by kernel_rfl) rfl rfl 200
  (fun x => by obtain ⟨a, b, _⟩ := x; kernel_rfl)

def D9_4 : Desc UU := ⟨134, [(2, .ptr 0 84 0 0), (3, .ptr 1 84 0 0), (5, .cell (.int .i64))], [.tbox Ty.edit, .tbox Ty.edit]⟩
def D9_4x0 : Desc UU := ⟨134, [(4, .cell .bool)], []⟩
def D9_4x1 : Desc UU := ⟨134, [(2, .ptr 0 84 0 0), (3, .ptr 1 84 0 0)], [.tbox Ty.edit, .tbox Ty.edit]⟩
abbrev Y9_4 := D9_4x0.X ⊕ (D9_4x1.X)
def outs9_4 (y : Y9_4) : AExit × St UU := match y with
  | (.inl z) => (.ret, D9_4x0.enc z)
  | (.inr z) => ((.exit 0), D9_4x1.enc z)
def kont9_4 {R : Type} (y : Y9_4) (k : AExit → St UU → Option R) : Option R := match y with
  | (.inl z) => k .ret (D9_4x0.enc z)
  | (.inr z) => k (.exit 0) (D9_4x1.enc z)
def other9_4 (ex : AExit) (st : St UU) : Option Y9_4 := match ex with
  | .ret => match D9_4x0.go st with
    | some y => some (.inl y)
    | none => none
  | (.exit 0) => match D9_4x1.go st with
    | some y => some (.inr y)
    | none => none
  | _ => none
theorem outok9_4 : OutOK other9_4 outs9_4 := ⟨fun ex st y hne h => by
  unfold other9_4 at h
  split at h
  · split at h
    · rename_i y' hy; cases h; exact ⟨rfl, go_pull hy⟩
    · cases h
  · split at h
    · rename_i y' hy; cases h; exact ⟨rfl, go_pull hy⟩
    · cases h
  · cases h⟩
noncomputable def step9_4 (x : D9_4.X) : Option (D9_4.X ⊕ Y9_4) :=
  let s5 : Int := x.1.2.2.1
  let b0 : Dedit := x.2.1
  let b1 : Dedit := x.2.2.1
  (match (ltI s5 (b0.samples.length : Int)) with | true => (ix b0.samples s5).bind fun x205 => (ix b1.samples s5).bind fun x206 => (match (!((eqI x205.x x206.x) && ((eqI x205.y x206.y) && ((eqI x205.pressure x206.pressure) && ((eqI x205.tilt x206.tilt) && ((eqI x205.time x206.time) && true)))))) with | true => some (.inr (.inl ((false, ()), (())))) | false => some (.inl (((), (), (addI .i64 s5 (1 : Int)), ()), (b0, b1, ())))) | false => some (.inr (.inr (((), (), ()), (b0, b1, ())))))
theorem step9_4_eq : ∀ x, exec (E [] []) 200 9 (loopAt Try.f9 4) (D9_4.enc x) (roundK D9_4.go other9_4) = step9_4 x := fun x => by
  obtain ⟨⟨s2, s3, s5, _⟩, ⟨b0, b1, _⟩⟩ := x
  kernel_rfl
noncomputable def cut9_4 : Cut UU := loopCut D9_4 (loopOf step9_4) outs9_4 kont9_4
theorem cut9_4_ok : CutAt Try.prog 9 4 cut9_4 := cut (cons := []) (cuts := []) trivial trivial (fn := Try.f9) ⟨Try.func9, name9⟩ (by kernel_rfl) outok9_4 (fun R y k => by rcases y with _ | _ <;> rfl) 200 step9_4_eq

def D60_4 : Desc UU := ⟨52, [(2, .ptr 0 4 0 0), (3, .ptr 1 4 0 0), (5, .cell (.int .i64))], [.tbox Ty.warp, .tbox Ty.warp]⟩
def D60_4x0 : Desc UU := ⟨52, [(4, .cell .bool)], []⟩
def D60_4x1 : Desc UU := ⟨52, [], []⟩
abbrev Y60_4 := D60_4x0.X ⊕ (D60_4x1.X)
def outs60_4 (y : Y60_4) : AExit × St UU := match y with
  | (.inl z) => (.ret, D60_4x0.enc z)
  | (.inr z) => ((.exit 0), D60_4x1.enc z)
def kont60_4 {R : Type} (y : Y60_4) (k : AExit → St UU → Option R) : Option R := match y with
  | (.inl z) => k .ret (D60_4x0.enc z)
  | (.inr z) => k (.exit 0) (D60_4x1.enc z)
def other60_4 (ex : AExit) (st : St UU) : Option Y60_4 := match ex with
  | .ret => match D60_4x0.go st with
    | some y => some (.inl y)
    | none => none
  | (.exit 0) => match D60_4x1.go st with
    | some y => some (.inr y)
    | none => none
  | _ => none
theorem outok60_4 : OutOK other60_4 outs60_4 := ⟨fun ex st y hne h => by
  unfold other60_4 at h
  split at h
  · split at h
    · rename_i y' hy; cases h; exact ⟨rfl, go_pull hy⟩
    · cases h
  · split at h
    · rename_i y' hy; cases h; exact ⟨rfl, go_pull hy⟩
    · cases h
  · cases h⟩
noncomputable def step60_4 (x : D60_4.X) : Option (D60_4.X ⊕ Y60_4) :=
  let s5 : Int := x.1.2.2.1
  let b0 : Dwarp := x.2.1
  let b1 : Dwarp := x.2.2.1
  (match (ltI s5 (b0.d.length : Int)) with | true => (ix b0.d s5).bind fun x217 => (ix b1.d s5).bind fun x218 => (match (!((eqI x217.x x218.x) && ((eqI x217.y x218.y) && true))) with | true => some (.inr (.inl ((false, ()), (())))) | false => some (.inl (((), (), (addI .i64 s5 (1 : Int)), ()), (b0, b1, ())))) | false => some (.inr (.inr ((()), (())))))
theorem step60_4_eq : ∀ x, exec (E [] []) 200 60 (loopAt Try.f60 4) (D60_4.enc x) (roundK D60_4.go other60_4) = step60_4 x := fun x => by
  obtain ⟨⟨s2, s3, s5, _⟩, ⟨b0, b1, _⟩⟩ := x
  kernel_rfl
noncomputable def cut60_4 : Cut UU := loopCut D60_4 (loopOf step60_4) outs60_4 kont60_4
theorem cut60_4_ok : CutAt Try.prog 60 4 cut60_4 := cut (cons := []) (cuts := []) trivial trivial (fn := Try.f60) ⟨Try.func60, name60⟩ (by kernel_rfl) outok60_4 (fun R y k => by rcases y with _ | _ <;> rfl) 200 step60_4_eq

noncomputable def g60 (a : Dwarp) (b : Dwarp) : Option Bool :=
  (match (!(eqI a.cols b.cols)) with | true => some false | false => (match (!(eqI a.rows b.rows)) with | true => some false | false => (match (!(eqI a.step b.step)) with | true => some false | false => (match (!(eqI (a.d.length : Int) (b.d.length : Int))) with | true => some false | false => (loopOf step60_4 (((), (), (0 : Int), ()), (a, b, ()))).bind fun y219 => (match y219 with | .inl z220 => some z220.1.1 | .inr w222 => (let z221 := w222; some true))))))
noncomputable def con60 : Con UU := conOf [.ty Ty.warp, .ty Ty.warp] (.one (.cell .bool)) (fun x => g60 x.1 x.2.1)
theorem con60_ok : ConOK Try.prog 60 con60 := con (cons := []) (cuts := [(60, 4, cut60_4)]) trivial ⟨cut60_4_ok, trivial⟩ (fn := Try.f60) ⟨Try.func60, name60⟩ (by kernel_rfl) (by kernel_rfl) rfl rfl 200
  (fun x => by obtain ⟨a, b, _⟩ := x; kernel_rfl)

noncomputable def g47 (a : Dnode) (b : Dnode) : Option Bool :=
  (g27 a.image b.image).bind fun r211 => (match r211 with | true => (match ((eqI a.color.r b.color.r) && ((eqI a.color.g b.color.g) && ((eqI a.color.b b.color.b) && ((eqI a.color.a b.color.a) && true)))) with | true => (match (eqI a.sub b.sub) with | true => (g48 a.params b.params).bind fun r212 => (match r212 with | true => (match (eqI a.spread b.spread) with | true => (g58 a.stops b.stops).bind fun r213 => (match r213 with | true => (g59 a.segs b.segs).bind fun r214 => (match r214 with | true => (match (eqI a.rule b.rule) with | true => (match (eqI a.width b.width) with | true => (match (eqI a.join b.join) with | true => (match (eqI a.cap b.cap) with | true => (match (eqS a.text b.text) with | true => (match (eqI a.size b.size) with | true => (match (eqI a.wrap b.wrap) with | true => (match (eqI a.ref b.ref) with | true => (g60 a.warp b.warp).bind fun r223 => some r223 | false => some false) | false => some false) | false => some false) | false => some false) | false => some false) | false => some false) | false => some false) | false => some false) | false => some false) | false => some false) | false => some false) | false => some false) | false => some false) | false => some false) | false => some false)
noncomputable def con47 : Con UU := conOf [.ty Ty.node, .ty Ty.node] (.one (.cell .bool)) (fun x => g47 x.1 x.2.1)
theorem con47_ok : ConOK Try.prog 47 con47 := con (cons := [(27, con27), (48, con48), (58, con58), (59, con59), (60, con60)]) (cuts := []) ⟨con27_ok, con48_ok, con58_ok, con59_ok, con60_ok, trivial⟩ trivial (fn := Try.f47) ⟨Try.func47, name47⟩ (by kernel_rfl) (by kernel_rfl) rfl rfl 200
  (fun x => by obtain ⟨a, b, _⟩ := x; kernel_rfl)

noncomputable def g25 (a : Dnode) (b : Dnode) : Option Bool :=
  (match (eqI a.id b.id) with | true => (match (eqI a.kind b.kind) with | true => (match (eqI a.parent b.parent) with | true => (match (eqS a.name b.name) with | true => (match (eqB a.hidden b.hidden) with | true => (match (eqB a.locked b.locked) with | true => (match (eqB a.clip b.clip) with | true => (match (eqI a.opacity b.opacity) with | true => (match (eqI a.mode b.mode) with | true => (g26 a.mask b.mask).bind fun r210 => (match r210 with | true => (match ((eqI a.t.a b.t.a) && ((eqI a.t.b b.t.b) && ((eqI a.t.c b.t.c) && ((eqI a.t.d b.t.d) && ((eqI a.t.e b.t.e) && ((eqI a.t.f b.t.f) && true)))))) with | true => (match (eqI a.kernel b.kernel) with | true => (g47 a b).bind fun r224 => some r224 | false => some false) | false => some false) | false => some false) | false => some false) | false => some false) | false => some false) | false => some false) | false => some false) | false => some false) | false => some false) | false => some false) | false => some false)
noncomputable def con25 : Con UU := conOf [.ty Ty.node, .ty Ty.node] (.one (.cell .bool)) (fun x => g25 x.1 x.2.1)
theorem con25_ok : ConOK Try.prog 25 con25 := con (cons := [(26, con26), (47, con47)]) (cuts := []) ⟨con26_ok, con47_ok, trivial⟩ trivial (fn := Try.f25) ⟨Try.func25, name25⟩ (by kernel_rfl) (by kernel_rfl) rfl rfl 200
  (fun x => by obtain ⟨a, b, _⟩ := x; kernel_rfl)

noncomputable def g9 (a : Dedit) (b : Dedit) : Option Bool :=
  (match (!(eqI (a.samples.length : Int) (b.samples.length : Int))) with | true => some false | false => (loopOf step9_4 (((), (), (0 : Int), ()), (a, b, ()))).bind fun y207 => (match y207 with | .inl z208 => some z208.1.1 | .inr w229 => (let z209 := w229; (match (eqI z209.2.1.kind z209.2.2.1.kind) with | true => (match (eqI z209.2.1.id z209.2.2.1.id) with | true => (match (eqI z209.2.1.parent z209.2.2.1.parent) with | true => (match (eqI z209.2.1.at_ z209.2.2.1.at_) with | true => (match (eqI z209.2.1.value z209.2.2.1.value) with | true => (match (eqI z209.2.1.to_ z209.2.2.1.to_) with | true => (match (eqS z209.2.1.text z209.2.2.1.text) with | true => (match (eqS z209.2.1.data z209.2.2.1.data) with | true => (g25 z209.2.1.node z209.2.2.1.node).bind fun r225 => (match r225 with | true => (g26 z209.2.1.mask z209.2.2.1.mask).bind fun r226 => (match r226 with | true => (g27 z209.2.1.image z209.2.2.1.image).bind fun r227 => (match r227 with | true => (g28 z209.2.1.brush z209.2.2.1.brush).bind fun r228 => (match r228 with | true => (match ((eqI z209.2.1.offset.x z209.2.2.1.offset.x) && ((eqI z209.2.1.offset.y z209.2.2.1.offset.y) && true)) with | true => (match ((eqI z209.2.1.rect.x z209.2.2.1.rect.x) && ((eqI z209.2.1.rect.y z209.2.2.1.rect.y) && ((eqI z209.2.1.rect.w z209.2.2.1.rect.w) && ((eqI z209.2.1.rect.h z209.2.2.1.rect.h) && true)))) with | true => some ((eqI z209.2.1.color.r z209.2.2.1.color.r) && ((eqI z209.2.1.color.g z209.2.2.1.color.g) && ((eqI z209.2.1.color.b z209.2.2.1.color.b) && ((eqI z209.2.1.color.a z209.2.2.1.color.a) && true)))) | false => some false) | false => some false) | false => some false) | false => some false) | false => some false) | false => some false) | false => some false) | false => some false) | false => some false) | false => some false) | false => some false) | false => some false) | false => some false) | false => some false))))
noncomputable def con9 : Con UU := conOf [.ty Ty.edit, .ty Ty.edit] (.one (.cell .bool)) (fun x => g9 x.1 x.2.1)
theorem con9_ok : ConOK Try.prog 9 con9 := con (cons := [(25, con25), (26, con26), (27, con27), (28, con28)]) (cuts := [(9, 4, cut9_4)]) ⟨con25_ok, con26_ok, con27_ok, con28_ok, trivial⟩ ⟨cut9_4_ok, trivial⟩ (fn := Try.f9) ⟨Try.func9, name9⟩ (by kernel_rfl) (by kernel_rfl) rfl rfl 200
  (fun x => by obtain ⟨a, b, _⟩ := x; kernel_rfl)

def D13_9 : Desc UU := ⟨72, [(0, .cell (.sl Ty.action)), (1, .cell (.sl Ty.action)), (5, .cell (.int .i64)), (6, .cell (.int .i64))], []⟩
def D13_9x0 : Desc UU := ⟨72, [(4, .cell .bool)], []⟩
def D13_9x1 : Desc UU := ⟨72, [(0, .cell (.sl Ty.action)), (1, .cell (.sl Ty.action)), (5, .cell (.int .i64))], []⟩
abbrev Y13_9 := D13_9x0.X ⊕ (D13_9x1.X)
def outs13_9 (y : Y13_9) : AExit × St UU := match y with
  | (.inl z) => (.ret, D13_9x0.enc z)
  | (.inr z) => ((.exit 2), D13_9x1.enc z)
def kont13_9 {R : Type} (y : Y13_9) (k : AExit → St UU → Option R) : Option R := match y with
  | (.inl z) => k .ret (D13_9x0.enc z)
  | (.inr z) => k (.exit 2) (D13_9x1.enc z)
def other13_9 (ex : AExit) (st : St UU) : Option Y13_9 := match ex with
  | .ret => match D13_9x0.go st with
    | some y => some (.inl y)
    | none => none
  | (.exit 2) => match D13_9x1.go st with
    | some y => some (.inr y)
    | none => none
  | _ => none
theorem outok13_9 : OutOK other13_9 outs13_9 := ⟨fun ex st y hne h => by
  unfold other13_9 at h
  split at h
  · split at h
    · rename_i y' hy; cases h; exact ⟨rfl, go_pull hy⟩
    · cases h
  · split at h
    · rename_i y' hy; cases h; exact ⟨rfl, go_pull hy⟩
    · cases h
  · cases h⟩
noncomputable def step13_9 (x : D13_9.X) : Option (D13_9.X ⊕ Y13_9) :=
  let s0 : List Daction := x.1.1
  let s1 : List Daction := x.1.2.1
  let s5 : Int := x.1.2.2.1
  let s6 : Int := x.1.2.2.2.1
  (ix s0 s5).bind fun x240 => (match (ltI s6 (x240.binds.length : Int)) with | true => (ix s0 s5).bind fun x241 => (ix x241.binds s6).bind fun x242 => (ix s1 s5).bind fun x243 => (ix x243.binds s6).bind fun x244 => (match (!((eqS x242.field x244.field) && ((eqS x242.param x244.param) && true))) with | true => some (.inr (.inl ((false, ()), (())))) | false => some (.inl ((s0, s1, s5, (addI .i64 s6 (1 : Int)), ()), (())))) | false => some (.inr (.inr ((s0, s1, s5, ()), (())))))
theorem step13_9_eq : ∀ x, exec (E [] []) 200 13 (loopAt Try.f13 9) (D13_9.enc x) (roundK D13_9.go other13_9) = step13_9 x := fun x => by
  obtain ⟨⟨s0, s1, s5, s6, _⟩, _⟩ := x
  kernel_rfl
noncomputable def cut13_9 : Cut UU := loopCut D13_9 (loopOf step13_9) outs13_9 kont13_9
theorem cut13_9_ok : CutAt Try.prog 13 9 cut13_9 := cut (cons := []) (cuts := []) trivial trivial (fn := Try.f13) ⟨Try.func13, name13⟩ (by kernel_rfl) outok13_9 (fun R y k => by rcases y with _ | _ <;> rfl) 200 step13_9_eq

def D13_4 : Desc UU := ⟨72, [(0, .cell (.sl Ty.action)), (1, .cell (.sl Ty.action)), (5, .cell (.int .i64))], []⟩
def D13_4x0 : Desc UU := ⟨72, [(4, .cell .bool)], []⟩
def D13_4x1 : Desc UU := ⟨72, [], []⟩
abbrev Y13_4 := D13_4x0.X ⊕ (D13_4x1.X)
def outs13_4 (y : Y13_4) : AExit × St UU := match y with
  | (.inl z) => (.ret, D13_4x0.enc z)
  | (.inr z) => ((.exit 0), D13_4x1.enc z)
def kont13_4 {R : Type} (y : Y13_4) (k : AExit → St UU → Option R) : Option R := match y with
  | (.inl z) => k .ret (D13_4x0.enc z)
  | (.inr z) => k (.exit 0) (D13_4x1.enc z)
def other13_4 (ex : AExit) (st : St UU) : Option Y13_4 := match ex with
  | .ret => match D13_4x0.go st with
    | some y => some (.inl y)
    | none => none
  | (.exit 0) => match D13_4x1.go st with
    | some y => some (.inr y)
    | none => none
  | _ => none
theorem outok13_4 : OutOK other13_4 outs13_4 := ⟨fun ex st y hne h => by
  unfold other13_4 at h
  split at h
  · split at h
    · rename_i y' hy; cases h; exact ⟨rfl, go_pull hy⟩
    · cases h
  · split at h
    · rename_i y' hy; cases h; exact ⟨rfl, go_pull hy⟩
    · cases h
  · cases h⟩
noncomputable def step13_4 (x : D13_4.X) : Option (D13_4.X ⊕ Y13_4) :=
  let s0 : List Daction := x.1.1
  let s1 : List Daction := x.1.2.1
  let s5 : Int := x.1.2.2.1
  (match (ltI s5 (s0.length : Int)) with | true => (ix s0 s5).bind fun x249 => (ix s1 s5).bind fun x250 => (g9 x249.edit x250.edit).bind fun r251 => (match (!r251) with | true => some (.inr (.inl ((false, ()), (())))) | false => (ix s0 s5).bind fun x252 => (ix s1 s5).bind fun x253 => (match (!(eqI (x252.binds.length : Int) (x253.binds.length : Int))) with | true => some (.inr (.inl ((false, ()), (())))) | false => (loopOf step13_9 ((s0, s1, s5, (0 : Int), ()), (()))).bind fun y254 => (match y254 with | .inl z255 => some (.inr (.inl ((z255.1.1, ()), (())))) | .inr w257 => (let z256 := w257; some (.inl ((z256.1.1, z256.1.2.1, (addI .i64 z256.1.2.2.1 (1 : Int)), ()), (()))))))) | false => some (.inr (.inr ((()), (())))))
theorem step13_4_eq : ∀ x, exec (E [(9, con9)] [(13, 9, cut13_9)]) 200 13 (loopAt Try.f13 4) (D13_4.enc x) (roundK D13_4.go other13_4) = step13_4 x := fun x => by
  obtain ⟨⟨s0, s1, s5, _⟩, _⟩ := x
  kernel_rfl
noncomputable def cut13_4 : Cut UU := loopCut D13_4 (loopOf step13_4) outs13_4 kont13_4
theorem cut13_4_ok : CutAt Try.prog 13 4 cut13_4 := cut (cons := [(9, con9)]) (cuts := [(13, 9, cut13_9)]) ⟨con9_ok, trivial⟩ ⟨cut13_9_ok, trivial⟩ (fn := Try.f13) ⟨Try.func13, name13⟩ (by kernel_rfl) outok13_4 (fun R y k => by rcases y with _ | _ <;> rfl) 200 step13_4_eq

noncomputable def g13 (a : List Daction) (b : List Daction) : Option Bool :=
  (match (!(eqI (a.length : Int) (b.length : Int))) with | true => some false | false => (loopOf step13_4 ((a, b, (0 : Int), ()), (()))).bind fun y258 => (match y258 with | .inl z259 => some z259.1.1 | .inr w261 => (let z260 := w261; some true)))
noncomputable def con13 : Con UU := conOf [.cell (.sl Ty.action), .cell (.sl Ty.action)] (.one (.cell .bool)) (fun x => g13 x.1 x.2.1)
theorem con13_ok : ConOK Try.prog 13 con13 := con (cons := []) (cuts := [(13, 4, cut13_4)]) trivial ⟨cut13_4_ok, trivial⟩ (fn := Try.f13) ⟨Try.func13, name13⟩ (by kernel_rfl) (by kernel_rfl) rfl rfl 200
  (fun x => by obtain ⟨a, b, _⟩ := x; kernel_rfl)

def D12_5 : Desc UU := ⟨39, [(0, .cell (.sl Ty.edit)), (1, .cell (.sl Ty.l_bind)), (6, .row 0 85), (7, .cell (.int .i64))], [.row Ty.action]⟩
def D12_5x0 : Desc UU := ⟨39, [(6, .row 0 85)], [.row Ty.action]⟩
abbrev Y12_5 := D12_5x0.X
def outs12_5 (y : Y12_5) : AExit × St UU := ((.exit 0), D12_5x0.enc y)
def kont12_5 {R : Type} (y : Y12_5) (k : AExit → St UU → Option R) : Option R := k (.exit 0) (D12_5x0.enc y)
def other12_5 (ex : AExit) (st : St UU) : Option Y12_5 := match ex with
  | (.exit 0) => match D12_5x0.go st with
    | some y => some y
    | none => none
  | _ => none
theorem outok12_5 : OutOK other12_5 outs12_5 := ⟨fun ex st y hne h => by
  unfold other12_5 at h
  split at h
  · split at h
    · rename_i y' hy; cases h; exact ⟨rfl, go_pull hy⟩
    · cases h
  · cases h⟩
noncomputable def step12_5 (x : D12_5.X) : Option (D12_5.X ⊕ Y12_5) :=
  let s0 : List Dedit := x.1.1
  let s1 : List (List Dbind) := x.1.2.1
  let s7 : Int := x.1.2.2.2.1
  let b0 : List Daction := x.2.1
  (match (ltI s7 (s0.length : Int)) with | true => (ix s0 s7).bind fun x264 => (ix s1 s7).bind fun x265 => chk (roomy (b0.length + ([(⟨x264, x265⟩ : Daction)]).length) 872) (some (.inl ((s0, s1, (), (addI .i64 s7 (1 : Int)), ()), ((appL (α := Daction) b0 ([(⟨x264, x265⟩ : Daction)])), ())))) | false => some (.inr (((), ()), (b0, ()))))
theorem step12_5_eq : ∀ x, exec (E [] []) 200 12 (loopAt Try.f12 5) (D12_5.enc x) (roundK D12_5.go other12_5) = step12_5 x := fun x => by
  obtain ⟨⟨s0, s1, s6, s7, _⟩, ⟨b0, _⟩⟩ := x
  kernel_rfl
noncomputable def cut12_5 : Cut UU := loopCut D12_5 (loopOf step12_5) outs12_5 kont12_5
theorem cut12_5_ok : CutAt Try.prog 12 5 cut12_5 := cut (cons := []) (cuts := []) trivial trivial (fn := Try.f12) ⟨Try.func12, name12⟩ (by kernel_rfl) outok12_5 (fun R y k => by rfl) 200 step12_5_eq

noncomputable def g12 (a : List Dedit) (b : List (List Dbind)) : Option ((List Daction) × Int × Unit) :=
  (match (!(eqI (a.length : Int) (b.length : Int))) with | true => some ([], (15 : Int), ()) | false => (loopOf step12_5 ((a, b, (), (0 : Int), ()), ([], ()))).bind fun y266 => (let z267 := y266; (g18 z267.2.1).bind fun r268 => (match (!(eqI r268 (0 : Int))) with | true => some ([], r268, ()) | false => some (z267.2.1, (0 : Int), ()))))
noncomputable def con12 : Con UU := conOf [.cell (.sl Ty.edit), .cell (.sl Ty.l_bind)] (.many [.cell (.sl Ty.action), .cell (.int .i64)]) (fun x => g12 x.1 x.2.1)
theorem con12_ok : ConOK Try.prog 12 con12 := con (cons := [(18, con18)]) (cuts := [(12, 5, cut12_5)]) ⟨con18_ok, trivial⟩ ⟨cut12_5_ok, trivial⟩ (fn := Try.f12) ⟨Try.func12, name12⟩ (by kernel_rfl) (by kernel_rfl) rfl rfl 200
  (fun x => by obtain ⟨a, b, _⟩ := x; kernel_rfl)

def D24_4 : Desc UU := ⟨115, [(1, .cell .str), (2, .cell (.int .i64)), (3, .ptr 0 84 0 0), (6, .ptr 1 84 0 0), (7, .row 2 1), (8, .cell (.int .i64))], [.tbox Ty.edit, .tbox Ty.edit, .row Ty.int]⟩
def D24_4x0 : Desc UU := ⟨115, [(3, .ptr 0 84 0 0), (6, .ptr 1 84 0 0), (7, .row 2 1)], [.tbox Ty.edit, .tbox Ty.edit, .row Ty.int]⟩
abbrev Y24_4 := D24_4x0.X
def outs24_4 (y : Y24_4) : AExit × St UU := ((.exit 1), D24_4x0.enc y)
def kont24_4 {R : Type} (y : Y24_4) (k : AExit → St UU → Option R) : Option R := k (.exit 1) (D24_4x0.enc y)
def other24_4 (ex : AExit) (st : St UU) : Option Y24_4 := match ex with
  | (.exit 1) => match D24_4x0.go st with
    | some y => some y
    | none => none
  | _ => none
theorem outok24_4 : OutOK other24_4 outs24_4 := ⟨fun ex st y hne h => by
  unfold other24_4 at h
  split at h
  · split at h
    · rename_i y' hy; cases h; exact ⟨rfl, go_pull hy⟩
    · cases h
  · cases h⟩
noncomputable def step24_4 (x : D24_4.X) : Option (D24_4.X ⊕ Y24_4) :=
  let s1 : List UInt8 := x.1.1
  let s2 : Int := x.1.2.1
  let s8 : Int := x.1.2.2.2.2.2.1
  let b0 : Dedit := x.2.1
  let b1 : Dedit := x.2.2.1
  let b2 : List Int := x.2.2.2.1
  (match (ltI s8 (b0.node.params.length : Int)) with | true => (g46 s1).bind fun r271 => (match (eqI s8 r271) with | true => chk (roomy (b2.length + [s2].length) 8) (some (.inl ((s1, s2, (), (), (), (addI .i64 s8 (1 : Int)), ()), (b0, b1, (appL (α := Int) b2 [s2]), ())))) | false => (ix b0.node.params s8).bind fun x272 => chk (roomy (b2.length + [x272].length) 8) (some (.inl ((s1, s2, (), (), (), (addI .i64 s8 (1 : Int)), ()), (b0, b1, (appL (α := Int) b2 [x272]), ()))))) | false => some (.inr (((), (), (), ()), (b0, b1, b2, ()))))
theorem step24_4_eq : ∀ x, exec (E [(46, con46)] []) 200 24 (loopAt Try.f24 4) (D24_4.enc x) (roundK D24_4.go other24_4) = step24_4 x := fun x => by
  obtain ⟨⟨s1, s2, s3, s6, s7, s8, _⟩, ⟨b0, b1, b2, _⟩⟩ := x
  kernel_rfl
noncomputable def cut24_4 : Cut UU := loopCut D24_4 (loopOf step24_4) outs24_4 kont24_4
theorem cut24_4_ok : CutAt Try.prog 24 4 cut24_4 := cut (cons := [(46, con46)]) (cuts := []) ⟨con46_ok, trivial⟩ trivial (fn := Try.f24) ⟨Try.func24, name24⟩ (by kernel_rfl) outok24_4 (fun R y k => by rfl) 200 step24_4_eq

noncomputable def g24 (a : Dedit) (b : List UInt8) (c : Int) : Option Dedit :=
  (match (eqS b ([97] : List UInt8)) with | true => some (⟨a.kind, a.id, a.parent, a.at_, a.value, a.to_, a.text, a.data, a.node, a.mask, a.image, a.brush, a.samples, a.offset, a.rect, ⟨a.color.r, a.color.g, a.color.b, c⟩⟩ : Dedit) | false => (match (eqS b ([97, 116] : List UInt8)) with | true => some (⟨a.kind, a.id, a.parent, c, a.value, a.to_, a.text, a.data, a.node, a.mask, a.image, a.brush, a.samples, a.offset, a.rect, a.color⟩ : Dedit) | false => (match (eqS b ([98] : List UInt8)) with | true => some (⟨a.kind, a.id, a.parent, a.at_, a.value, a.to_, a.text, a.data, a.node, a.mask, a.image, a.brush, a.samples, a.offset, a.rect, ⟨a.color.r, a.color.g, c, a.color.a⟩⟩ : Dedit) | false => (match (eqS b ([100, 120] : List UInt8)) with | true => some (⟨a.kind, a.id, a.parent, a.at_, a.value, a.to_, a.text, a.data, a.node, a.mask, a.image, a.brush, a.samples, ⟨c, a.offset.y⟩, a.rect, a.color⟩ : Dedit) | false => (match (eqS b ([100, 121] : List UInt8)) with | true => some (⟨a.kind, a.id, a.parent, a.at_, a.value, a.to_, a.text, a.data, a.node, a.mask, a.image, a.brush, a.samples, ⟨a.offset.x, c⟩, a.rect, a.color⟩ : Dedit) | false => (match (eqS b ([103] : List UInt8)) with | true => some (⟨a.kind, a.id, a.parent, a.at_, a.value, a.to_, a.text, a.data, a.node, a.mask, a.image, a.brush, a.samples, a.offset, a.rect, ⟨a.color.r, c, a.color.b, a.color.a⟩⟩ : Dedit) | false => (match (eqS b ([104] : List UInt8)) with | true => some (⟨a.kind, a.id, a.parent, a.at_, a.value, a.to_, a.text, a.data, a.node, a.mask, a.image, a.brush, a.samples, a.offset, ⟨a.rect.x, a.rect.y, a.rect.w, c⟩, a.color⟩ : Dedit) | false => (match (eqS b ([105, 100] : List UInt8)) with | true => some (⟨a.kind, c, a.parent, a.at_, a.value, a.to_, a.text, a.data, a.node, a.mask, a.image, a.brush, a.samples, a.offset, a.rect, a.color⟩ : Dedit) | false => (match (eqS b ([111, 112, 97, 99, 105, 116, 121] : List UInt8)) with | true => some (⟨a.kind, a.id, a.parent, a.at_, a.value, a.to_, a.text, a.data, ⟨a.node.id, a.node.kind, a.node.parent, a.node.name, a.node.hidden, a.node.locked, a.node.clip, c, a.node.mode, a.node.mask, a.node.t, a.node.kernel, a.node.image, a.node.color, a.node.sub, a.node.params, a.node.spread, a.node.stops, a.node.segs, a.node.rule, a.node.width, a.node.join, a.node.cap, a.node.text, a.node.size, a.node.wrap, a.node.ref, a.node.warp⟩, a.mask, a.image, a.brush, a.samples, a.offset, a.rect, a.color⟩ : Dedit) | false => (match (eqS b ([112, 97, 114, 101, 110, 116] : List UInt8)) with | true => some (⟨a.kind, a.id, c, a.at_, a.value, a.to_, a.text, a.data, a.node, a.mask, a.image, a.brush, a.samples, a.offset, a.rect, a.color⟩ : Dedit) | false => (match (eqS b ([114] : List UInt8)) with | true => some (⟨a.kind, a.id, a.parent, a.at_, a.value, a.to_, a.text, a.data, a.node, a.mask, a.image, a.brush, a.samples, a.offset, a.rect, ⟨c, a.color.g, a.color.b, a.color.a⟩⟩ : Dedit) | false => (match (eqS b ([116, 111] : List UInt8)) with | true => some (⟨a.kind, a.id, a.parent, a.at_, a.value, c, a.text, a.data, a.node, a.mask, a.image, a.brush, a.samples, a.offset, a.rect, a.color⟩ : Dedit) | false => (match (eqS b ([118, 97, 108, 117, 101] : List UInt8)) with | true => some (⟨a.kind, a.id, a.parent, a.at_, c, a.to_, a.text, a.data, a.node, a.mask, a.image, a.brush, a.samples, a.offset, a.rect, a.color⟩ : Dedit) | false => (match (eqS b ([119] : List UInt8)) with | true => some (⟨a.kind, a.id, a.parent, a.at_, a.value, a.to_, a.text, a.data, a.node, a.mask, a.image, a.brush, a.samples, a.offset, ⟨a.rect.x, a.rect.y, c, a.rect.h⟩, a.color⟩ : Dedit) | false => (match (eqS b ([120] : List UInt8)) with | true => some (⟨a.kind, a.id, a.parent, a.at_, a.value, a.to_, a.text, a.data, a.node, a.mask, a.image, a.brush, a.samples, a.offset, ⟨c, a.rect.y, a.rect.w, a.rect.h⟩, a.color⟩ : Dedit) | false => (match (eqS b ([121] : List UInt8)) with | true => some (⟨a.kind, a.id, a.parent, a.at_, a.value, a.to_, a.text, a.data, a.node, a.mask, a.image, a.brush, a.samples, a.offset, ⟨a.rect.x, c, a.rect.w, a.rect.h⟩, a.color⟩ : Dedit) | false => (loopOf step24_4 ((b, c, (), (), (), (0 : Int), ()), (a, (⟨(0 : Int), (0 : Int), (0 : Int), (0 : Int), (0 : Int), (0 : Int), ([] : List UInt8), ([] : List UInt8), ⟨(0 : Int), (0 : Int), (0 : Int), ([] : List UInt8), false, false, false, (0 : Int), (0 : Int), ⟨(0 : Int), (0 : Int), []⟩, ⟨(0 : Int), (0 : Int), (0 : Int), (0 : Int), (0 : Int), (0 : Int)⟩, (0 : Int), ⟨(0 : Int), (0 : Int), []⟩, ⟨(0 : Int), (0 : Int), (0 : Int), (0 : Int)⟩, (0 : Int), [], (0 : Int), [], [], (0 : Int), (0 : Int), (0 : Int), (0 : Int), ([] : List UInt8), (0 : Int), (0 : Int), (0 : Int), ⟨(0 : Int), (0 : Int), (0 : Int), []⟩⟩, ⟨(0 : Int), (0 : Int), []⟩, ⟨(0 : Int), (0 : Int), []⟩, ⟨(0 : Int), (0 : Int), (0 : Int), (0 : Int), (0 : Int), (0 : Int), (0 : Int), (0 : Int), (0 : Int), ⟨(0 : Int), (0 : Int), (0 : Int), (0 : Int)⟩, (0 : Int), [], false⟩, [], ⟨(0 : Int), (0 : Int)⟩, ⟨(0 : Int), (0 : Int), (0 : Int), (0 : Int)⟩, ⟨(0 : Int), (0 : Int), (0 : Int), (0 : Int)⟩⟩ : Dedit), [], ()))).bind fun y273 => (let z274 := y273; some (⟨z274.2.1.kind, z274.2.1.id, z274.2.1.parent, z274.2.1.at_, z274.2.1.value, z274.2.1.to_, z274.2.1.text, z274.2.1.data, ⟨z274.2.1.node.id, z274.2.1.node.kind, z274.2.1.node.parent, z274.2.1.node.name, z274.2.1.node.hidden, z274.2.1.node.locked, z274.2.1.node.clip, z274.2.1.node.opacity, z274.2.1.node.mode, z274.2.1.node.mask, z274.2.1.node.t, z274.2.1.node.kernel, z274.2.1.node.image, z274.2.1.node.color, z274.2.1.node.sub, z274.2.2.2.1, z274.2.1.node.spread, z274.2.1.node.stops, z274.2.1.node.segs, z274.2.1.node.rule, z274.2.1.node.width, z274.2.1.node.join, z274.2.1.node.cap, z274.2.1.node.text, z274.2.1.node.size, z274.2.1.node.wrap, z274.2.1.node.ref, z274.2.1.node.warp⟩, z274.2.1.mask, z274.2.1.image, z274.2.1.brush, z274.2.1.samples, z274.2.1.offset, z274.2.1.rect, z274.2.1.color⟩ : Dedit))))))))))))))))))
noncomputable def con24 : Con UU := conOf [.ty Ty.edit, .cell .str, .cell (.int .i64)] (.one (.ty Ty.edit)) (fun x => g24 x.1 x.2.1 x.2.2.1)
theorem con24_ok : ConOK Try.prog 24 con24 := con (cons := []) (cuts := [(24, 4, cut24_4)]) trivial ⟨cut24_4_ok, trivial⟩ (fn := Try.f24) ⟨Try.func24, name24⟩ (by kernel_rfl) (by kernel_rfl) rfl rfl 200
  (fun x => by obtain ⟨a, b, c, _⟩ := x; kernel_rfl)

def D8_8 : Desc UU := ⟨87, [(1, .cell (.sl Ty.arg)), (2, .ptr 0 85 0 0), (4, .ptr 1 84 0 0), (7, .cell (.int .i64)), (8, .cell (.int .i64))], [.tbox Ty.action, .tbox Ty.edit]⟩
def D8_8x0 : Desc UU := ⟨87, [(4, .ptr 0 84 0 0), (5, .cell (.int .i64))], [.tbox Ty.edit]⟩
def D8_8x1 : Desc UU := ⟨87, [(1, .cell (.sl Ty.arg)), (2, .ptr 0 85 0 0), (4, .ptr 1 84 0 0), (7, .cell (.int .i64))], [.tbox Ty.action, .tbox Ty.edit]⟩
abbrev Y8_8 := D8_8x0.X ⊕ (D8_8x1.X)
def outs8_8 (y : Y8_8) : AExit × St UU := match y with
  | (.inl z) => (.ret, D8_8x0.enc z)
  | (.inr z) => ((.exit 2), D8_8x1.enc z)
def kont8_8 {R : Type} (y : Y8_8) (k : AExit → St UU → Option R) : Option R := match y with
  | (.inl z) => k .ret (D8_8x0.enc z)
  | (.inr z) => k (.exit 2) (D8_8x1.enc z)
def other8_8 (ex : AExit) (st : St UU) : Option Y8_8 := match ex with
  | .ret => match D8_8x0.go st with
    | some y => some (.inl y)
    | none => none
  | (.exit 2) => match D8_8x1.go st with
    | some y => some (.inr y)
    | none => none
  | _ => none
theorem outok8_8 : OutOK other8_8 outs8_8 := ⟨fun ex st y hne h => by
  unfold other8_8 at h
  split at h
  · split at h
    · rename_i y' hy; cases h; exact ⟨rfl, go_pull hy⟩
    · cases h
  · split at h
    · rename_i y' hy; cases h; exact ⟨rfl, go_pull hy⟩
    · cases h
  · cases h⟩
noncomputable def step8_8 (x : D8_8.X) : Option (D8_8.X ⊕ Y8_8) :=
  let s1 : List Darg := x.1.1
  let s7 : Int := x.1.2.2.2.1
  let s8 : Int := x.1.2.2.2.2.1
  let b0 : Daction := x.2.1
  let b1 : Dedit := x.2.2.1
  (match (ltI s8 s7) with | true => (ix s1 s7).bind fun x278 => (ix s1 s8).bind fun x279 => (match (eqS x278.name x279.name) with | true => some (.inr (.inl (((), (10 : Int), ()), ((⟨(0 : Int), (0 : Int), (0 : Int), (0 : Int), (0 : Int), (0 : Int), ([] : List UInt8), ([] : List UInt8), ⟨(0 : Int), (0 : Int), (0 : Int), ([] : List UInt8), false, false, false, (0 : Int), (0 : Int), ⟨(0 : Int), (0 : Int), []⟩, ⟨(0 : Int), (0 : Int), (0 : Int), (0 : Int), (0 : Int), (0 : Int)⟩, (0 : Int), ⟨(0 : Int), (0 : Int), []⟩, ⟨(0 : Int), (0 : Int), (0 : Int), (0 : Int)⟩, (0 : Int), [], (0 : Int), [], [], (0 : Int), (0 : Int), (0 : Int), (0 : Int), ([] : List UInt8), (0 : Int), (0 : Int), (0 : Int), ⟨(0 : Int), (0 : Int), (0 : Int), []⟩⟩, ⟨(0 : Int), (0 : Int), []⟩, ⟨(0 : Int), (0 : Int), []⟩, ⟨(0 : Int), (0 : Int), (0 : Int), (0 : Int), (0 : Int), (0 : Int), (0 : Int), (0 : Int), (0 : Int), ⟨(0 : Int), (0 : Int), (0 : Int), (0 : Int)⟩, (0 : Int), [], false⟩, [], ⟨(0 : Int), (0 : Int)⟩, ⟨(0 : Int), (0 : Int), (0 : Int), (0 : Int)⟩, ⟨(0 : Int), (0 : Int), (0 : Int), (0 : Int)⟩⟩ : Dedit), ())))) | false => some (.inl ((s1, (), (), s7, (addI .i64 s8 (1 : Int)), ()), (b0, b1, ())))) | false => some (.inr (.inr ((s1, (), (), s7, ()), (b0, b1, ())))))
theorem step8_8_eq : ∀ x, exec (E [] []) 200 8 (loopAt Try.f8 8) (D8_8.enc x) (roundK D8_8.go other8_8) = step8_8 x := fun x => by
  obtain ⟨⟨s1, s2, s4, s7, s8, _⟩, ⟨b0, b1, _⟩⟩ := x
  kernel_rfl
noncomputable def cut8_8 : Cut UU := loopCut D8_8 (loopOf step8_8) outs8_8 kont8_8
theorem cut8_8_ok : CutAt Try.prog 8 8 cut8_8 := cut (cons := []) (cuts := []) trivial trivial (fn := Try.f8) ⟨Try.func8, name8⟩ (by kernel_rfl) outok8_8 (fun R y k => by rcases y with _ | _ <;> rfl) 200 step8_8_eq

def D8_5 : Desc UU := ⟨87, [(1, .cell (.sl Ty.arg)), (2, .ptr 0 85 0 0), (4, .ptr 1 84 0 0), (7, .cell (.int .i64))], [.tbox Ty.action, .tbox Ty.edit]⟩
def D8_5x0 : Desc UU := ⟨87, [(4, .ptr 0 84 0 0), (5, .cell (.int .i64))], [.tbox Ty.edit]⟩
def D8_5x1 : Desc UU := ⟨87, [(1, .cell (.sl Ty.arg)), (2, .ptr 0 85 0 0), (4, .ptr 1 84 0 0)], [.tbox Ty.action, .tbox Ty.edit]⟩
abbrev Y8_5 := D8_5x0.X ⊕ (D8_5x1.X)
def outs8_5 (y : Y8_5) : AExit × St UU := match y with
  | (.inl z) => (.ret, D8_5x0.enc z)
  | (.inr z) => ((.exit 0), D8_5x1.enc z)
def kont8_5 {R : Type} (y : Y8_5) (k : AExit → St UU → Option R) : Option R := match y with
  | (.inl z) => k .ret (D8_5x0.enc z)
  | (.inr z) => k (.exit 0) (D8_5x1.enc z)
def other8_5 (ex : AExit) (st : St UU) : Option Y8_5 := match ex with
  | .ret => match D8_5x0.go st with
    | some y => some (.inl y)
    | none => none
  | (.exit 0) => match D8_5x1.go st with
    | some y => some (.inr y)
    | none => none
  | _ => none
theorem outok8_5 : OutOK other8_5 outs8_5 := ⟨fun ex st y hne h => by
  unfold other8_5 at h
  split at h
  · split at h
    · rename_i y' hy; cases h; exact ⟨rfl, go_pull hy⟩
    · cases h
  · split at h
    · rename_i y' hy; cases h; exact ⟨rfl, go_pull hy⟩
    · cases h
  · cases h⟩
noncomputable def step8_5 (x : D8_5.X) : Option (D8_5.X ⊕ Y8_5) :=
  let s1 : List Darg := x.1.1
  let s7 : Int := x.1.2.2.2.1
  let b0 : Daction := x.2.1
  let b1 : Dedit := x.2.2.1
  (match (ltI s7 (s1.length : Int)) with | true => (loopOf step8_8 ((s1, (), (), s7, (0 : Int), ()), (b0, b1, ()))).bind fun y284 => (match y284 with | .inl z285 => some (.inr (.inl (((), z285.1.2.1, ()), (z285.2.1, ())))) | .inr w287 => (let z286 := w287; some (.inl ((z286.1.1, (), (), (addI .i64 z286.1.2.2.2.1 (1 : Int)), ()), (z286.2.1, z286.2.2.1, ()))))) | false => some (.inr (.inr ((s1, (), (), ()), (b0, b1, ())))))
theorem step8_5_eq : ∀ x, exec (E [] [(8, 8, cut8_8)]) 200 8 (loopAt Try.f8 5) (D8_5.enc x) (roundK D8_5.go other8_5) = step8_5 x := fun x => by
  obtain ⟨⟨s1, s2, s4, s7, _⟩, ⟨b0, b1, _⟩⟩ := x
  kernel_rfl
noncomputable def cut8_5 : Cut UU := loopCut D8_5 (loopOf step8_5) outs8_5 kont8_5
theorem cut8_5_ok : CutAt Try.prog 8 5 cut8_5 := cut (cons := []) (cuts := [(8, 8, cut8_8)]) trivial ⟨cut8_8_ok, trivial⟩ (fn := Try.f8) ⟨Try.func8, name8⟩ (by kernel_rfl) outok8_5 (fun R y k => by rcases y with _ | _ <;> rfl) 200 step8_5_eq

def D8_18 : Desc UU := ⟨87, [(1, .cell (.sl Ty.arg)), (2, .ptr 0 85 0 0), (4, .ptr 1 84 0 0), (9, .ptr 2 84 0 0), (10, .cell (.int .i64)), (11, .cell .bool), (12, .cell (.int .i64))], [.tbox Ty.action, .tbox Ty.edit, .tbox Ty.edit]⟩
def D8_18x0 : Desc UU := ⟨87, [(1, .cell (.sl Ty.arg)), (2, .ptr 0 85 0 0), (4, .ptr 1 84 0 0), (9, .ptr 2 84 0 0), (10, .cell (.int .i64)), (11, .cell .bool)], [.tbox Ty.action, .tbox Ty.edit, .tbox Ty.edit]⟩
abbrev Y8_18 := D8_18x0.X
def outs8_18 (y : Y8_18) : AExit × St UU := ((.exit 6), D8_18x0.enc y)
def kont8_18 {R : Type} (y : Y8_18) (k : AExit → St UU → Option R) : Option R := k (.exit 6) (D8_18x0.enc y)
def other8_18 (ex : AExit) (st : St UU) : Option Y8_18 := match ex with
  | (.exit 6) => match D8_18x0.go st with
    | some y => some y
    | none => none
  | _ => none
theorem outok8_18 : OutOK other8_18 outs8_18 := ⟨fun ex st y hne h => by
  unfold other8_18 at h
  split at h
  · split at h
    · rename_i y' hy; cases h; exact ⟨rfl, go_pull hy⟩
    · cases h
  · cases h⟩
noncomputable def step8_18 (x : D8_18.X) : Option (D8_18.X ⊕ Y8_18) :=
  let s1 : List Darg := x.1.1
  let s10 : Int := x.1.2.2.2.2.1
  let s11 : Bool := x.1.2.2.2.2.2.1
  let s12 : Int := x.1.2.2.2.2.2.2.1
  let b0 : Daction := x.2.1
  let b1 : Dedit := x.2.2.1
  let b2 : Dedit := x.2.2.2.1
  (match (ltI s12 (s1.length : Int)) with | true => (ix s1 s12).bind fun x296 => (ix b0.binds s10).bind fun x297 => (match (eqS x296.name x297.param) with | true => (ix b0.binds s10).bind fun x298 => (ix s1 s12).bind fun x299 => (g24 b2 x298.field x299.value).bind fun r300 => some (.inl ((s1, (), (), (), s10, true, (addI .i64 s12 (1 : Int)), ()), (b0, b1, r300, ()))) | false => some (.inl ((s1, (), (), (), s10, s11, (addI .i64 s12 (1 : Int)), ()), (b0, b1, b2, ())))) | false => some (.inr ((s1, (), (), (), s10, s11, ()), (b0, b1, b2, ()))))
theorem step8_18_eq : ∀ x, exec (E [(24, con24)] []) 200 8 (loopAt Try.f8 18) (D8_18.enc x) (roundK D8_18.go other8_18) = step8_18 x := fun x => by
  obtain ⟨⟨s1, s2, s4, s9, s10, s11, s12, _⟩, ⟨b0, b1, b2, _⟩⟩ := x
  kernel_rfl
noncomputable def cut8_18 : Cut UU := loopCut D8_18 (loopOf step8_18) outs8_18 kont8_18
theorem cut8_18_ok : CutAt Try.prog 8 18 cut8_18 := cut (cons := [(24, con24)]) (cuts := []) ⟨con24_ok, trivial⟩ trivial (fn := Try.f8) ⟨Try.func8, name8⟩ (by kernel_rfl) outok8_18 (fun R y k => by rfl) 200 step8_18_eq

def D8_14 : Desc UU := ⟨87, [(1, .cell (.sl Ty.arg)), (2, .ptr 0 85 0 0), (4, .ptr 1 84 0 0), (9, .ptr 2 84 0 0), (10, .cell (.int .i64))], [.tbox Ty.action, .tbox Ty.edit, .tbox Ty.edit]⟩
def D8_14x0 : Desc UU := ⟨87, [(4, .ptr 0 84 0 0), (5, .cell (.int .i64))], [.tbox Ty.edit]⟩
def D8_14x1 : Desc UU := ⟨87, [(4, .ptr 0 84 0 0), (9, .ptr 1 84 0 0)], [.tbox Ty.edit, .tbox Ty.edit]⟩
abbrev Y8_14 := D8_14x0.X ⊕ (D8_14x1.X)
def outs8_14 (y : Y8_14) : AExit × St UU := match y with
  | (.inl z) => (.ret, D8_14x0.enc z)
  | (.inr z) => ((.exit 4), D8_14x1.enc z)
def kont8_14 {R : Type} (y : Y8_14) (k : AExit → St UU → Option R) : Option R := match y with
  | (.inl z) => k .ret (D8_14x0.enc z)
  | (.inr z) => k (.exit 4) (D8_14x1.enc z)
def other8_14 (ex : AExit) (st : St UU) : Option Y8_14 := match ex with
  | .ret => match D8_14x0.go st with
    | some y => some (.inl y)
    | none => none
  | (.exit 4) => match D8_14x1.go st with
    | some y => some (.inr y)
    | none => none
  | _ => none
theorem outok8_14 : OutOK other8_14 outs8_14 := ⟨fun ex st y hne h => by
  unfold other8_14 at h
  split at h
  · split at h
    · rename_i y' hy; cases h; exact ⟨rfl, go_pull hy⟩
    · cases h
  · split at h
    · rename_i y' hy; cases h; exact ⟨rfl, go_pull hy⟩
    · cases h
  · cases h⟩
noncomputable def step8_14 (x : D8_14.X) : Option (D8_14.X ⊕ Y8_14) :=
  let s1 : List Darg := x.1.1
  let s10 : Int := x.1.2.2.2.2.1
  let b0 : Daction := x.2.1
  let b1 : Dedit := x.2.2.1
  let b2 : Dedit := x.2.2.2.1
  (match (ltI s10 (b0.binds.length : Int)) with | true => (loopOf step8_18 ((s1, (), (), (), s10, false, (0 : Int), ()), (b0, b1, b2, ()))).bind fun y303 => (let z304 := y303; (match (!z304.1.2.2.2.2.2.1) with | true => some (.inr (.inl (((), (9 : Int), ()), ((⟨(0 : Int), (0 : Int), (0 : Int), (0 : Int), (0 : Int), (0 : Int), ([] : List UInt8), ([] : List UInt8), ⟨(0 : Int), (0 : Int), (0 : Int), ([] : List UInt8), false, false, false, (0 : Int), (0 : Int), ⟨(0 : Int), (0 : Int), []⟩, ⟨(0 : Int), (0 : Int), (0 : Int), (0 : Int), (0 : Int), (0 : Int)⟩, (0 : Int), ⟨(0 : Int), (0 : Int), []⟩, ⟨(0 : Int), (0 : Int), (0 : Int), (0 : Int)⟩, (0 : Int), [], (0 : Int), [], [], (0 : Int), (0 : Int), (0 : Int), (0 : Int), ([] : List UInt8), (0 : Int), (0 : Int), (0 : Int), ⟨(0 : Int), (0 : Int), (0 : Int), []⟩⟩, ⟨(0 : Int), (0 : Int), []⟩, ⟨(0 : Int), (0 : Int), []⟩, ⟨(0 : Int), (0 : Int), (0 : Int), (0 : Int), (0 : Int), (0 : Int), (0 : Int), (0 : Int), (0 : Int), ⟨(0 : Int), (0 : Int), (0 : Int), (0 : Int)⟩, (0 : Int), [], false⟩, [], ⟨(0 : Int), (0 : Int)⟩, ⟨(0 : Int), (0 : Int), (0 : Int), (0 : Int)⟩, ⟨(0 : Int), (0 : Int), (0 : Int), (0 : Int)⟩⟩ : Dedit), ())))) | false => some (.inl ((z304.1.1, (), (), (), (addI .i64 z304.1.2.2.2.2.1 (1 : Int)), ()), (z304.2.1, z304.2.2.1, z304.2.2.2.1, ()))))) | false => some (.inr (.inr (((), (), ()), (b1, b2, ())))))
theorem step8_14_eq : ∀ x, exec (E [] [(8, 18, cut8_18)]) 200 8 (loopAt Try.f8 14) (D8_14.enc x) (roundK D8_14.go other8_14) = step8_14 x := fun x => by
  obtain ⟨⟨s1, s2, s4, s9, s10, _⟩, ⟨b0, b1, b2, _⟩⟩ := x
  kernel_rfl
noncomputable def cut8_14 : Cut UU := loopCut D8_14 (loopOf step8_14) outs8_14 kont8_14
theorem cut8_14_ok : CutAt Try.prog 8 14 cut8_14 := cut (cons := []) (cuts := [(8, 18, cut8_18)]) trivial ⟨cut8_18_ok, trivial⟩ (fn := Try.f8) ⟨Try.func8, name8⟩ (by kernel_rfl) outok8_14 (fun R y k => by rcases y with _ | _ <;> rfl) 200 step8_14_eq

noncomputable def g8 (a : Daction) (b : List Darg) : Option (Dedit × Int × Unit) :=
  (g18 [a]).bind fun r275 => (match (!(eqI r275 (0 : Int))) with | true => some ((⟨(0 : Int), (0 : Int), (0 : Int), (0 : Int), (0 : Int), (0 : Int), ([] : List UInt8), ([] : List UInt8), ⟨(0 : Int), (0 : Int), (0 : Int), ([] : List UInt8), false, false, false, (0 : Int), (0 : Int), ⟨(0 : Int), (0 : Int), []⟩, ⟨(0 : Int), (0 : Int), (0 : Int), (0 : Int), (0 : Int), (0 : Int)⟩, (0 : Int), ⟨(0 : Int), (0 : Int), []⟩, ⟨(0 : Int), (0 : Int), (0 : Int), (0 : Int)⟩, (0 : Int), [], (0 : Int), [], [], (0 : Int), (0 : Int), (0 : Int), (0 : Int), ([] : List UInt8), (0 : Int), (0 : Int), (0 : Int), ⟨(0 : Int), (0 : Int), (0 : Int), []⟩⟩, ⟨(0 : Int), (0 : Int), []⟩, ⟨(0 : Int), (0 : Int), []⟩, ⟨(0 : Int), (0 : Int), (0 : Int), (0 : Int), (0 : Int), (0 : Int), (0 : Int), (0 : Int), (0 : Int), ⟨(0 : Int), (0 : Int), (0 : Int), (0 : Int)⟩, (0 : Int), [], false⟩, [], ⟨(0 : Int), (0 : Int)⟩, ⟨(0 : Int), (0 : Int), (0 : Int), (0 : Int)⟩, ⟨(0 : Int), (0 : Int), (0 : Int), (0 : Int)⟩⟩ : Dedit), r275, ()) | false => (loopOf step8_5 ((b, (), (), (0 : Int), ()), (a, (⟨(0 : Int), (0 : Int), (0 : Int), (0 : Int), (0 : Int), (0 : Int), ([] : List UInt8), ([] : List UInt8), ⟨(0 : Int), (0 : Int), (0 : Int), ([] : List UInt8), false, false, false, (0 : Int), (0 : Int), ⟨(0 : Int), (0 : Int), []⟩, ⟨(0 : Int), (0 : Int), (0 : Int), (0 : Int), (0 : Int), (0 : Int)⟩, (0 : Int), ⟨(0 : Int), (0 : Int), []⟩, ⟨(0 : Int), (0 : Int), (0 : Int), (0 : Int)⟩, (0 : Int), [], (0 : Int), [], [], (0 : Int), (0 : Int), (0 : Int), (0 : Int), ([] : List UInt8), (0 : Int), (0 : Int), (0 : Int), ⟨(0 : Int), (0 : Int), (0 : Int), []⟩⟩, ⟨(0 : Int), (0 : Int), []⟩, ⟨(0 : Int), (0 : Int), []⟩, ⟨(0 : Int), (0 : Int), (0 : Int), (0 : Int), (0 : Int), (0 : Int), (0 : Int), (0 : Int), (0 : Int), ⟨(0 : Int), (0 : Int), (0 : Int), (0 : Int)⟩, (0 : Int), [], false⟩, [], ⟨(0 : Int), (0 : Int)⟩, ⟨(0 : Int), (0 : Int), (0 : Int), (0 : Int)⟩, ⟨(0 : Int), (0 : Int), (0 : Int), (0 : Int)⟩⟩ : Dedit), ()))).bind fun y288 => (match y288 with | .inl z289 => some (z289.2.1, z289.1.2.1, ()) | .inr w309 => (let z290 := w309; (loopOf step8_14 ((z290.1.1, (), (), (), (0 : Int), ()), (z290.2.1, z290.2.2.1, z290.2.1.edit, ()))).bind fun y305 => (match y305 with | .inl z306 => some (z306.2.1, z306.1.2.1, ()) | .inr w308 => (let z307 := w308; some (z307.2.2.1, (0 : Int), ()))))))
noncomputable def con8 : Con UU := conOf [.ty Ty.action, .cell (.sl Ty.arg)] (.many [.ty Ty.edit, .cell (.int .i64)]) (fun x => g8 x.1 x.2.1)
theorem con8_ok : ConOK Try.prog 8 con8 := con (cons := [(18, con18)]) (cuts := [(8, 5, cut8_5), (8, 14, cut8_14)]) ⟨con18_ok, trivial⟩ ⟨cut8_5_ok, cut8_14_ok, trivial⟩ (fn := Try.f8) ⟨Try.func8, name8⟩ (by kernel_rfl) (by kernel_rfl) rfl rfl 200
  (fun x => by obtain ⟨a, b, _⟩ := x; kernel_rfl)
end Am
