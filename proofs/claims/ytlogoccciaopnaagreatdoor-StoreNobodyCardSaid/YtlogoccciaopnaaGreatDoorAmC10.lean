/- wire.Int of any number. -/
import Derived.Test.YtlogoccciaopnaaGreatDoorAmC2
namespace Am
open Go Go.Proofs
set_option maxRecDepth 100000

def uintF : Nat → List Int → Int → Option (List UInt8)
  | 0, _, u => match ltI 127 u with
    | true => none
    | false => none
  | m + 1, acc, u => match ltI 127 u with
    | true => uintF m (acc ++ [orI .u8 (IntKind.u8.wrap u) 128]) (shrI .u64 u 7)
    | false => match byteL ((acc ++ [IntKind.u8.wrap u]).map fun b => [AV.int (U := UU) .u8 b]) with
      | some s => some s
      | none => none

def g25 (n : Int) : Option (List UInt8) := match ltI n 0 with
  | true => uintF 11 [] (xorI .u64 IntKind.u64.max (shlI .u64 (IntKind.u64.wrap n) 1))
  | false => uintF 11 [] (shlI .u64 (IntKind.u64.wrap n) 1)

noncomputable def con25 : Con UU := conOf [.cell (.int .i64)] (.one (.cell .str)) (fun x => g25 x.1)
theorem con25_ok : ConOK Tryz.prog 25 con25 := con (cons := []) (cuts := []) trivial trivial (fn := Tryz.f25) ⟨Tryz.func25, name25⟩ (by kernel_rfl) (by kernel_rfl) rfl rfl 24
  (fun x => by kernel_rfl)
theorem u8_range (n : Int) : 0 ≤ IntKind.u8.wrap n ∧ IntKind.u8.wrap n < 256 := by
  unfold IntKind.wrap
  simp [IntKind.bits, IntKind.signed]
  omega

theorem byteL_some : ∀ (bs : List Int), (∀ b ∈ bs, 0 ≤ b ∧ b < 256) → ∃ s, byteL (U := UU) (bs.map fun b => [AV.int .u8 b]) = some s
  | [], _ => ⟨[], rfl⟩
  | b :: bs, h => by
    obtain ⟨s, hs⟩ := byteL_some bs fun x hx => h x (List.mem_cons_of_mem _ hx)
    obtain ⟨h1, h2⟩ := h b (List.mem_cons_self ..)
    refine ⟨UInt8.ofNat b.toNat :: s, ?_⟩
    show (match leI 0 b && ltI b 256 with | true => (match byteL (U := UU) (bs.map fun b => [AV.int .u8 b]) with | some r => some (UInt8.ofNat b.toNat :: r) | none => none) | false => none) = _
    have : (leI 0 b && ltI b 256) = true := by simp [leI, ltI, h1, h2]
    rw [this, hs]

theorem uintF_some : ∀ (m : Nat) (acc : List Int) (u : Int), 0 ≤ u → u < 128 ^ (m + 1) → (∀ b ∈ acc, 0 ≤ b ∧ b < 256) → ∃ s, uintF (m + 1) acc u = some s := by
  intro m
  induction m with
  | zero =>
    intro acc u h0 h1 ha
    have hlt : ltI 127 u = false := by simp [ltI]; omega
    obtain ⟨s, hs⟩ := byteL_some (acc ++ [IntKind.u8.wrap u]) (fun b hb => by
      rcases List.mem_append.1 hb with hb | hb
      · exact ha b hb
      · rw [List.mem_singleton.1 hb]; exact u8_range u)
    refine ⟨s, ?_⟩
    unfold uintF
    rw [hlt]
    dsimp only
    rw [hs]
  | succ m ih =>
    intro acc u h0 h1 ha
    unfold uintF
    by_cases h : 127 < u
    · have hlt : ltI 127 u = true := by simp [ltI]; omega
      rw [hlt]
      dsimp only
      have hs : shrI .u64 u 7 = u / 128 := by
        have h7 : (min (7 : Int).toNat IntKind.u64.bits) = 7 := by decide
        unfold shrI
        rw [h7, Int.fdiv_eq_ediv_of_nonneg _ (by decide)]; rfl
      rw [hs]
      refine ih _ _ (by omega) ?_ (fun b hb => ?_)
      · have : (128 : Int) ^ (m + 1 + 1) = 128 ^ (m + 1) * 128 := Int.pow_succ ..
        rw [this] at h1
        exact Int.ediv_lt_of_lt_mul (by decide) h1
      · rcases List.mem_append.1 hb with hb | hb
        · exact ha b hb
        · rw [List.mem_singleton.1 hb]; exact u8_range _
    · have hlt : ltI 127 u = false := by simp [ltI]; omega
      obtain ⟨s, hs⟩ := byteL_some (acc ++ [IntKind.u8.wrap u]) (fun b hb => by
        rcases List.mem_append.1 hb with hb | hb
        · exact ha b hb
        · rw [List.mem_singleton.1 hb]; exact u8_range u)
      refine ⟨s, ?_⟩
      rw [hlt]
      dsimp only
      rw [hs]

theorem u64_range (n : Int) : 0 ≤ IntKind.u64.wrap n ∧ IntKind.u64.wrap n < 18446744073709551616 := by
  unfold IntKind.wrap
  simp [IntKind.bits, IntKind.signed]
  omega

theorem g25_some (n : Int) : ∃ s, g25 n = some s := by
  unfold g25
  have hp : (18446744073709551616 : Int) < 128 ^ (10 + 1) := by decide
  split
  · have h := u64_range (BitVec.ofInt IntKind.u64.bits IntKind.u64.max ^^^ BitVec.ofInt IntKind.u64.bits (shlI .u64 (IntKind.u64.wrap n) 1)).toNat
    exact uintF_some 10 [] _ h.1 (Int.lt_trans h.2 hp) (by simp)
  · have h := u64_range (IntKind.u64.wrap n * 2 ^ (min (1 : Int).toNat IntKind.u64.bits))
    exact uintF_some 10 [] _ h.1 (Int.lt_trans h.2 hp) (by simp)

end Am
