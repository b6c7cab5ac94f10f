/- Scalars: binary and unary operations. -/
import Derived.Test.YtbeffjadfgbojaaAmEq
namespace Am
open Go
variable {U : TyU} {R : Type} {P : Program} {G : Env U}

def FlatOK (P : Program) (G : Env U) : Prop := ∀ t i, G.ti t = some i → i.flat ≠ [] → P.eqGuardType P.depth t = false ∧ i.tk.isAgg = true ∧ ∃ n k, n + k = 10000 ∧ flatKs P n t = some i.flat

/-- the guard and the operation, as 'execOp' has them -/
def binSem (op : BinOp) (t : TypeId) (ox oy : Operand) (cx cy : Value) : Sem Value := do eqGuard op t ox oy cx cy; binOp op t cx cy

theorem eqGuard_int (op : BinOp) (t : TypeId) (ox oy : Operand) (k : IntKind) (a : Int) (c : Value) (w : World) : (eqGuard op t ox oy (.int k a) c).run P w = .ok () w := by
  cases op <;> simp [eqGuard]
theorem eqGuard_str (op : BinOp) (t : TypeId) (ox oy : Operand) (s : ByteArray) (c : Value) (w : World) : (eqGuard op t ox oy (.string s) c).run P w = .ok () w := by
  cases op <;> simp [eqGuard]
theorem eqGuard_bool (op : BinOp) (t : TypeId) (ox oy : Operand) (b : Bool) (c : Value) (w : World) : (eqGuard op t ox oy (.bool b) c).run P w = .ok () w := by
  cases op <;> simp [eqGuard]
theorem eqGuard_ptr (op : BinOp) (t : TypeId) (ox oy : Operand) (a : Option Addr) (c : Value) (w : World) : (eqGuard op t ox oy (.pointer a) c).run P w = .ok () w := by
  cases op <;> simp [eqGuard]

theorem intOp_sound {op : BinOp} {k : IntKind} {a b : Int} {v : AV U} (h : intOp op k a b = some v) (hs : op ≠ .shl ∧ op ≠ .shr ∧ op ≠ .quo ∧ op ≠ .rem) (e : En) (t : TypeId) (w : World) :
    ∃ u, (binOp op t (.int k a) (.int k b)).run P w = .ok u w ∧ Rel e v u := by
  cases op <;> simp only [intOp] at h <;> (try cases h) <;> (try (exact absurd rfl hs.1)) <;> (try (exact absurd rfl hs.2.1))
  · exact ⟨_, by simp [binOp, Op.intArith]; rfl, .int⟩
  · exact ⟨_, by simp [binOp, Op.intArith]; rfl, .int⟩
  · exact ⟨_, by simp [binOp, Op.intArith]; rfl, .int⟩
  · exact ⟨_, by unfold binOp; simp only [ne_eq, not_true_eq_false, if_false]; rfl, .int⟩
  · exact ⟨_, by unfold binOp; simp only [ne_eq, not_true_eq_false, if_false]; rfl, .int⟩
  · exact ⟨_, by unfold binOp; simp only [ne_eq, not_true_eq_false, if_false]; rfl, .int⟩
  · exact ⟨_, by unfold binOp; simp only [ne_eq, not_true_eq_false, if_false]; rfl, .int⟩
  · exact ⟨_, by simp [binOp, Op.intCmp]; rfl, .bool⟩
  · exact ⟨_, by simp [binOp, Op.intCmp]; rfl, .bool⟩
  · exact ⟨_, by simp [binOp, Op.intCmp]; rfl, .bool⟩
  · exact ⟨_, by simp [binOp, Op.intCmp]; rfl, .bool⟩
  · exact ⟨_, by simp [binOp, Op.intCmp]; rfl, .bool⟩
  · exact ⟨_, by simp [binOp, Op.intCmp]; rfl, .bool⟩

theorem isNil_ptr {e : En} {v : AV U} {r : Bool} (h : isNil v = some r) {c : Value} (hr : Rel e v c) : ∃ a, c = .pointer a ∧ a.isNone = r := by
  cases hr <;> simp [isNil] at h <;> subst h <;> exact ⟨_, rfl, rfl⟩

theorem run_nil_left (d : Nat) {t el : TypeId} (p : Option Addr) (h : P.underlying t = some (.pointer el)) (w : World) : (Op.equalIn (d + 1) t (.pointer none) (.pointer p)).run P w = .ok p.isNone w := by
  cases p <;> simp [Op.equalIn, run_underlying h]
theorem run_nil_right (d : Nat) {t el : TypeId} (p : Option Addr) (h : P.underlying t = some (.pointer el)) (w : World) : (Op.equalIn (d + 1) t (.pointer p) (.pointer none)).run P w = .ok p.isNone w := by
  cases p <;> simp [Op.equalIn, run_underlying h]

theorem isNilS_sl {e : En} {v : AV U} {r : Bool} (h : isNilS v = some r) {c : Value} (hr : Rel e v c) : ∃ a n cap, c = .slice a n cap ∧ a.isNone = r := by
  cases hr <;> simp [isNilS] at h <;> subst h <;> exact ⟨_, _, _, rfl, rfl⟩

theorem run_nilS_left (d : Nat) {t el : TypeId} (a : Option Addr) (n cap : Nat) (h : P.underlying t = some (.slice el)) (w : World) : (Op.equalIn (d + 1) t (.slice none 0 0) (.slice a n cap)).run P w = .ok a.isNone w := by
  cases a <;> simp [Op.equalIn, run_underlying h]
theorem run_nilS_right (d : Nat) {t el : TypeId} (a : Option Addr) (n cap : Nat) (h : P.underlying t = some (.slice el)) (w : World) : (Op.equalIn (d + 1) t (.slice a n cap) (.slice none 0 0)).run P w = .ok a.isNone w := by
  cases a <;> simp [Op.equalIn, run_underlying h]

theorem nilS_sem {op : BinOp} {t : TypeId} {a b : Option Addr} {n1 n2 c1 c2 : Nat} {q : Bool} {w : World} (he : (Op.equalIn (9999 + 1) t (.slice a n1 c1) (.slice b n2 c2)).run P w = .ok q w) (ox oy : Operand) :
    (op = .eql → (binSem op t ox oy (.slice a n1 c1) (.slice b n2 c2)).run P w = .ok (.bool q) w) ∧ (op = .neq → (binSem op t ox oy (.slice a n1 c1) (.slice b n2 c2)).run P w = .ok (.bool (!q)) w) := by
  have hg : ∀ op, (eqGuard op t ox oy (.slice a n1 c1) (.slice b n2 c2)).run P w = .ok () w := fun op => by cases op <;> simp [eqGuard]
  constructor <;> rintro rfl <;> unfold binSem <;> rw [Sem.run_bind, hg, Result.andThen_ok] <;> simp only [binOp, Op.equal, Op.maxDepth, Sem.run_bind]
  · have he' : (Op.equalIn 10000 t (.slice a n1 c1) (.slice b n2 c2)).run P w = .ok q w := he
    rw [he']; rfl
  · have he' : (Op.equalIn 10000 t (.slice a n1 c1) (.slice b n2 c2)).run P w = .ok q w := he
    rw [he']; rfl

theorem nil_sem {op : BinOp} {t : TypeId} {a b : Option Addr} {q : Bool} {w : World} (he : (Op.equalIn (9999 + 1) t (.pointer a) (.pointer b)).run P w = .ok q w) (ox oy : Operand) :
    (op = .eql → (binSem op t ox oy (.pointer a) (.pointer b)).run P w = .ok (.bool q) w) ∧ (op = .neq → (binSem op t ox oy (.pointer a) (.pointer b)).run P w = .ok (.bool (!q)) w) := by
  constructor <;> rintro rfl <;> unfold binSem <;> rw [Sem.run_bind, eqGuard_ptr, Result.andThen_ok] <;> simp only [binOp, Op.equal, Op.maxDepth, Sem.run_bind]
  · have he' : (Op.equalIn 10000 t (.pointer a) (.pointer b)).run P w = .ok q w := he
    rw [he']; rfl
  · have he' : (Op.equalIn 10000 t (.pointer a) (.pointer b)).run P w = .ok q w := he
    rw [he']; rfl

theorem binOpK_sound (hti : TIs P G) (hfl : FlatOK P G) {op : BinOp} {t : TypeId} {x y : AV U} {k : AV U → Option R} {r : R} (h : binOpK G op t x y k = some r) :
    ∃ v, k v = some r ∧ ∀ (e : En) (ox oy : Operand) (cx cy : Value) (w : World), Rel e x cx → Rel e y cy → ∃ u, (binSem op t ox oy cx cy).run P w = .ok u w ∧ Rel e v u := by
  unfold binOpK at h
  split at h
  · rename_i ka a kb b
    have fin : ∀ (v : AV U) (e : En) (ox oy : Operand) (cx cy : Value) (w : World), Rel (U := U) e (.int ka a) cx → Rel (U := U) e (.int kb b) cy →
        (∃ u, (binOp op t (.int ka a) (.int kb b)).run P w = .ok u w ∧ Rel e v u) → ∃ u, (binSem op t ox oy cx cy).run P w = .ok u w ∧ Rel e v u := by
      intro v e ox oy cx cy w hx hy hh
      rw [hx.int_inv, hy.int_inv]
      unfold binSem
      rw [Sem.run_bind, eqGuard_int, Result.andThen_ok]
      exact hh
    split at h
    · obtain ⟨h0, h⟩ := chk_inv h
      refine ⟨_, h, fun e ox oy cx cy w hx hy => fin _ e ox oy cx cy w hx hy ⟨_, ?_, .int⟩⟩
      have : ¬ b < 0 := by simp [leI] at h0; omega
      simp [binOp, Op.shift, this]; rfl
    · obtain ⟨h0, h⟩ := chk_inv h
      refine ⟨_, h, fun e ox oy cx cy w hx hy => fin _ e ox oy cx cy w hx hy ⟨_, ?_, .int⟩⟩
      have : ¬ b < 0 := by simp [leI] at h0; omega
      simp [binOp, Op.shift, this]; rfl
    · split at h
      · rename_i hk
        have hk := IntKind.same_eq hk
        subst hk
        obtain ⟨h0, h⟩ := chk_inv h
        refine ⟨_, h, fun e ox oy cx cy w hx hy => fin _ e ox oy cx cy w hx hy ⟨_, ?_, .int⟩⟩
        have : b ≠ 0 := by simpa [eqI] using h0
        simp [binOp, Op.intDiv, this]; rfl
      · cases h
    · split at h
      · rename_i hk
        have hk := IntKind.same_eq hk
        subst hk
        obtain ⟨h0, h⟩ := chk_inv h
        refine ⟨_, h, fun e ox oy cx cy w hx hy => fin _ e ox oy cx cy w hx hy ⟨_, ?_, .int⟩⟩
        have : b ≠ 0 := by simpa [eqI] using h0
        simp [binOp, Op.intDiv, this]; rfl
      · cases h
    · rename_i h1 h2 h3 h4
      split at h
      · rename_i hk
        have hk := IntKind.same_eq hk
        subst hk
        split at h
        · rename_i v hv
          refine ⟨_, h, fun e ox oy cx cy w hx hy => fin _ e ox oy cx cy w hx hy (intOp_sound hv ⟨?_, ?_, ?_, ?_⟩ e t w)⟩
          all_goals assumption
        · cases h
      · cases h
  · rename_i a b
    have fin : ∀ (v : AV U) (e : En) (ox oy : Operand) (cx cy : Value) (w : World), Rel (U := U) e (.str a) cx → Rel (U := U) e (.str b) cy →
        (∃ u, (binOp op t (.string ⟨⟨a⟩⟩) (.string ⟨⟨b⟩⟩)).run P w = .ok u w ∧ Rel e v u) → ∃ u, (binSem op t ox oy cx cy).run P w = .ok u w ∧ Rel e v u := by
      intro v e ox oy cx cy w hx hy hh
      rw [hx.str_inv, hy.str_inv]
      unfold binSem
      rw [Sem.run_bind, eqGuard_str, Result.andThen_ok]
      exact hh
    have tl : ∀ l : List UInt8, (ByteArray.mk ⟨l⟩).toList = l := fun l => ByteArray.toList_mk l
    split at h
    · obtain ⟨h0, h⟩ := chk_inv h
      refine ⟨_, h, fun e ox oy cx cy w hx hy => fin _ e ox oy cx cy w hx hy ⟨.string ⟨⟨a ++ b⟩⟩, ?_, .str⟩⟩
      have h0 : a.length + b.length ≤ 4611686018427387904 := by simpa using h0
      have hsz : ∀ l : List UInt8, (ByteArray.mk ⟨l⟩).size = l.length := fun l => rfl
      have : ¬ ((((ByteArray.mk ⟨a⟩).size + (ByteArray.mk ⟨b⟩).size : Nat) : Int) > IntKind.i64.max) := by
        rw [hsz, hsz]
        have : IntKind.i64.max = 9223372036854775807 := by decide
        rw [this]; omega
      have happ : (ByteArray.mk ⟨a⟩ ++ ByteArray.mk ⟨b⟩) = ByteArray.mk ⟨a ++ b⟩ := by
        apply ByteArray.ext
        show (ByteArray.append _ _).data = _
        simp [ByteArray.append]
      simp only [binOp, Op.stringOp]
      rw [if_neg this, happ]
      rfl
    · exact ⟨_, h, fun e ox oy cx cy w hx hy => fin _ e ox oy cx cy w hx hy ⟨_, by simp only [binOp, Op.stringOp, tl]; rfl, .bool⟩⟩
    · exact ⟨_, h, fun e ox oy cx cy w hx hy => fin _ e ox oy cx cy w hx hy ⟨_, by simp only [binOp, Op.stringOp, tl]; rfl, .bool⟩⟩
    · exact ⟨_, h, fun e ox oy cx cy w hx hy => fin _ e ox oy cx cy w hx hy ⟨_, by simp only [binOp, Op.stringOp, tl]; rfl, .bool⟩⟩
    · exact ⟨_, h, fun e ox oy cx cy w hx hy => fin _ e ox oy cx cy w hx hy ⟨_, by simp only [binOp, Op.stringOp, tl]; rfl, .bool⟩⟩
    · exact ⟨_, h, fun e ox oy cx cy w hx hy => fin _ e ox oy cx cy w hx hy ⟨_, by simp only [binOp, Op.stringOp, tl]; rfl, .bool⟩⟩
    · exact ⟨_, h, fun e ox oy cx cy w hx hy => fin _ e ox oy cx cy w hx hy ⟨_, by simp only [binOp, Op.stringOp, tl]; rfl, .bool⟩⟩
    · cases h
  · rename_i a b
    split at h
    · rename_i hi
      have hu := (hti t _ hi).und_bool rfl
      have fin : ∀ (v : AV U) (e : En) (ox oy : Operand) (cx cy : Value) (w : World), Rel (U := U) e (.bool a) cx → Rel (U := U) e (.bool b) cy →
          (∃ u, (binOp op t (.bool a) (.bool b)).run P w = .ok u w ∧ Rel e v u) → ∃ u, (binSem op t ox oy cx cy).run P w = .ok u w ∧ Rel e v u := by
        intro v e ox oy cx cy w hx hy hh
        rw [hx.bool_inv, hy.bool_inv]
        unfold binSem
        rw [Sem.run_bind, eqGuard_bool, Result.andThen_ok]
        exact hh
      split at h
      · exact ⟨_, h, fun e ox oy cx cy w hx hy => fin _ e ox oy cx cy w hx hy ⟨_, run_eql_bool w t a b hu, .bool⟩⟩
      · exact ⟨_, h, fun e ox oy cx cy w hx hy => fin _ e ox oy cx cy w hx hy ⟨_, run_neq_bool w t a b hu, .bool⟩⟩
      · cases h
    · cases h
  · rename_i a b
    split at h
    · rename_i i hi
      split at h
      · cases h
      · rename_i hne
        obtain ⟨hg, hagg, n, kk, hnk, hks⟩ := hfl t i hi (fun hh => by rw [hh] at hne; exact hne rfl)
        split at h
        · rename_i q hq
          have fin : ∀ (e : En) (ox oy : Operand) (cx cy : Value) (w : World), Rel e (.agg a) cx → Rel e (.agg b) cy →
              ∃ va vb, cx = .agg va ∧ cy = .agg vb ∧ (eqGuard op t ox oy cx cy).run P w = .ok () w ∧ (Op.equalIn 10000 t cx cy).run P w = .ok q w := by
            intro e ox oy cx cy w hx hy
            obtain ⟨va, rfl, hra⟩ := hx.agg_inv
            obtain ⟨vb, rfl, hrb⟩ := hy.agg_inv
            refine ⟨va, vb, rfl, rfl, run_eqGuard_agg w op t ox oy va vb hg, ?_⟩
            rw [← hnk]
            obtain ⟨d, hd, _⟩ := flatKs_desc hks
            have hda : isAggD d = true := by
              obtain ⟨d', h1, h2⟩ := (hti t i hi).und
              rw [hd] at h1; cases h1
              generalize i.tk = tk at h2 hagg
              cases d <;> cases tk <;> simp [TKok, TK.isAgg] at h2 hagg <;> rfl
            exact eq_flat e n kk t i.flat hks a b _ _ q _ _ w hra hrb hq ⟨d, hd, .inl ⟨hda, by simp⟩⟩ ⟨d, hd, .inl ⟨hda, by simp⟩⟩
          split at h
          · refine ⟨_, h, fun e ox oy cx cy w hx hy => ?_⟩
            obtain ⟨va, vb, rfl, rfl, h1, h2⟩ := fin e ox oy cx cy w hx hy
            refine ⟨_, ?_, .bool⟩
            unfold binSem
            rw [Sem.run_bind, h1, Result.andThen_ok, run_eql_struct, h2]; rfl
          · refine ⟨_, h, fun e ox oy cx cy w hx hy => ?_⟩
            obtain ⟨va, vb, rfl, rfl, h1, h2⟩ := fin e ox oy cx cy w hx hy
            refine ⟨_, ?_, .bool⟩
            unfold binSem
            rw [Sem.run_bind, h1, Result.andThen_ok, run_neq_struct, h2]; rfl
          · cases h
        · cases h
    · cases h
  · rename_i v
    split at h
    · rename_i q hq hi
      have hu := (hti t _ hi).und_slice rfl
      split at h
      · refine ⟨_, h, fun e ox oy cx cy w hx hy => ?_⟩
        cases hx
        obtain ⟨a, n, cap, rfl, hqa⟩ := isNilS_sl hq hy
        exact ⟨_, (nilS_sem (run_nilS_left 9999 a n cap hu w) ox oy).1 rfl, by subst hqa; exact .bool⟩
      · refine ⟨_, h, fun e ox oy cx cy w hx hy => ?_⟩
        cases hx
        obtain ⟨a, n, cap, rfl, hqa⟩ := isNilS_sl hq hy
        exact ⟨_, (nilS_sem (run_nilS_left 9999 a n cap hu w) ox oy).2 rfl, by subst hqa; exact .bool⟩
      · cases h
    · cases h
  · rename_i v
    split at h
    · rename_i q hq hi
      have hu := (hti t _ hi).und_slice rfl
      split at h
      · refine ⟨_, h, fun e ox oy cx cy w hx hy => ?_⟩
        cases hy
        obtain ⟨a, n, cap, rfl, hqa⟩ := isNilS_sl hq hx
        exact ⟨_, (nilS_sem (run_nilS_right 9999 a n cap hu w) ox oy).1 rfl, by subst hqa; exact .bool⟩
      · refine ⟨_, h, fun e ox oy cx cy w hx hy => ?_⟩
        cases hy
        obtain ⟨a, n, cap, rfl, hqa⟩ := isNilS_sl hq hx
        exact ⟨_, (nilS_sem (run_nilS_right 9999 a n cap hu w) ox oy).2 rfl, by subst hqa; exact .bool⟩
      · cases h
    · cases h
  · rename_i v
    split at h
    · rename_i q hq hi
      have hu := (hti t _ hi).und_ptr rfl
      split at h
      · refine ⟨_, h, fun e ox oy cx cy w hx hy => ?_⟩
        cases hx
        obtain ⟨a, rfl, hqa⟩ := isNil_ptr hq hy
        exact ⟨_, (nil_sem (run_nil_left 9999 a hu w) ox oy).1 rfl, by subst hqa; exact .bool⟩
      · refine ⟨_, h, fun e ox oy cx cy w hx hy => ?_⟩
        cases hx
        obtain ⟨a, rfl, hqa⟩ := isNil_ptr hq hy
        exact ⟨_, (nil_sem (run_nil_left 9999 a hu w) ox oy).2 rfl, by subst hqa; exact .bool⟩
      · cases h
    · cases h
  · rename_i v
    split at h
    · rename_i q hq hi
      have hu := (hti t _ hi).und_ptr rfl
      split at h
      · refine ⟨_, h, fun e ox oy cx cy w hx hy => ?_⟩
        cases hy
        obtain ⟨a, rfl, hqa⟩ := isNil_ptr hq hx
        exact ⟨_, (nil_sem (run_nil_right 9999 a hu w) ox oy).1 rfl, by subst hqa; exact .bool⟩
      · refine ⟨_, h, fun e ox oy cx cy w hx hy => ?_⟩
        cases hy
        obtain ⟨a, rfl, hqa⟩ := isNil_ptr hq hx
        exact ⟨_, (nil_sem (run_nil_right 9999 a hu w) ox oy).2 rfl, by subst hqa; exact .bool⟩
      · cases h
    · cases h
  · cases h

end Am
