/- Scalars: binary and unary operations. Literals, slices, conversions. Slice literals, slicing, conversions, make. -/
import Derived.Test.YtlogoccciaopnaaGreatDoorAmEq
namespace Am
open Go
variable {U : TyU} {R : Type} {P : Program} {G : Env U}

def FlatOK (P : Program) (G : Env U) : Prop := ∀ t i, G.ti t = some i → i.flat ≠ [] → P.eqGuardType P.depth t = false ∧ i.tk.isAgg = true ∧ ∃ n k, n + k = 10000 ∧ flatKs P n t = some i.flat

/-- the guard and the operation, as 'execOp' has them -/
def binSem (op : BinOp) (t : TypeId) (ox oy : Operand) (cx cy : Value) : Sem Value := do eqGuard op t ox oy cx cy; binOp op t cx cy

theorem eqGuard_int (op : BinOp) (t : TypeId) (ox oy : Operand) (k : IntKind) (a : Int) (c : Value) (w : World) : (eqGuard op t ox oy (.int k a) c).run P w = .ok () w := by
  cases op <;> simp [eqGuard]
theorem eqGuard_str (op : BinOp) (t : TypeId) (ox oy : Operand) (s : ByteArray) (c : Value) (w : World) : (eqGuard op t ox oy (.string s) c).run P w = .ok () w := by
  cases op <;> simp [eqGuard]
theorem eqGuard_bool (op : BinOp) (t : TypeId) (ox oy : Operand) (b : Bool) (c : Value) (w : World) : (eqGuard op t ox oy (.bool b) c).run P w = .ok () w := by
  cases op <;> simp [eqGuard]
theorem eqGuard_ptr (op : BinOp) (t : TypeId) (ox oy : Operand) (a : Option Addr) (c : Value) (w : World) : (eqGuard op t ox oy (.pointer a) c).run P w = .ok () w := by
  cases op <;> simp [eqGuard]

theorem intOp_sound {op : BinOp} {k : IntKind} {a b : Int} {v : AV U} (h : intOp op k a b = some v) (hs : op ≠ .shl ∧ op ≠ .shr ∧ op ≠ .quo ∧ op ≠ .rem) (e : En) (t : TypeId) (w : World) :
    ∃ u, (binOp op t (.int k a) (.int k b)).run P w = .ok u w ∧ Rel e v u := by
  cases op <;> simp only [intOp] at h <;> (try cases h) <;> (try (exact absurd rfl hs.1)) <;> (try (exact absurd rfl hs.2.1))
  · exact ⟨_, by simp [binOp, Op.intArith]; rfl, .int⟩
  · exact ⟨_, by simp [binOp, Op.intArith]; rfl, .int⟩
  · exact ⟨_, by simp [binOp, Op.intArith]; rfl, .int⟩
  · exact ⟨_, by unfold binOp; simp only [ne_eq, not_true_eq_false, if_false]; rfl, .int⟩
  · exact ⟨_, by unfold binOp; simp only [ne_eq, not_true_eq_false, if_false]; rfl, .int⟩
  · exact ⟨_, by unfold binOp; simp only [ne_eq, not_true_eq_false, if_false]; rfl, .int⟩
  · exact ⟨_, by unfold binOp; simp only [ne_eq, not_true_eq_false, if_false]; rfl, .int⟩
  · exact ⟨_, by simp [binOp, Op.intCmp]; rfl, .bool⟩
  · exact ⟨_, by simp [binOp, Op.intCmp]; rfl, .bool⟩
  · exact ⟨_, by simp [binOp, Op.intCmp]; rfl, .bool⟩
  · exact ⟨_, by simp [binOp, Op.intCmp]; rfl, .bool⟩
  · exact ⟨_, by simp [binOp, Op.intCmp]; rfl, .bool⟩
  · exact ⟨_, by simp [binOp, Op.intCmp]; rfl, .bool⟩

theorem isNil_ptr {e : En} {v : AV U} {r : Bool} (h : isNil v = some r) {c : Value} (hr : Rel e v c) : ∃ a, c = .pointer a ∧ a.isNone = r := by
  cases hr <;> simp [isNil] at h <;> subst h <;> exact ⟨_, rfl, rfl⟩

theorem run_nil_left (d : Nat) {t el : TypeId} (p : Option Addr) (h : P.underlying t = some (.pointer el)) (w : World) : (Op.equalIn (d + 1) t (.pointer none) (.pointer p)).run P w = .ok p.isNone w := by
  cases p <;> simp [Op.equalIn, run_underlying h]
theorem run_nil_right (d : Nat) {t el : TypeId} (p : Option Addr) (h : P.underlying t = some (.pointer el)) (w : World) : (Op.equalIn (d + 1) t (.pointer p) (.pointer none)).run P w = .ok p.isNone w := by
  cases p <;> simp [Op.equalIn, run_underlying h]

theorem isNilS_sl {e : En} {v : AV U} {r : Bool} (h : isNilS v = some r) {c : Value} (hr : Rel e v c) : ∃ a n cap, c = .slice a n cap ∧ a.isNone = r := by
  cases hr <;> simp [isNilS] at h <;> subst h <;> exact ⟨_, _, _, rfl, rfl⟩

theorem run_nilS_left (d : Nat) {t el : TypeId} (a : Option Addr) (n cap : Nat) (h : P.underlying t = some (.slice el)) (w : World) : (Op.equalIn (d + 1) t (.slice none 0 0) (.slice a n cap)).run P w = .ok a.isNone w := by
  cases a <;> simp [Op.equalIn, run_underlying h]
theorem run_nilS_right (d : Nat) {t el : TypeId} (a : Option Addr) (n cap : Nat) (h : P.underlying t = some (.slice el)) (w : World) : (Op.equalIn (d + 1) t (.slice a n cap) (.slice none 0 0)).run P w = .ok a.isNone w := by
  cases a <;> simp [Op.equalIn, run_underlying h]

theorem nilS_sem {op : BinOp} {t : TypeId} {a b : Option Addr} {n1 n2 c1 c2 : Nat} {q : Bool} {w : World} (he : (Op.equalIn (9999 + 1) t (.slice a n1 c1) (.slice b n2 c2)).run P w = .ok q w) (ox oy : Operand) :
    (op = .eql → (binSem op t ox oy (.slice a n1 c1) (.slice b n2 c2)).run P w = .ok (.bool q) w) ∧ (op = .neq → (binSem op t ox oy (.slice a n1 c1) (.slice b n2 c2)).run P w = .ok (.bool (!q)) w) := by
  have hg : ∀ op, (eqGuard op t ox oy (.slice a n1 c1) (.slice b n2 c2)).run P w = .ok () w := fun op => by cases op <;> simp [eqGuard]
  constructor <;> rintro rfl <;> unfold binSem <;> rw [Sem.run_bind, hg, Result.andThen_ok] <;> simp only [binOp, Op.equal, Op.maxDepth, Sem.run_bind]
  · have he' : (Op.equalIn 10000 t (.slice a n1 c1) (.slice b n2 c2)).run P w = .ok q w := he
    rw [he']; rfl
  · have he' : (Op.equalIn 10000 t (.slice a n1 c1) (.slice b n2 c2)).run P w = .ok q w := he
    rw [he']; rfl

theorem nil_sem {op : BinOp} {t : TypeId} {a b : Option Addr} {q : Bool} {w : World} (he : (Op.equalIn (9999 + 1) t (.pointer a) (.pointer b)).run P w = .ok q w) (ox oy : Operand) :
    (op = .eql → (binSem op t ox oy (.pointer a) (.pointer b)).run P w = .ok (.bool q) w) ∧ (op = .neq → (binSem op t ox oy (.pointer a) (.pointer b)).run P w = .ok (.bool (!q)) w) := by
  constructor <;> rintro rfl <;> unfold binSem <;> rw [Sem.run_bind, eqGuard_ptr, Result.andThen_ok] <;> simp only [binOp, Op.equal, Op.maxDepth, Sem.run_bind]
  · have he' : (Op.equalIn 10000 t (.pointer a) (.pointer b)).run P w = .ok q w := he
    rw [he']; rfl
  · have he' : (Op.equalIn 10000 t (.pointer a) (.pointer b)).run P w = .ok q w := he
    rw [he']; rfl

theorem binOpK_sound (hti : TIs P G) (hfl : FlatOK P G) {op : BinOp} {t : TypeId} {x y : AV U} {k : AV U → Option R} {r : R} (h : binOpK G op t x y k = some r) :
    ∃ v, k v = some r ∧ ∀ (e : En) (ox oy : Operand) (cx cy : Value) (w : World), Rel e x cx → Rel e y cy → ∃ u, (binSem op t ox oy cx cy).run P w = .ok u w ∧ Rel e v u := by
  unfold binOpK at h
  split at h
  · rename_i ka a kb b
    have fin : ∀ (v : AV U) (e : En) (ox oy : Operand) (cx cy : Value) (w : World), Rel (U := U) e (.int ka a) cx → Rel (U := U) e (.int kb b) cy →
        (∃ u, (binOp op t (.int ka a) (.int kb b)).run P w = .ok u w ∧ Rel e v u) → ∃ u, (binSem op t ox oy cx cy).run P w = .ok u w ∧ Rel e v u := by
      intro v e ox oy cx cy w hx hy hh
      rw [hx.int_inv, hy.int_inv]
      unfold binSem
      rw [Sem.run_bind, eqGuard_int, Result.andThen_ok]
      exact hh
    split at h
    · obtain ⟨h0, h⟩ := chk_inv h
      refine ⟨_, h, fun e ox oy cx cy w hx hy => fin _ e ox oy cx cy w hx hy ⟨_, ?_, .int⟩⟩
      have : ¬ b < 0 := by simp [leI] at h0; omega
      simp [binOp, Op.shift, this]; rfl
    · obtain ⟨h0, h⟩ := chk_inv h
      refine ⟨_, h, fun e ox oy cx cy w hx hy => fin _ e ox oy cx cy w hx hy ⟨_, ?_, .int⟩⟩
      have : ¬ b < 0 := by simp [leI] at h0; omega
      simp [binOp, Op.shift, this]; rfl
    · split at h
      · rename_i hk
        have hk := IntKind.same_eq hk
        subst hk
        obtain ⟨h0, h⟩ := chk_inv h
        refine ⟨_, h, fun e ox oy cx cy w hx hy => fin _ e ox oy cx cy w hx hy ⟨_, ?_, .int⟩⟩
        have : b ≠ 0 := by simpa [eqI] using h0
        simp [binOp, Op.intDiv, this]; rfl
      · cases h
    · split at h
      · rename_i hk
        have hk := IntKind.same_eq hk
        subst hk
        obtain ⟨h0, h⟩ := chk_inv h
        refine ⟨_, h, fun e ox oy cx cy w hx hy => fin _ e ox oy cx cy w hx hy ⟨_, ?_, .int⟩⟩
        have : b ≠ 0 := by simpa [eqI] using h0
        simp [binOp, Op.intDiv, this]; rfl
      · cases h
    · rename_i h1 h2 h3 h4
      split at h
      · rename_i hk
        have hk := IntKind.same_eq hk
        subst hk
        split at h
        · rename_i v hv
          refine ⟨_, h, fun e ox oy cx cy w hx hy => fin _ e ox oy cx cy w hx hy (intOp_sound hv ⟨?_, ?_, ?_, ?_⟩ e t w)⟩
          all_goals assumption
        · cases h
      · cases h
  · rename_i a b
    have fin : ∀ (v : AV U) (e : En) (ox oy : Operand) (cx cy : Value) (w : World), Rel (U := U) e (.str a) cx → Rel (U := U) e (.str b) cy →
        (∃ u, (binOp op t (.string ⟨⟨a⟩⟩) (.string ⟨⟨b⟩⟩)).run P w = .ok u w ∧ Rel e v u) → ∃ u, (binSem op t ox oy cx cy).run P w = .ok u w ∧ Rel e v u := by
      intro v e ox oy cx cy w hx hy hh
      rw [hx.str_inv, hy.str_inv]
      unfold binSem
      rw [Sem.run_bind, eqGuard_str, Result.andThen_ok]
      exact hh
    have tl : ∀ l : List UInt8, (ByteArray.mk ⟨l⟩).toList = l := fun l => ByteArray.toList_mk l
    split at h
    · obtain ⟨h0, h⟩ := chk_inv h
      refine ⟨_, h, fun e ox oy cx cy w hx hy => fin _ e ox oy cx cy w hx hy ⟨.string ⟨⟨a ++ b⟩⟩, ?_, .str⟩⟩
      have h0 : a.length + b.length ≤ 4611686018427387904 := by simpa using h0
      have hsz : ∀ l : List UInt8, (ByteArray.mk ⟨l⟩).size = l.length := fun l => rfl
      have : ¬ ((((ByteArray.mk ⟨a⟩).size + (ByteArray.mk ⟨b⟩).size : Nat) : Int) > IntKind.i64.max) := by
        rw [hsz, hsz]
        have : IntKind.i64.max = 9223372036854775807 := by decide
        rw [this]; omega
      have happ : (ByteArray.mk ⟨a⟩ ++ ByteArray.mk ⟨b⟩) = ByteArray.mk ⟨a ++ b⟩ := by
        apply ByteArray.ext
        show (ByteArray.append _ _).data = _
        simp [ByteArray.append]
      simp only [binOp, Op.stringOp]
      rw [if_neg this, happ]
      rfl
    · exact ⟨_, h, fun e ox oy cx cy w hx hy => fin _ e ox oy cx cy w hx hy ⟨_, by simp only [binOp, Op.stringOp, tl]; rfl, .bool⟩⟩
    · exact ⟨_, h, fun e ox oy cx cy w hx hy => fin _ e ox oy cx cy w hx hy ⟨_, by simp only [binOp, Op.stringOp, tl]; rfl, .bool⟩⟩
    · exact ⟨_, h, fun e ox oy cx cy w hx hy => fin _ e ox oy cx cy w hx hy ⟨_, by simp only [binOp, Op.stringOp, tl]; rfl, .bool⟩⟩
    · exact ⟨_, h, fun e ox oy cx cy w hx hy => fin _ e ox oy cx cy w hx hy ⟨_, by simp only [binOp, Op.stringOp, tl]; rfl, .bool⟩⟩
    · exact ⟨_, h, fun e ox oy cx cy w hx hy => fin _ e ox oy cx cy w hx hy ⟨_, by simp only [binOp, Op.stringOp, tl]; rfl, .bool⟩⟩
    · exact ⟨_, h, fun e ox oy cx cy w hx hy => fin _ e ox oy cx cy w hx hy ⟨_, by simp only [binOp, Op.stringOp, tl]; rfl, .bool⟩⟩
    · cases h
  · rename_i a b
    split at h
    · rename_i hi
      have hu := (hti t _ hi).und_bool rfl
      have fin : ∀ (v : AV U) (e : En) (ox oy : Operand) (cx cy : Value) (w : World), Rel (U := U) e (.bool a) cx → Rel (U := U) e (.bool b) cy →
          (∃ u, (binOp op t (.bool a) (.bool b)).run P w = .ok u w ∧ Rel e v u) → ∃ u, (binSem op t ox oy cx cy).run P w = .ok u w ∧ Rel e v u := by
        intro v e ox oy cx cy w hx hy hh
        rw [hx.bool_inv, hy.bool_inv]
        unfold binSem
        rw [Sem.run_bind, eqGuard_bool, Result.andThen_ok]
        exact hh
      split at h
      · exact ⟨_, h, fun e ox oy cx cy w hx hy => fin _ e ox oy cx cy w hx hy ⟨_, run_eql_bool w t a b hu, .bool⟩⟩
      · exact ⟨_, h, fun e ox oy cx cy w hx hy => fin _ e ox oy cx cy w hx hy ⟨_, run_neq_bool w t a b hu, .bool⟩⟩
      · cases h
    · cases h
  · rename_i a b
    split at h
    · rename_i i hi
      split at h
      · cases h
      · rename_i hne
        obtain ⟨hg, hagg, n, kk, hnk, hks⟩ := hfl t i hi (fun hh => by rw [hh] at hne; exact hne rfl)
        split at h
        · rename_i q hq
          have fin : ∀ (e : En) (ox oy : Operand) (cx cy : Value) (w : World), Rel e (.agg a) cx → Rel e (.agg b) cy →
              ∃ va vb, cx = .agg va ∧ cy = .agg vb ∧ (eqGuard op t ox oy cx cy).run P w = .ok () w ∧ (Op.equalIn 10000 t cx cy).run P w = .ok q w := by
            intro e ox oy cx cy w hx hy
            obtain ⟨va, rfl, hra⟩ := hx.agg_inv
            obtain ⟨vb, rfl, hrb⟩ := hy.agg_inv
            refine ⟨va, vb, rfl, rfl, run_eqGuard_agg w op t ox oy va vb hg, ?_⟩
            rw [← hnk]
            obtain ⟨d, hd, _⟩ := flatKs_desc hks
            have hda : isAggD d = true := by
              obtain ⟨d', h1, h2⟩ := (hti t i hi).und
              rw [hd] at h1; cases h1
              generalize i.tk = tk at h2 hagg
              cases d <;> cases tk <;> simp [TKok, TK.isAgg] at h2 hagg <;> rfl
            exact eq_flat e n kk t i.flat hks a b _ _ q _ _ w hra hrb hq ⟨d, hd, .inl ⟨hda, by simp⟩⟩ ⟨d, hd, .inl ⟨hda, by simp⟩⟩
          split at h
          · refine ⟨_, h, fun e ox oy cx cy w hx hy => ?_⟩
            obtain ⟨va, vb, rfl, rfl, h1, h2⟩ := fin e ox oy cx cy w hx hy
            refine ⟨_, ?_, .bool⟩
            unfold binSem
            rw [Sem.run_bind, h1, Result.andThen_ok, run_eql_struct, h2]; rfl
          · refine ⟨_, h, fun e ox oy cx cy w hx hy => ?_⟩
            obtain ⟨va, vb, rfl, rfl, h1, h2⟩ := fin e ox oy cx cy w hx hy
            refine ⟨_, ?_, .bool⟩
            unfold binSem
            rw [Sem.run_bind, h1, Result.andThen_ok, run_neq_struct, h2]; rfl
          · cases h
        · cases h
    · cases h
  · rename_i v
    split at h
    · rename_i q hq hi
      have hu := (hti t _ hi).und_slice rfl
      split at h
      · refine ⟨_, h, fun e ox oy cx cy w hx hy => ?_⟩
        cases hx
        obtain ⟨a, n, cap, rfl, hqa⟩ := isNilS_sl hq hy
        exact ⟨_, (nilS_sem (run_nilS_left 9999 a n cap hu w) ox oy).1 rfl, by subst hqa; exact .bool⟩
      · refine ⟨_, h, fun e ox oy cx cy w hx hy => ?_⟩
        cases hx
        obtain ⟨a, n, cap, rfl, hqa⟩ := isNilS_sl hq hy
        exact ⟨_, (nilS_sem (run_nilS_left 9999 a n cap hu w) ox oy).2 rfl, by subst hqa; exact .bool⟩
      · cases h
    · cases h
  · rename_i v
    split at h
    · rename_i q hq hi
      have hu := (hti t _ hi).und_slice rfl
      split at h
      · refine ⟨_, h, fun e ox oy cx cy w hx hy => ?_⟩
        cases hy
        obtain ⟨a, n, cap, rfl, hqa⟩ := isNilS_sl hq hx
        exact ⟨_, (nilS_sem (run_nilS_right 9999 a n cap hu w) ox oy).1 rfl, by subst hqa; exact .bool⟩
      · refine ⟨_, h, fun e ox oy cx cy w hx hy => ?_⟩
        cases hy
        obtain ⟨a, n, cap, rfl, hqa⟩ := isNilS_sl hq hx
        exact ⟨_, (nilS_sem (run_nilS_right 9999 a n cap hu w) ox oy).2 rfl, by subst hqa; exact .bool⟩
      · cases h
    · cases h
  · rename_i v
    split at h
    · rename_i q hq hi
      have hu := (hti t _ hi).und_ptr rfl
      split at h
      · refine ⟨_, h, fun e ox oy cx cy w hx hy => ?_⟩
        cases hx
        obtain ⟨a, rfl, hqa⟩ := isNil_ptr hq hy
        exact ⟨_, (nil_sem (run_nil_left 9999 a hu w) ox oy).1 rfl, by subst hqa; exact .bool⟩
      · refine ⟨_, h, fun e ox oy cx cy w hx hy => ?_⟩
        cases hx
        obtain ⟨a, rfl, hqa⟩ := isNil_ptr hq hy
        exact ⟨_, (nil_sem (run_nil_left 9999 a hu w) ox oy).2 rfl, by subst hqa; exact .bool⟩
      · cases h
    · cases h
  · rename_i v
    split at h
    · rename_i q hq hi
      have hu := (hti t _ hi).und_ptr rfl
      split at h
      · refine ⟨_, h, fun e ox oy cx cy w hx hy => ?_⟩
        cases hy
        obtain ⟨a, rfl, hqa⟩ := isNil_ptr hq hx
        exact ⟨_, (nil_sem (run_nil_right 9999 a hu w) ox oy).1 rfl, by subst hqa; exact .bool⟩
      · refine ⟨_, h, fun e ox oy cx cy w hx hy => ?_⟩
        cases hy
        obtain ⟨a, rfl, hqa⟩ := isNil_ptr hq hx
        exact ⟨_, (nil_sem (run_nil_right 9999 a hu w) ox oy).2 rfl, by subst hqa; exact .bool⟩
      · cases h
    · cases h
  · cases h

end Am

namespace Am
open Go
variable {U : TyU} {R : Type} {P : Program} {G : Env U}

theorem unOpK_sound {op : UnOp} {x : AV U} {k : AV U → Option R} {r : R} (h : unOpK op x k = some r) :
    ∃ v, k v = some r ∧ ∀ (e : En) (cx : Value) (w : World), Rel e x cx → ∃ u, (Op.unary op cx).run P w = .ok u w ∧ Rel e v u := by
  unfold unOpK at h
  split at h
  · exact ⟨_, h, fun e cx w hx => by rw [hx.bool_inv]; exact ⟨_, rfl, .bool⟩⟩
  · exact ⟨_, h, fun e cx w hx => by rw [hx.int_inv]; exact ⟨_, rfl, .int⟩⟩
  · refine ⟨_, h, fun e cx w hx => ?_⟩
    rw [hx.int_inv]
    rename_i kk n
    refine ⟨.int kk (xorI kk (match kk.signed with | true => -1 | false => kk.max) n), ?_, .int⟩
    cases kk <;> rfl
  · cases h

/-! ## Literals -/
theorem set_row (vs : List Value) (off : Nat) : ∀ (s : Nat) (cells : Array Value), off + s + vs.length ≤ cells.size →
    ((vs.zipIdx s).foldl (fun cs (p : Value × Nat) => cs.setIfInBounds (off + p.2) p.1) cells).size = cells.size ∧
    ∀ j, ((vs.zipIdx s).foldl (fun cs (p : Value × Nat) => cs.setIfInBounds (off + p.2) p.1) cells)[j]? = if off + s ≤ j ∧ j < off + s + vs.length then vs[j - (off + s)]? else cells[j]? := by
  induction vs with
  | nil => intro s cells _; exact ⟨rfl, fun j => by simp only [List.zipIdx_nil, List.foldl_nil, List.length_nil]; rw [if_neg (by omega)]⟩
  | cons v vs ih =>
    intro s cells h
    simp only [List.length_cons] at h
    obtain ⟨h1, h2⟩ := ih (s + 1) (cells.setIfInBounds (off + s) v) (by simp; omega)
    simp only [List.zipIdx_cons, List.foldl_cons]
    refine ⟨by rw [h1]; simp, fun j => ?_⟩
    rw [h2 j]
    simp only [List.length_cons]
    by_cases hj : j = off + s
    · subst hj
      rw [if_neg (by omega), if_pos (by omega), Nat.sub_self, List.getElem?_cons_zero, Array.getElem?_setIfInBounds, if_pos rfl, if_pos (by omega)]
    · by_cases hj2 : off + s ≤ j ∧ j < off + s + (vs.length + 1)
      · rw [if_pos (by omega), if_pos hj2, show j - (off + s) = (j - (off + (s + 1))) + 1 by omega]
        simp
      · rw [if_neg (by omega), if_neg hj2, Array.getElem?_setIfInBounds_ne (fun h => hj h.symm)]

theorem set_row_arr (v : Value) (off : Nat) (cells : Array Value) (h : off + v.cells.size ≤ cells.size) :
    ∃ arr, v.cells.zipIdx.foldl (fun cs (p : Value × Nat) => cs.setIfInBounds (off + p.2) p.1) cells = arr ∧ arr.size = cells.size ∧
      ∀ j, arr[j]? = if off ≤ j ∧ j < off + v.cells.size then v.cells[j - off]? else cells[j]? := by
  obtain ⟨h1, h2⟩ := set_row v.cells.toList off 0 cells (by simpa using h)
  refine ⟨_, rfl, ?_, fun j => ?_⟩
  · rw [← Array.foldl_toList, Array.toList_zipIdx]; exact h1
  · rw [← Array.foldl_toList, Array.toList_zipIdx]
    have := h2 j
    simpa using this

/-- parts, place by place -/
def PartsRel (e : En) (ps : List (Nat × AV U)) (qs : List (Nat × Value)) : Prop := ps.length = qs.length ∧ ∀ (j : Nat) (p : Nat × AV U) (q : Nat × Value), ps[j]? = some p → qs[j]? = some q → p.1 = q.1 ∧ Rel e p.2 q.2

theorem PartsRel.cons_inv {e : En} {p : Nat × AV U} {ps : List (Nat × AV U)} {qs : List (Nat × Value)} (h : PartsRel e (p :: ps) qs) : ∃ c qs', qs = (p.1, c) :: qs' ∧ Rel e p.2 c ∧ PartsRel e ps qs' := by
  cases qs with
  | nil => have := h.1; simp at this
  | cons q qs' =>
    obtain ⟨h1, h2⟩ := h.2 0 p q rfl rfl
    obtain ⟨q1, q2⟩ := q
    simp at h1 h2
    subst h1
    exact ⟨q2, qs', rfl, h2, by have := h.1; simpa using this, fun j p' q' hp hq => h.2 (j + 1) p' q' (by simpa using hp) (by simpa using hq)⟩

theorem fill_rel {e : En} {place : Nat → Option (Nat × Nat)} : ∀ (ps : List (Nat × AV U)) (qs : List (Nat × Value)) (cells out : List (AV U)) (arr : Array Value), fillL place cells ps = some out → PartsRel e ps qs → RelL e cells arr.toList →
    ∃ arr', Instr.fill place arr qs = some arr' ∧ RelL e out arr'.toList := by
  intro ps
  induction ps with
  | nil =>
    intro qs cells out arr h hq hr
    cases qs with
    | nil => cases h; exact ⟨arr, rfl, hr⟩
    | cons q qs => have := hq.1; simp at this
  | cons p ps ih =>
    intro qs cells out arr h hq hr
    obtain ⟨c, qs', rfl, hc, hq'⟩ := hq.cons_inv
    obtain ⟨i, v⟩ := p
    simp only [fillL] at h
    split at h
    · cases h
    · rename_i off size hp
      split at h
      · cases h
      · rename_i hsz
        have hsz := Nat.eq_of_beq_eq_true hsz
        split at h
        · rename_i hle
          have hle := Nat.le_of_ble_eq_true hle
          split at h
          · rename_i hok
            obtain ⟨hc1, hc2⟩ := Rel.cells hc hok
            have hcs : c.cells.size = size := by have := hc1.1; simp at this; omega
            have hal : cells.length = arr.size := by have := hr.1; simpa using this
            obtain ⟨arr', h1, h2, h3⟩ := set_row_arr c off arr (by omega)
            have hrel : RelL e (setCells cells off (cellsOf v)) arr'.toList := by
              refine ⟨by rw [setCells_length _ _ _ (by omega)]; simp [h2, hal], fun j x u hx hu => ?_⟩
              rw [setCells_get _ _ _ _ (by omega)] at hx
              have hu' : arr'[j]? = some u := by simpa using hu
              rw [h3 j] at hu'
              split at hx
              · rename_i hin
                rw [if_pos (by omega)] at hu'
                exact hc1.2 _ x u hx (by simpa using hu')
              · rename_i hin
                rw [if_neg (by omega)] at hu'
                exact hr.2 j x u hx (by simpa using hu')
            obtain ⟨arr'', h4, h5⟩ := ih qs' _ out arr' h hq' hrel
            refine ⟨arr'', ?_, h5⟩
            simp only [Instr.fill, hp]
            rw [if_neg (by simp; omega)]
            have : c.cells.zipIdx.foldl (fun cs x => match x with | (c, j) => cs.setIfInBounds (off + j) c) arr = arr' := h1
            rw [this]
            exact h4
          · cases h
        · cases h

theorem run_mapM_places (fs : List (Nat × TypeId)) : ∀ (l : List Field) (pl : List (Nat × Nat)) (w : World), TIs P G → l.map (fun f => (f.offset, f.type)) = fs → fieldPlaces G fs = some pl →
    (l.mapM (fun f => do pure (f.offset, ← Go.sizeOf f.type) : Field → Sem (Nat × Nat))).run P w = .ok pl w := by
  induction fs with
  | nil =>
    intro l pl w _ hl hp
    cases l with
    | nil => cases hp; simp
    | cons f l => simp at hl
  | cons x fs ih =>
    intro l pl w hti hl hp
    cases l with
    | nil => simp at hl
    | cons f l =>
      simp only [List.map_cons, List.cons.injEq] at hl
      obtain ⟨rfl, hl⟩ := hl
      simp only [fieldPlaces] at hp
      split at hp
      · cases hp
      · rename_i j hj
        split at hp
        · rename_i r hr
          cases hp
          rw [List.mapM_cons]
          simp only [Sem.run_bind, (hti _ _ hj).run_sizeOf, Result.andThen_ok, Sem.run_pure, ih l r w hti hl hr]
        · cases hp

theorem buildK_sound (hti : TIs P G) {t : TypeId} {ps : List (Nat × AV U)} {k : AV U → Option R} {r : R} (h : buildK G t ps k = some r) :
    ∃ v, k v = some r ∧ ∀ (e : En) (qs : Array (Nat × Value)) (w : World), PartsRel e ps qs.toList → ∃ u, (Instr.build t qs).run P w = .ok u w ∧ Rel e v u := by
  unfold buildK at h
  split at h
  · cases h
  rename_i i hi
  have hI := hti t i hi
  split at h
  · rename_i fs hk
    obtain ⟨fa, hu, hfa⟩ := hI.und_struct hk
    split at h
    · cases h
    rename_i pl hpl
    split at h
    · rename_i cs hcs
      refine ⟨_, h, fun e qs w hq => ?_⟩
      obtain ⟨z, hz1, hz2⟩ := hI.run_zero w
      have hz3 : RelL e i.zero z.cells.toList := by
        rw [hz2]
        refine ⟨by simp, fun j x v hx hv => ?_⟩
        rw [List.getElem?_map, hv] at hx
        simp at hx; subst hx; exact rel_ofVal e v
      obtain ⟨arr', h1, h2⟩ := fill_rel ps qs.toList _ cs z.cells hcs hq hz3
      refine ⟨.agg arr', ?_, Rel.of_agg h2⟩
      have hm : (fa.mapM (fun f => do pure (f.offset, ← Go.sizeOf f.type) : Field → Sem (Nat × Nat))).run P w = .ok pl.toArray w := by
        rw [Array.mapM_eq_mapM_toList]
        simp only [Sem.run_map, run_mapM_places fs fa.toList pl w hti hfa hpl, Result.andThen_ok]
      have hp : (fun n : Nat => (pl.toArray[n]? : Option (Nat × Nat))) = fun n => pl[n]? := by funext n; simp
      simp only [Instr.build, Sem.run_bind, hz1, Result.andThen_ok, run_underlying hu, hm]
      rw [hp, h1]
      rfl
    · cases h
  · rename_i m el hk
    have hu := hI.und_array hk
    split at h
    · cases h
    rename_i j hj
    split at h
    · rename_i cs hcs
      refine ⟨_, h, fun e qs w hq => ?_⟩
      obtain ⟨z, hz1, hz2⟩ := hI.run_zero w
      have hz3 : RelL e i.zero z.cells.toList := by
        rw [hz2]
        refine ⟨by simp, fun j x v hx hv => ?_⟩
        rw [List.getElem?_map, hv] at hx
        simp at hx; subst hx; exact rel_ofVal e v
      obtain ⟨arr', h1, h2⟩ := fill_rel ps qs.toList _ cs z.cells hcs hq hz3
      refine ⟨.agg arr', ?_, Rel.of_agg h2⟩
      simp only [Instr.build, Sem.run_bind, hz1, Result.andThen_ok, run_underlying hu, (hti _ _ hj).run_sizeOf]
      rw [h1]
      rfl
    · cases h
  · cases h

end Am

namespace Am
open Go
variable {U : TyU} {R : Type} {P : Program} {G : Env U}

theorem TIok.zero_rel {t : TypeId} {i : TI U} (hI : TIok P t i) (e : En) (w : World) : ∃ z, (zeroValue t).run P w = .ok z w ∧ RelL e i.zero z.cells.toList := by
  obtain ⟨z, hz1, hz2⟩ := hI.run_zero w
  refine ⟨z, hz1, ?_⟩
  rw [hz2]
  refine ⟨by simp, fun j x v hx hv => ?_⟩
  rw [List.getElem?_map, hv] at hx
  simp at hx; subst hx; exact rel_ofVal e v

/-! ## Rows -/
theorem decAll_get : ∀ {t : U.T} {es : List (List (AV U))} {xs : List (U.den t)}, decAll t es = some xs → xs.length = es.length ∧ ∀ (m : Nat) (y : U.den t), xs[m]? = some y → ∃ x, es[m]? = some x ∧ dec t x = some y := by
  intro t es
  induction es with
  | nil => intro xs h; cases h; exact ⟨rfl, by simp⟩
  | cons c es ih =>
    intro xs h
    simp only [decAll] at h
    split at h
    · rename_i x hx
      split at h
      · rename_i r hr
        cases h
        obtain ⟨h1, h2⟩ := ih hr
        refine ⟨by simp [h1], fun m y hy => ?_⟩
        cases m with
        | zero => simp at hy; subst hy; exact ⟨c, rfl, hx⟩
        | succ m => simp at hy; obtain ⟨x', h3, h4⟩ := h2 m y hy; exact ⟨x', by simpa using h3, h4⟩
      · cases h
    · cases h

theorem row_ok {e : En} {k b ob : Nat} {arr : Array Value} {el : TypeId} {fz : Nat × Nat} {j : TI U} {es : List (List (AV U))} {blk : Blk U} (hb : rowOf j es = some blk)
    (hm : e.m k = some (.at b ob)) (hh : e.w.heap[b]? = some (.cells arr el fz)) (hl : ob + es.length * j.size ≤ arr.size) (hu : unfrozen fz ob arr.size)
    (hn : e.n k = es.length)
    (hc : ∀ (m : Nat) (x : List (AV U)), es[m]? = some x → x.length = j.size ∧ okCells x = true ∧ CellsAt e arr (ob + m * j.size) x) : BlkOK e k blk := by
  unfold rowOf at hb
  split at hb
  · rename_i t ht
    split at hb
    · rename_i hsz
      have hsz := Nat.eq_of_beq_eq_true hsz
      split at hb
      · rename_i xs hxs
        cases hb
        obtain ⟨h1, h2⟩ := decAll_get hxs
        refine ⟨by rw [hn, h1], .inr ⟨b, ob, arr, el, fz, hm, hh, by rw [h1, ← hsz]; exact hl, hu, fun m y hy => ?_⟩⟩
        obtain ⟨x, h3, h4⟩ := h2 m y hy
        rw [← hsz]
        exact dec_cells h4 (hc m x h3).2.2
      · cases hb
    · cases hb
  · cases hb
    exact ⟨hn, .inr ⟨b, ob, arr, el, fz, hm, hh, hl, hu, hc⟩⟩

/-! ## Slice literals -/
theorem ascending_ge : ∀ {len : Nat} {ps : List (Nat × AV U)} {n : Nat}, ascending len ps n = true → ∀ p ∈ ps, n ≤ p.1 ∧ p.1 < len := by
  intro len ps
  induction ps with
  | nil => intro n _ p hp; cases hp
  | cons q ps ih =>
    intro n h p hp
    simp only [ascending] at h
    split at h
    · rename_i h1
      have h1 := Nat.le_of_ble_eq_true h1
      split at h
      · rename_i h2
        have h2 := Nat.le_of_ble_eq_true h2
        rcases List.mem_cons.1 hp with rfl | hp
        · exact ⟨h1, h2⟩
        · obtain ⟨h3, h4⟩ := ih h p hp
          exact ⟨by omega, h4⟩
      · cases h
    · cases h

theorem find_none {ps : List (Nat × AV U)} {i : Nat} (h : ∀ p ∈ ps, p.1 ≠ i) : ps.find? (fun p => Nat.beq p.1 i) = none := by
  rw [List.find?_eq_none]
  intro p hp hh
  exact h p hp (Nat.eq_of_beq_eq_true hh)

theorem fill_elems {e : En} {size len : Nat} : ∀ (ps : List (Nat × AV U)) (qs : List (Nat × Value)) (n : Nat) (arr : Array Value), ascending len ps n = true → PartsRel e ps qs → arr.size = len * size →
    (∀ p ∈ ps, (cellsOf p.2).length = size ∧ okCells (cellsOf p.2) = true) →
    ∃ arr', Instr.fill (fun i => some (i * size, size)) arr qs = some arr' ∧ arr'.size = arr.size ∧
      ∀ i j, i < len → j < size → match ps.find? (fun p => Nat.beq p.1 i) with
        | some p => ∃ (c : AV U) (v : Value), (cellsOf p.2)[j]? = some c ∧ arr'[i * size + j]? = some v ∧ Rel e c v
        | none => arr'[i * size + j]? = arr[i * size + j]? := by
  intro ps
  induction ps with
  | nil =>
    intro qs n arr _ hq _ _
    cases qs with
    | nil => exact ⟨arr, rfl, rfl, fun i j _ _ => rfl⟩
    | cons q qs => have := hq.1; simp at this
  | cons p ps ih =>
    intro qs n arr ha hq hs hp
    obtain ⟨c, qs', rfl, hc, hq'⟩ := hq.cons_inv
    obtain ⟨hn, hlen⟩ := ascending_ge ha p (List.mem_cons_self ..)
    obtain ⟨hpl, hpo⟩ := hp p (List.mem_cons_self ..)
    have ha' : ascending len ps (p.1 + 1) = true := by
      simp only [ascending] at ha
      split at ha
      · split at ha
        · exact ha
        · cases ha
      · cases ha
    obtain ⟨hc1, hc2⟩ := Rel.cells hc hpo
    have hcs : c.cells.size = size := by have := hc1.1; simp at this; omega
    have hidx := idx_le (sz := size) hlen
    obtain ⟨arr1, g1, g2, g3⟩ := set_row_arr c (p.1 * size) arr (by omega)
    obtain ⟨arr', h1, h2, h3⟩ := ih qs' (p.1 + 1) arr1 ha' hq' (by rw [g2, hs]) (fun q hq => hp q (List.mem_cons_of_mem _ hq))
    refine ⟨arr', ?_, by rw [h2, g2], fun i j hi hj => ?_⟩
    · simp only [Instr.fill]
      rw [if_neg (by simp; omega)]
      have : c.cells.zipIdx.foldl (fun cs x => match x with | (c, j) => cs.setIfInBounds (p.1 * size + j) c) arr = arr1 := g1
      rw [this]; exact h1
    · have h3 := h3 i j hi hj
      rw [List.find?_cons]
      by_cases hpi : p.1 = i
      · subst hpi
        have hnone : ps.find? (fun q => Nat.beq q.1 p.1) = none := find_none fun q hq => by have := (ascending_ge ha' q hq).1; omega
        rw [hnone] at h3
        have hbeq : Nat.beq p.1 p.1 = true := Nat.beq_refl _
        simp only [hbeq]
        have hjc : j < (cellsOf p.2).length := by omega
        obtain ⟨v, hv1, hv2⟩ := hc1.get (List.getElem?_eq_getElem hjc)
        refine ⟨_, v, List.getElem?_eq_getElem hjc, ?_, hv2⟩
        rw [h3, g3, if_pos (by omega), show p.1 * size + j - p.1 * size = j by omega]
        simpa using hv1
      · have hbeq : Nat.beq p.1 i = false := by
          cases hb : Nat.beq p.1 i with
          | false => rfl
          | true => exact absurd (Nat.eq_of_beq_eq_true hb) hpi
        simp only [hbeq]
        cases hf : ps.find? (fun q => Nat.beq q.1 i) with
        | some q => rw [hf] at h3; exact h3
        | none =>
          rw [hf] at h3
          simp only at h3 ⊢
          rw [h3, g3, if_neg]
          rcases Nat.lt_or_gt_of_ne hpi with hlt | hlt
          · have := idx_le (sz := size) hlt; omega
          · have := idx_le (sz := size) hlt; omega

theorem litElems_get {j : TI U} {ps : List (Nat × AV U)} : ∀ (n i : Nat) (es : List (List (AV U))), litElems j ps n i = some es → es.length = n ∧
    ∀ m, m < n → (es[m]? = some (match ps.find? (fun p => Nat.beq p.1 (i + m)) with | none => j.zero | some p => cellsOf p.2)) ∧
      ∀ p, ps.find? (fun p => Nat.beq p.1 (i + m)) = some p → (cellsOf p.2).length = j.size ∧ okCells (cellsOf p.2) = true := by
  intro n
  induction n with
  | zero => intro i es h; cases h; exact ⟨rfl, by omega⟩
  | succ n ih =>
    intro i es h
    simp only [litElems] at h
    split at h
    · cases h
    rename_i r hr
    obtain ⟨h1, h2⟩ := ih (i + 1) r hr
    have rest : ∀ (x : List (AV U)), ∀ m, m < n → ((x :: r)[m + 1]? = some (match ps.find? (fun p => Nat.beq p.1 (i + (m + 1))) with | none => j.zero | some p => cellsOf p.2)) ∧
        ∀ p, ps.find? (fun p => Nat.beq p.1 (i + (m + 1))) = some p → (cellsOf p.2).length = j.size ∧ okCells (cellsOf p.2) = true := by
      intro x m hm
      have := h2 m hm
      rw [show i + 1 + m = i + (m + 1) by omega] at this
      simpa using this
    split at h
    · rename_i hf
      cases h
      refine ⟨by simp [h1], fun m hm => ?_⟩
      cases m with
      | zero => exact ⟨by simp [hf], fun p hp => by rw [Nat.add_zero, hf] at hp; cases hp⟩
      | succ m => exact rest _ m (by omega)
    · rename_i p hf
      split at h
      · cases h
      rename_i hsz
      split at h
      · rename_i hok
        cases h
        refine ⟨by simp [h1], fun m hm => ?_⟩
        cases m with
        | zero => exact ⟨by simp [hf], fun q hq => by rw [Nat.add_zero, hf] at hq; cases hq; exact ⟨Nat.eq_of_beq_eq_true hsz, hok⟩⟩
        | succ m => exact rest _ m (by omega)
      · cases h

theorem ascending_find : ∀ {len : Nat} {ps : List (Nat × AV U)} {n : Nat}, ascending len ps n = true → ∀ p ∈ ps, ps.find? (fun q => Nat.beq q.1 p.1) = some p := by
  intro len ps
  induction ps with
  | nil => intro n _ p hp; cases hp
  | cons q ps ih =>
    intro n h p hp
    have h' : ascending len ps (q.1 + 1) = true := by
      simp only [ascending] at h
      split at h
      · split at h
        · exact h
        · cases h
      · cases h
    rw [List.find?_cons]
    rcases List.mem_cons.1 hp with rfl | hp
    · rw [Nat.beq_refl]
    · have := (ascending_ge h' p hp).1
      have hb : Nat.beq q.1 p.1 = false := by
        cases hb : Nat.beq q.1 p.1 with
        | false => rfl
        | true => have := Nat.eq_of_beq_eq_true hb; omega
      rw [hb]
      exact ih h' p hp

theorem buildSliceK_sound (hti : TIs P G) {t : TypeId} {len : Nat} {ps : List (Nat × AV U)} {H : Heap U} {k : AV U → Heap U → Option R} {r : R} (h : buildSliceK G t len ps H k = some r) :
    ∃ v b, k v (H ++ [some b]) = some r ∧ ∀ (e : En) (qs : Array (Nat × Value)), WF e → PartsRel e ps qs.toList → ∃ (c : Value) (w' : World) (ob : Obj),
      (Instr.buildSlice t len qs).run P e.w = .ok c w' ∧ PushW e.w w' ob ∧ (e.m H.length = none → Rel (e.push w' H.length len) v c ∧ BlkOK (e.push w' H.length len) H.length b) := by
  unfold buildSliceK at h
  split at h
  case h_2 => cases h
  rename_i el _ _ _ hi
  have hu := (hti t _ hi).und_slice rfl
  split at h
  · cases h
  rename_i j hj
  have hJ := hti el j hj
  split at h
  · cases h
  rename_i h0
  have h0 : j.size ≠ 0 := fun hh => by rw [hh] at h0; cases h0
  split at h
  · cases h
  rename_i hasc
  split at h
  · cases h
  rename_i h24
  have h24 := Nat.le_of_ble_eq_true h24
  split at h
  · cases h
  rename_i es hes
  split at h
  · cases h
  rename_i blk hblk
  refine ⟨_, blk, h, fun e qs hw hq => ?_⟩
  obtain ⟨hel, hget⟩ := litElems_get len 0 es hes
  obtain ⟨z, hz1, hz2⟩ := hJ.zero_rel e e.w
  have hzs : z.cells.size = j.size := by have := hz2.1; rw [hJ.zero_len] at this; simpa using this.symm
  have hparts : ∀ p ∈ ps, (cellsOf p.2).length = j.size ∧ okCells (cellsOf p.2) = true := by
    intro p hp
    have hlt := (ascending_ge hasc p hp).2
    exact (hget p.1 hlt).2 p (by rw [Nat.zero_add]; exact ascending_find hasc p hp)
  obtain ⟨zarr, hz5⟩ : ∃ zarr : Array Value, zarr = if len * j.size = 0 then #[] else z.cells := ⟨_, rfl⟩
  obtain ⟨arr', h1, h2, h3⟩ := fill_elems (e := e) (size := j.size) (len := len) ps qs.toList 0 ((Array.range (len * j.size)).map (zarr[· % zarr.size]!)) hasc hq (by simp) hparts
  have hrun : (Instr.buildSlice t len qs).run P e.w = .ok (.slice (some ⟨e.w.heap.size, 0, none⟩) len len) { e.w with heap := e.w.heap.push (.cells arr' el) } := by
    have hn24 : ¬ (len * j.size > 2 ^ 24) := by
      have : (2 : Nat) ^ 24 = 16777216 := by decide
      omega
    by_cases hz : len * j.size = 0
    · rw [if_pos hz] at hz5
      subst hz5
      simp only [Instr.buildSlice, Sem.run_bind, run_underlying hu, Result.andThen_ok, hJ.run_sizeOf, if_neg hn24, if_pos hz, Sem.run_pure, h1, newRow, run_newObj]
    · rw [if_neg hz] at hz5
      subst hz5
      simp only [Instr.buildSlice, Sem.run_bind, run_underlying hu, Result.andThen_ok, hJ.run_sizeOf, if_neg hn24, if_neg hz, Sem.run_pure, hz1, h1, newRow, run_newObj]
  refine ⟨_, _, _, hrun, ⟨rfl, rfl, rfl⟩, fun hm => ?_⟩
  have hE := En.push_evo (k := H.length) (len := len) (w' := { e.w with heap := e.w.heap.push (.cells arr' el) }) (fun _ => True) ⟨rfl, rfl, rfl⟩ hm
  have hmm : (e.push { e.w with heap := e.w.heap.push (.cells arr' el) } H.length len).m H.length = some (.at e.w.heap.size 0) := by simp [En.push]
  have hheap : (e.push { e.w with heap := e.w.heap.push (.cells arr' el) } H.length len).w.heap[e.w.heap.size]? = some (.cells arr' el) := by show (e.w.heap.push (.cells arr' el))[e.w.heap.size]? = _; simp
  have hsize : arr'.size = len * j.size := by rw [h2]; simp
  have hnn : (e.push { e.w with heap := e.w.heap.push (.cells arr' el) } H.length len).n H.length = len := by simp [En.push]
  refine ⟨?_, row_ok (ob := 0) hblk hmm hheap (by rw [hel, hsize]; omega) (unfrozen_zero _ _) (by rw [hnn, hel]) (fun m x hx => ?_)⟩
  · have := Rel.mrow (U := U) (e := e.push { e.w with heap := e.w.heap.push (.cells arr' el) } H.length len) (k := H.length) (sz := j.size) (cap := len) hmm (by rw [hnn]; exact Nat.le_refl _) ⟨arr', el, (0, 0), hheap, by rw [hsize]; simp⟩
    rw [hnn] at this
    exact this
  · have hmlt : m < len := by rw [← hel]; exact (List.getElem?_eq_some_iff.1 hx).1
    obtain ⟨g1, g2⟩ := hget m hmlt
    rw [hx] at g1
    simp only [Option.some.injEq, Nat.zero_add] at g1 g2
    rw [Nat.zero_add]
    cases hf : ps.find? (fun p => Nat.beq p.1 m) with
    | some p =>
      rw [hf] at g1
      simp only at g1
      subst g1
      refine ⟨(g2 p hf).1, (g2 p hf).2, fun i c hc => ?_⟩
      have hilt : i < j.size := by rw [← (g2 p hf).1]; exact (List.getElem?_eq_some_iff.1 hc).1
      have := h3 m i hmlt hilt
      rw [hf] at this
      obtain ⟨c', v, hc', hv, hr⟩ := this
      rw [hc] at hc'; cases hc'
      exact ⟨v, hv, hr.mono hE hw⟩
    | none =>
      rw [hf] at g1
      simp only at g1
      subst g1
      refine ⟨hJ.zero_len, hJ.zero_ok, fun i c hc => ?_⟩
      have hilt : i < j.size := by rw [← hJ.zero_len]; exact (List.getElem?_eq_some_iff.1 hc).1
      have := h3 m i hmlt hilt
      rw [hf] at this
      simp only at this
      have hidx := idx_le (sz := j.size) hmlt
      have hne : len * j.size ≠ 0 := by omega
      obtain ⟨v, hv1, hv2⟩ := hz2.get hc
      refine ⟨v, ?_, hv2.mono hE hw⟩
      rw [if_neg hne] at hz5
      rw [this, hz5]
      have hlt' : m * j.size + i < len * j.size := by omega
      have hmod : (m * j.size + i) % z.cells.size = i := by rw [hzs, Nat.mul_comm, Nat.mul_add_mod]; exact Nat.mod_eq_of_lt hilt
      have hiz : i < z.cells.size := by omega
      simp [hlt', hmod]
      have : z.cells[i]? = some v := by simpa using hv1
      rw [Array.getElem?_eq_getElem hiz] at this
      cases this
      simp [hiz]

end Am
