/- Slicing, conversions, make, len. Conversions, make, append. -/
import Derived.Test.YtlogoccciaopnaaGreatDoorAmO6
import Derived.Laws.IdiomStrings
namespace Am
open Go
variable {U : TyU} {R : Type} {P : Program} {G : Env U}

theorem bytes_extract (s : List UInt8) (a b : Nat) : (ByteArray.mk ⟨s⟩).extract a b = ByteArray.mk ⟨(s.take b).drop a⟩ := by
  apply ByteArray.ext
  simp only [ByteArray.data_extract]
  apply Array.ext'
  simp [List.extract_eq_take_drop, List.drop_take]

/-- the bounds of a slice expression without a third index -/
theorem run_bounds (isS : Bool) (len cap : Nat) (w : World) :
    (Instr.sliceBounds isS len cap none none none).run P w = .ok (0, len, cap) w ∧
    (∀ k a, 0 ≤ a → a ≤ (len : Int) → (Instr.sliceBounds isS len cap (some (.int k a)) none none).run P w = .ok (a.toNat, len, cap) w) ∧
    (∀ k b, 0 ≤ b → b ≤ (cap : Int) → (Instr.sliceBounds isS len cap none (some (.int k b)) none).run P w = .ok (0, b.toNat, cap) w) ∧
    (∀ k a k' b, 0 ≤ b → b ≤ (cap : Int) → 0 ≤ a → a ≤ (b.toNat : Int) → (Instr.sliceBounds isS len cap (some (.int k a)) (some (.int k' b)) none).run P w = .ok (a.toNat, b.toNat, cap) w) := by
  refine ⟨?_, ?_, ?_, ?_⟩
  · simp [Instr.sliceBounds]
  · intro k a h0 h1
    simp [Instr.sliceBounds, Instr.sliceBound, asIntOf, h0, h1]
  · intro k b h0 h1
    simp [Instr.sliceBounds, Instr.sliceBound, asIntOf, h0, h1]
  · intro k a k' b h0 h1 h2 h3
    have h3' : a ≤ max b 0 := by omega
    simp [Instr.sliceBounds, Instr.sliceBound, asIntOf, h0, h1, h2, h3']

theorem run_sliceAt_str {t : TypeId} (hu : P.underlying t = some .string) (s : ByteArray) (lo hi : Option Value) {l h m : Nat} {w : World} (hb : (Instr.sliceBounds false s.size s.size lo hi none).run P w = .ok (l, h, m) w) :
    (Instr.sliceAt t (.string s) lo hi none).run P w = .ok (.string (s.extract l h)) w := by
  simp [Instr.sliceAt, Instr.slice, run_underlying hu, hb]

theorem run_sliceAt_sl {t el : TypeId} (hu : P.underlying t = some (.slice el)) {j : TI U} (hJ : TIok P el j) (a : Option Addr) (len cap : Nat) (lo hi : Option Value) {l h m : Nat} {w : World} (hb : (Instr.sliceBounds true len cap lo hi none).run P w = .ok (l, h, m) w) :
    (Instr.sliceAt t (.slice a len cap) lo hi none).run P w = .ok (.slice (if m = l then a else a.map (·.add (l * j.size))) (h - l) (m - l)) w := by
  simp [Instr.sliceAt, Instr.slice, run_underlying hu, hb, hJ.run_sizeOf]

/-- a part of frozen data -/
theorem fsl_part {e : En} {t : U.T} {xs : List (U.den t)} {a : Option Addr} {len cap : Nat} (h : Rel e (.fsl t xs) (.slice a len cap)) (l hh : Nat) (h1 : l ≤ hh) (h2 : hh ≤ xs.length) :
    Rel e (.fsl t ((xs.take hh).drop l)) (.slice (if cap = l then a else a.map (·.add (l * (U.shape t).length))) (hh - l) (cap - l)) := by
  have hlen : ((xs.take hh).drop l).length = hh - l := by simp; omega
  by_cases h0 : hh - l = 0
  · have : (xs.take hh).drop l = [] := List.length_eq_zero_iff.1 (by rw [hlen, h0])
    rw [this, h0]
    refine .fslE (fun hn => ?_)
    have hc : a = none → cap = 0 := by
      intro ha
      subst ha
      cases h with
      | fslE hh => exact hh rfl
    split at hn
    · rw [hc hn]; omega
    · rw [hc (by simpa using hn)]; omega
  · rcases h.fsl_inv with ⟨_, _, _, hnil⟩ | ⟨b, ob, cap', heq, hI, hc, hr⟩
    · rw [hnil] at h2; simp at h2; omega
    cases heq
    rw [if_neg (by omega)]
    simp only [Option.map_some, add_none]
    rw [← hlen]
    refine Rel.mk_fsl hI (by rw [hlen]; omega) (fun i x hx j y hy => ?_)
    have hx' : xs[l + i]? = some x := by
      rw [List.getElem?_drop, List.getElem?_take] at hx
      split at hx
      · exact hx
      · cases hx
    obtain ⟨v, hv1, hv2⟩ := hr (l + i) x hx' j y hy
    refine ⟨v, ?_, hv2⟩
    rw [show ob + l * (U.shape t).length + i * (U.shape t).length + j = ob + (l + i) * (U.shape t).length + j by rw [Nat.add_mul]; omega]
    exact hv1

theorem msl_part {e : En} {k sz lo n : Nat} {a : Option Addr} {len cap : Nat} (h : Rel (U := U) e (.msl k sz lo n) (.slice a len cap)) (l hh : Nat) (h1 : l ≤ hh) (h2 : hh ≤ n) :
    Rel (U := U) e (.msl k sz (lo + l) (hh - l)) (.slice (if cap = l then a else a.map (·.add (l * sz))) (hh - l) (cap - l)) := by
  rcases h.msl_inv with ⟨a', cap', hd, heq, hc⟩ | ⟨a', l', hn, heq, hm⟩ | ⟨b, ob, cap', hm, heq, hc, arr, el, fz, ha, hs⟩
  · cases heq
    have : ∃ a'', (if cap = l then some a' else (some a').map (·.add (l * sz))) = some a'' := by split <;> exact ⟨_, rfl⟩
    obtain ⟨a'', ha''⟩ := this
    rw [ha'']
    exact .mslDead hd (by omega)
  · cases heq
    have h3 : l = 0 := by omega
    have h4 : hh = 0 := by omega
    subst h3; subst h4
    simp only [Nat.sub_self]
    exact .mslE hm
  · cases heq
    by_cases hcl : cap = l
    · rw [if_pos hcl]
      have h3 : hh - l = 0 := by omega
      have h4 : cap - l = 0 := by omega
      rw [h3, h4]
      exact .mslE hm
    · rw [if_neg hcl]
      simp only [Option.map_some, add_none]
      rw [show ob + lo * sz + l * sz = ob + (lo + l) * sz by rw [Nat.add_mul]; omega]
      exact .msl hm (by omega) ⟨arr, el, fz, ha, by rw [show lo + l + (cap - l) = lo + cap by omega]; exact hs⟩

/-- operands that may be left out -/
def OptRel (e : En) : Option (AV U) → Option Value → Prop
  | none, none => True
  | some x, some v => Rel e x v
  | _, _ => False

theorem OptRel.none_inv {e : En} {c : Option Value} (h : OptRel (U := U) e none c) : c = none := by cases c <;> simp [OptRel] at h <;> rfl
theorem OptRel.int_inv {e : En} {k : IntKind} {n : Int} {c : Option Value} (h : OptRel (U := U) e (some (.int k n)) c) : c = some (.int k n) := by
  cases c with
  | none => simp [OptRel] at h
  | some v => have : Rel (U := U) e (.int k n) v := h; rw [this.int_inv]

theorem sliceK_sound (hti : TIs P G) {t : TypeId} {x : AV U} {lo hi : Option (AV U)} {H : Heap U} {k : AV U → Option R} {r : R} (h : sliceK G t x lo hi H k = some r) :
    ∃ v, k v = some r ∧ ∀ (e : En) (c : Value) (cl ch : Option Value) (w : World), Rel e x c → OptRel e lo cl → OptRel e hi ch → HeapRel e H.get → ∃ u, (Instr.sliceAt t c cl ch none).run P w = .ok u w ∧ Rel e v u := by
  unfold sliceK at h
  split at h
  · cases h
  rename_i i hi'
  have hI := hti t i hi'
  split at h
  · rename_i s hk
    have hu := hI.und_str hk
    have hsz : (ByteArray.mk ⟨s⟩).size = s.length := rfl
    split at h
    · refine ⟨_, h, fun e c cl ch w hx hl hh hH => ?_⟩
      rw [hx.str_inv, hl.none_inv, hh.none_inv]
      refine ⟨_, run_sliceAt_str hu _ none none (run_bounds false _ _ w).1, ?_⟩
      rw [bytes_extract, hsz]
      simp
      exact .str
    · rename_i ka a
      obtain ⟨hb, h⟩ := chk_inv h
      obtain ⟨h0, h1⟩ := upTo_spec hb
      refine ⟨_, h, fun e c cl ch w hx hl hh hH => ?_⟩
      rw [hx.str_inv, hl.int_inv, hh.none_inv]
      refine ⟨_, run_sliceAt_str hu _ _ none ((run_bounds false _ _ w).2.1 ka a h0 (by rw [hsz]; exact h1)), ?_⟩
      rw [bytes_extract, hsz]
      simp
      exact .str
    · rename_i kb b
      obtain ⟨hb, h⟩ := chk_inv h
      obtain ⟨h0, h1⟩ := upTo_spec hb
      refine ⟨_, h, fun e c cl ch w hx hl hh hH => ?_⟩
      rw [hx.str_inv, hl.none_inv, hh.int_inv]
      refine ⟨_, run_sliceAt_str hu _ none _ ((run_bounds false _ _ w).2.2.1 kb b h0 (by rw [hsz]; exact h1)), ?_⟩
      rw [bytes_extract]
      simp
      exact .str
    · rename_i ka a kb b
      obtain ⟨hb, h⟩ := chk_inv h
      obtain ⟨ha, h⟩ := chk_inv h
      obtain ⟨h0, h1⟩ := upTo_spec hb
      obtain ⟨h2, h3⟩ := upTo_spec ha
      refine ⟨_, h, fun e c cl ch w hx hl hh hH => ?_⟩
      rw [hx.str_inv, hl.int_inv, hh.int_inv]
      refine ⟨_, run_sliceAt_str hu _ _ _ ((run_bounds false _ _ w).2.2.2 ka a kb b h0 (by rw [hsz]; exact h1) h2 h3), ?_⟩
      rw [bytes_extract]
      exact .str
    · cases h
  · rename_i el t' s hk
    have hu := hI.und_slice hk
    split at h
    · cases h
    rename_i j hj
    have hJ := hti el j hj
    split at h
    · cases h
    rename_i hsz
    have hsz := Nat.eq_of_beq_eq_true hsz
    have key : ∀ (e : En) (c : Value) (cl ch : Option Value) (w : World), Rel e (.fsl t' s) c → ∀ l hh, l ≤ hh → hh ≤ s.length →
        (∀ cap, s.length ≤ cap ∨ s = [] → (Instr.sliceBounds true s.length cap cl ch none).run P w = .ok (l, hh, cap) w) →
        ∃ u, (Instr.sliceAt t c cl ch none).run P w = .ok u w ∧ Rel e (.fsl t' ((s.take hh).drop l)) u := by
      intro e c cl ch w hx l hh h1 h2 hb
      have : ∃ a cap, c = .slice a s.length cap ∧ (s.length ≤ cap ∨ s = []) := by
        rcases hx.fsl_inv with ⟨a, cap, rfl, hn⟩ | ⟨b, ob, cap, rfl, _, hc, _⟩
        · exact ⟨_, _, rfl, .inr hn⟩
        · exact ⟨_, _, rfl, .inl hc⟩
      obtain ⟨a, cap, rfl, hc⟩ := this
      refine ⟨_, run_sliceAt_sl hu hJ a s.length cap cl ch (hb cap hc), ?_⟩
      rw [hsz]
      exact fsl_part hx l hh h1 h2
    split at h
    · refine ⟨_, h, fun e c cl ch w hx hl hh hH => ?_⟩
      rw [hl.none_inv, hh.none_inv]
      have := key e c none none w hx 0 s.length (Nat.zero_le _) (Nat.le_refl _) (fun cap _ => (run_bounds true _ _ w).1)
      simpa using this
    · rename_i ka a
      obtain ⟨hb, h⟩ := chk_inv h
      obtain ⟨h0, h1⟩ := upTo_spec hb
      refine ⟨_, h, fun e c cl ch w hx hl hh hH => ?_⟩
      rw [hl.int_inv, hh.none_inv]
      have := key e c _ none w hx a.toNat s.length (by omega) (Nat.le_refl _) (fun cap _ => (run_bounds true _ _ w).2.1 ka a h0 h1)
      simpa using this
    · rename_i kb b
      obtain ⟨hb, h⟩ := chk_inv h
      obtain ⟨h0, h1⟩ := upTo_spec hb
      refine ⟨_, h, fun e c cl ch w hx hl hh hH => ?_⟩
      rw [hl.none_inv, hh.int_inv]
      have := key e c none _ w hx 0 b.toNat (Nat.zero_le _) (by omega) (fun cap hc => (run_bounds true _ _ w).2.2.1 kb b h0 (by
        rcases hc with hc | hc
        · omega
        · subst hc; simp at h1; omega))
      simpa using this
    · rename_i ka a kb b
      obtain ⟨hb, h⟩ := chk_inv h
      obtain ⟨ha, h⟩ := chk_inv h
      obtain ⟨h0, h1⟩ := upTo_spec hb
      obtain ⟨h2, h3⟩ := upTo_spec ha
      refine ⟨_, h, fun e c cl ch w hx hl hh hH => ?_⟩
      rw [hl.int_inv, hh.int_inv]
      exact key e c _ _ w hx a.toNat b.toNat (by omega) (by omega) (fun cap hc => (run_bounds true _ _ w).2.2.2 ka a kb b h0 (by
        rcases hc with hc | hc
        · omega
        · subst hc; simp at h1; omega) h2 h3)
    · cases h
  · rename_i el kk sz hk
    have hu := hI.und_slice hk
    split at h
    case h_2 => cases h
    rename_i j len hj hlen
    have hJ := hti el j hj
    split at h
    · cases h
    rename_i hsz
    have hsz := Nat.eq_of_beq_eq_true hsz
    have key : ∀ (e : En) (c : Value) (cl ch : Option Value) (w : World), HeapRel e H.get → Rel (U := U) e (.mrow kk sz) c → ∀ l hh, l ≤ hh → hh ≤ len →
        (∀ cap, len ≤ cap → (Instr.sliceBounds true len cap cl ch none).run P w = .ok (l, hh, cap) w) →
        ∃ u, (Instr.sliceAt t c cl ch none).run P w = .ok u w ∧ Rel (U := U) e (.msl kk sz l (hh - l)) u ∧ (l = 0 → hh = len → Rel (U := U) e (.mrow kk sz) u) := by
      intro e c cl ch w hH hx l hh h1 h2 hb
      have hmsl : ∃ a cap, c = .slice a len cap ∧ len ≤ cap ∧ Rel (U := U) e (.msl kk sz 0 len) c := by
        rcases mrow_live hlen hH hx with ⟨a, l', hn, rfl, hm⟩ | ⟨b, ob, cap, hm, rfl, hc, hs⟩
        · exact ⟨_, _, by rw [hn], by omega, by rw [hn]; exact .mslE hm⟩
        · refine ⟨_, _, rfl, hc, ?_⟩
          have := Rel.msl (U := U) (lo := 0) hm hc (by rw [Nat.zero_add]; exact hs)
          simpa using this
      obtain ⟨a, cap, rfl, hc, hm⟩ := hmsl
      refine ⟨_, run_sliceAt_sl hu hJ a len cap cl ch (hb cap hc), ?_, fun h3 h4 => ?_⟩
      · rw [hsz]
        have := msl_part hm l hh h1 h2
        rwa [Nat.zero_add] at this
      · subst h3; subst h4
        have : (if cap = 0 then a else a.map (·.add (0 * j.size))) = a := by
          rw [Nat.zero_mul]
          cases a <;> simp [Addr.add]
        rw [this, Nat.sub_zero, Nat.sub_zero]
        exact hx
    split at h
    · refine ⟨_, h, fun e c cl ch w hx hl hh hH => ?_⟩
      rw [hl.none_inv, hh.none_inv]
      obtain ⟨u, hu1, _, hu2⟩ := key e c none none w hH hx 0 len (Nat.zero_le _) (Nat.le_refl _) (fun cap _ => (run_bounds true _ _ w).1)
      exact ⟨u, hu1, hu2 rfl rfl⟩
    · rename_i ka a
      obtain ⟨hb, h⟩ := chk_inv h
      obtain ⟨h0, h1⟩ := upTo_spec hb
      refine ⟨_, h, fun e c cl ch w hx hl hh hH => ?_⟩
      rw [hl.int_inv, hh.none_inv]
      obtain ⟨u, hu1, hu2, _⟩ := key e c _ none w hH hx a.toNat len (by omega) (Nat.le_refl _) (fun cap _ => (run_bounds true _ _ w).2.1 ka a h0 h1)
      exact ⟨u, hu1, hu2⟩
    · rename_i kb b
      obtain ⟨hb, h⟩ := chk_inv h
      obtain ⟨h0, h1⟩ := upTo_spec hb
      refine ⟨_, h, fun e c cl ch w hx hl hh hH => ?_⟩
      rw [hl.none_inv, hh.int_inv]
      obtain ⟨u, hu1, hu2, _⟩ := key e c none _ w hH hx 0 b.toNat (Nat.zero_le _) (by omega) (fun cap hc => (run_bounds true _ _ w).2.2.1 kb b h0 (by omega))
      exact ⟨u, hu1, by simpa using hu2⟩
    · rename_i ka a kb b
      obtain ⟨hb, h⟩ := chk_inv h
      obtain ⟨ha, h⟩ := chk_inv h
      obtain ⟨h0, h1⟩ := upTo_spec hb
      obtain ⟨h2, h3⟩ := upTo_spec ha
      refine ⟨_, h, fun e c cl ch w hx hl hh hH => ?_⟩
      rw [hl.int_inv, hh.int_inv]
      obtain ⟨u, hu1, hu2, _⟩ := key e c _ _ w hH hx a.toNat b.toNat (by omega) (by omega) (fun cap hc => (run_bounds true _ _ w).2.2.2 ka a kb b h0 (by omega) h2 h3)
      exact ⟨u, hu1, hu2⟩
    · cases h
  · rename_i el kk sz l0 len hk
    have hu := hI.und_slice hk
    split at h
    · cases h
    rename_i j hj
    have hJ := hti el j hj
    split at h
    · cases h
    rename_i hsz
    have hsz := Nat.eq_of_beq_eq_true hsz
    have key : ∀ (e : En) (c : Value) (cl ch : Option Value) (w : World), Rel (U := U) e (.msl kk sz l0 len) c → ∀ l hh, l ≤ hh → hh ≤ len →
        (∀ cap, len ≤ cap → (Instr.sliceBounds true len cap cl ch none).run P w = .ok (l, hh, cap) w) →
        ∃ u, (Instr.sliceAt t c cl ch none).run P w = .ok u w ∧ Rel (U := U) e (.msl kk sz (l0 + l) (hh - l)) u := by
      intro e c cl ch w hx l hh h1 h2 hb
      have : ∃ a cap, c = .slice a len cap ∧ len ≤ cap := by
        rcases hx.msl_inv with ⟨a, cap, _, rfl, hc⟩ | ⟨a, l', hn, rfl, _⟩ | ⟨b, ob, cap, _, rfl, hc, _⟩
        · exact ⟨_, _, rfl, hc⟩
        · exact ⟨_, _, by rw [hn], by omega⟩
        · exact ⟨_, _, rfl, hc⟩
      obtain ⟨a, cap, rfl, hc⟩ := this
      refine ⟨_, run_sliceAt_sl hu hJ a len cap cl ch (hb cap hc), ?_⟩
      rw [hsz]
      exact msl_part hx l hh h1 h2
    split at h
    · refine ⟨_, h, fun e c cl ch w hx hl hh hH => ?_⟩
      rw [hl.none_inv, hh.none_inv]
      have := key e c none none w hx 0 len (Nat.zero_le _) (Nat.le_refl _) (fun cap _ => (run_bounds true _ _ w).1)
      simpa using this
    · rename_i ka a
      obtain ⟨hb, h⟩ := chk_inv h
      obtain ⟨h0, h1⟩ := upTo_spec hb
      refine ⟨_, h, fun e c cl ch w hx hl hh hH => ?_⟩
      rw [hl.int_inv, hh.none_inv]
      exact key e c _ none w hx a.toNat len (by omega) (Nat.le_refl _) (fun cap _ => (run_bounds true _ _ w).2.1 ka a h0 h1)
    · rename_i kb b
      obtain ⟨hb, h⟩ := chk_inv h
      obtain ⟨h0, h1⟩ := upTo_spec hb
      refine ⟨_, h, fun e c cl ch w hx hl hh hH => ?_⟩
      rw [hl.none_inv, hh.int_inv]
      have := key e c none _ w hx 0 b.toNat (Nat.zero_le _) (by omega) (fun cap hc => (run_bounds true _ _ w).2.2.1 kb b h0 (by omega))
      simpa using this
    · rename_i ka a kb b
      obtain ⟨hb, h⟩ := chk_inv h
      obtain ⟨ha, h⟩ := chk_inv h
      obtain ⟨h0, h1⟩ := upTo_spec hb
      obtain ⟨h2, h3⟩ := upTo_spec ha
      refine ⟨_, h, fun e c cl ch w hx hl hh hH => ?_⟩
      rw [hl.int_inv, hh.int_inv]
      exact key e c _ _ w hx a.toNat b.toNat (by omega) (by omega) (fun cap hc => (run_bounds true _ _ w).2.2.2 ka a kb b h0 (by omega) h2 h3)
    · cases h
  · cases h

theorem lenTk_str {tk : TK} {s : List UInt8} (h : lenTk (U := U) tk (.str s) = true) : tk = .str := by cases tk <;> simp [lenTk] at h; rfl
theorem lenTk_sl {tk : TK} {x : AV U} (h : lenTk tk x = true) (hx : x = .nilsl ∨ (∃ t xs, x = .fsl t xs) ∨ (∃ k sz lo len, x = .msl k sz lo len) ∨ ∃ k sz, x = .mrow k sz) : ∃ e, tk = .slice e := by
  rcases hx with rfl | ⟨t, xs, rfl⟩ | ⟨k, sz, lo, len, rfl⟩ | ⟨k, sz, rfl⟩ <;> cases tk <;> simp [lenTk] at h <;> exact ⟨_, rfl⟩
theorem lenTk_bsl {tk : TK} {t : U.T} {xs : List (U.den t)} (h : lenTk tk (.bsl t xs : AV U) = true) : ∃ e, tk = .slice e := by
  cases tk <;> simp [lenTk] at h <;> exact ⟨_, rfl⟩
theorem lenTk_brow {tk : TK} {k : Nat} {el : TypeId} (h : lenTk (U := U) tk (.brow k el) = true) : ∃ e, tk = .slice e := by
  cases tk <;> simp [lenTk] at h <;> exact ⟨_, rfl⟩
theorem Rel.brow_inv {e : En} {k : Nat} {el : TypeId} {c : Value} (h : Rel (U := U) e (.brow k el) c) : Rel (U := U) e (.mrow k 1) c ∧ ∀ b o, e.m k = some (.at b o) → o = 0 ∧ ∃ (arr : Array Value) (fz : Nat × Nat), e.w.heap[b]? = some (.cells arr el fz) := by
  cases h with
  | brow h1 h2 => exact ⟨h1, h2⟩
theorem lenTk_map {tk : TK} {x : AV U} (h : lenTk tk x = true) (hx : x = .nilmap ∨ ∃ k, x = .map k) : ∃ a b, tk = .map a b := by
  rcases hx with rfl | ⟨k, rfl⟩ <;> cases tk <;> simp [lenTk] at h <;> exact ⟨_, _, rfl⟩

theorem lenK_sound {x : AV U} {H : Heap U} {k : AV U → Option R} {r : R} (h : lenK x H k = some r) (t ty : TypeId) {i : TI U} (hI : TIok P t i)
    (hk : lenTk i.tk x = true) :
    ∃ v, k v = some r ∧ ∀ (e : En) (c : Value), Rel e x c → HeapRel e H.get → ∃ u, (Builtin.len_ #[t] ty #[c]).run P e.w = .ok u e.w ∧ Rel e v u := by
  have sl : ∀ (a : Option Addr) (n cap : Nat) (w : World), (∃ e, i.tk = .slice e) → (Builtin.len_ #[t] ty #[.slice a n cap]).run P w = .ok (.int .i64 n) w := by
    rintro a n cap w ⟨el, he⟩
    simp [Builtin.len_, run_underlying (hI.und_slice he), goInt]
  cases x <;> simp only [lenK, bslK] at h <;> try cases h
  · refine ⟨_, h, fun e c hx _ => ?_⟩
    rw [hx.str_inv]
    refine ⟨_, ?_, .int⟩
    simp [Builtin.len_, run_underlying (hI.und_str (lenTk_str hk)), goInt]; rfl
  · refine ⟨_, h, fun e c hx _ => ?_⟩
    cases hx
    exact ⟨_, sl _ _ _ _ (lenTk_sl hk (.inl rfl)), .int⟩
  · refine ⟨_, h, fun e c hx _ => ?_⟩
    rcases hx.fsl_inv with ⟨a, cap, rfl, _⟩ | ⟨b, ob, cap, rfl, _⟩ <;> exact ⟨_, sl _ _ _ _ (lenTk_sl hk (.inr (.inl ⟨_, _, rfl⟩))), .int⟩
  · refine ⟨_, h, fun e c hx _ => ?_⟩
    rcases hx.bsl_inv with ⟨a, cap, rfl, _⟩ | ⟨b, ob, cap, rfl, _⟩ <;> exact ⟨_, sl _ _ _ _ (lenTk_bsl hk), .int⟩
  · split at h
    · rename_i len hlen
      refine ⟨_, h, fun e c hx hH => ?_⟩
      rcases mrow_live hlen hH hx with ⟨a, l', hn, rfl, hm⟩ | ⟨b, ob, cap, hm, rfl, hc, hs⟩
      · rw [hn]; exact ⟨_, sl _ _ _ _ (lenTk_sl hk (.inr (.inr (.inr ⟨_, _, rfl⟩)))), .int⟩
      · exact ⟨_, sl _ _ _ _ (lenTk_sl hk (.inr (.inr (.inr ⟨_, _, rfl⟩)))), .int⟩
    · cases h
  · split at h
    · rename_i len hlen
      refine ⟨_, h, fun e c hx hH => ?_⟩
      rcases mrow_live hlen hH hx.brow_inv.1 with ⟨a, l', hn, rfl, hm⟩ | ⟨b, ob, cap, hm, rfl, hc, hs⟩
      · rw [hn]; exact ⟨_, sl _ _ _ _ (lenTk_brow hk), .int⟩
      · exact ⟨_, sl _ _ _ _ (lenTk_brow hk), .int⟩
    · cases h
  · refine ⟨_, h, fun e c hx _ => ?_⟩
    rcases hx.msl_inv with ⟨a, cap, _, rfl, hc⟩ | ⟨a, l', hn, rfl, _⟩ | ⟨b, ob, cap, _, rfl, hc, _⟩
    · exact ⟨_, sl _ _ _ _ (lenTk_sl hk (.inr (.inr (.inl ⟨_, _, _, _, rfl⟩)))), .int⟩
    · rw [hn]; exact ⟨_, sl _ _ _ _ (lenTk_sl hk (.inr (.inr (.inl ⟨_, _, _, _, rfl⟩)))), .int⟩
    · exact ⟨_, sl _ _ _ _ (lenTk_sl hk (.inr (.inr (.inl ⟨_, _, _, _, rfl⟩)))), .int⟩
  · refine ⟨_, h, fun e c hx _ => ?_⟩
    cases hx
    obtain ⟨a, b, hk⟩ := lenTk_map hk (.inl rfl)
    refine ⟨_, ?_, .int⟩
    simp [Builtin.len_, run_underlying (hI.und_map hk), goInt]
  · rename_i kk
    split at h
    · rename_i ka kb es hb
      refine ⟨_, h, fun e c hx hh => ?_⟩
      obtain ⟨a, b, hk⟩ := lenTk_map hk (.inr ⟨_, rfl⟩)
      obtain ⟨bb, ob, ents, clock, h1, h2, h3, h4⟩ := hh _ _ hb
      cases hx with
      | mapDead hd => rw [h1] at hd; cases hd
      | map hm =>
        rw [h1] at hm; cases hm
        refine ⟨_, ?_, .int⟩
        have : (getObj bb).run P e.w = .ok (.map ents clock) e.w := by simp [getObj, Sem.run, h2]
        simp [Builtin.len_, run_underlying (hI.und_map hk), goInt, this, h3]
    · cases h

theorem minI_sound {kk : IntKind} {e : En} : ∀ (l : List (AV U)) (vs : List Value) (a r : Int) (w : World), minI kk l a = some r → RelL e l vs → (vs.foldlM Builtin.min2 (Value.int kk a)).run P w = .ok (.int kk r) w := by
  intro l
  induction l with
  | nil => intro vs a r w h hr; rw [hr.nil_inv]; cases h; rfl
  | cons x l ih =>
    intro vs a r w h hr
    obtain ⟨v, rest, rfl, h1, h2⟩ := hr.cons_inv
    cases x <;> simp only [minI] at h <;> try cases h
    rw [h1.int_inv]
    simp only [List.foldlM_cons, Sem.run_bind, Builtin.min2, Sem.run_pure, Result.andThen_ok]
    exact ih rest _ r w h h2

theorem maxI_sound {kk : IntKind} {e : En} : ∀ (l : List (AV U)) (vs : List Value) (a r : Int) (w : World), maxI kk l a = some r → RelL e l vs → (vs.foldlM Builtin.max2 (Value.int kk a)).run P w = .ok (.int kk r) w := by
  intro l
  induction l with
  | nil => intro vs a r w h hr; rw [hr.nil_inv]; cases h; rfl
  | cons x l ih =>
    intro vs a r w h hr
    obtain ⟨v, rest, rfl, h1, h2⟩ := hr.cons_inv
    cases x <;> simp only [maxI] at h <;> try cases h
    rw [h1.int_inv]
    simp only [List.foldlM_cons, Sem.run_bind, Builtin.max2, Sem.run_pure, Result.andThen_ok]
    exact ih rest _ r w h h2

end Am

namespace Am
open Go
variable {U : TyU} {R : Type} {P : Program} {G : Env U}

/-- what an operation that makes one block of cells must show -/
def Makes (P : Program) (H : Heap U) (s : Sem Value) (e : En) (v : AV U) (b : Blk U) : Prop := ∃ (c : Value) (w' : World) (ob : Obj) (len : Nat),
  s.run P e.w = .ok c w' ∧ PushW e.w w' ob ∧ (e.m H.length = none → Rel (e.push w' H.length len) v c ∧ BlkOK (e.push w' H.length len) H.length b)

theorem push_row {e : En} {w' : World} {k len sz cap : Nat} {arr : Array Value} {el : TypeId} {fz : Nat × Nat} (hh : w'.heap = e.w.heap.push (.cells arr el fz)) (hl : len ≤ cap) (hs : cap * sz ≤ arr.size) :
    Rel (U := U) (e.push w' k len) (.mrow k sz) (.slice (some ⟨e.w.heap.size, 0, none⟩) len cap) := by
  have hm : (e.push w' k len).m k = some (.at e.w.heap.size 0) := by simp [En.push]
  have hn : (e.push w' k len).n k = len := by simp [En.push]
  have := Rel.mrow (U := U) (e := e.push w' k len) (k := k) (sz := sz) (cap := cap) hm (by rw [hn]; exact hl) ⟨arr, el, fz, by show w'.heap[e.w.heap.size]? = _; rw [hh]; simp, by omega⟩
  rw [hn] at this
  exact this

theorem same_eq {k k' : IntKind} (h : IntKind.same k k' = true) : k = k' := by
  cases k <;> cases k' <;> first | rfl | cases h

theorem enc_one {t : U.T} {k : IntKind} {n : Int} {x : U.den t} (h : dec t [.int k n] = some x) : enc t x = [.int k n] := by
  have key : ∀ (sh : List (Cell U.T)) (y : Tup U.toTyU0 sh), decT (U := U) sh [.int k n] = some y → encT (U := U) sh y = [.int k n] := by
    intro sh y hy
    match sh with
    | [] => simp [decT] at hy
    | .int k' :: r =>
      unfold decT at hy
      simp only [decC] at hy
      cases hs : IntKind.same k' k with
      | false => rw [hs] at hy; cases hy
      | true =>
        rw [hs] at hy
        have := same_eq hs
        subst this
        dsimp only at hy
        match r with
        | [] => simp only [decT] at hy; cases hy; rfl
        | _ :: _ => simp only [decT] at hy; cases hy
    | .bool :: r => simp [decT, decC] at hy
    | .str :: r => simp [decT, decC] at hy
    | .sl _ :: r => simp [decT, decC] at hy
  unfold dec at h
  split at h
  · rename_i y hy
    cases h
    unfold enc
    rw [U.tup_untup]
    exact key _ y hy
  · cases h

theorem dec_byte {t : U.T} {k : IntKind} {m : Int} {z : U.den t} (h : dec t [.int k m] = some z) (n : Int) : ∃ x, dec t [.int k n] = some x := by
  have key : ∀ (sh : List (Cell U.T)) (y : Tup U.toTyU0 sh), decT sh [.int k m] = some y → ∃ x, decT (U := U) sh [.int k n] = some x := by
    intro sh y hy
    match sh with
    | [] => simp [decT] at hy
    | .int k' :: r =>
      unfold decT at hy ⊢
      simp only [decC] at hy ⊢
      cases hs : IntKind.same k' k with
      | false => rw [hs] at hy; cases hy
      | true =>
        rw [hs] at hy
        dsimp only at hy ⊢
        split at hy
        · exact ⟨_, rfl⟩
        · cases hy
    | .bool :: r => simp [decT, decC] at hy
    | .str :: r => simp [decT, decC] at hy
    | .sl _ :: r => simp [decT, decC] at hy
  unfold dec at h ⊢
  split at h
  · rename_i y hy
    obtain ⟨x, hx⟩ := key _ y hy
    rw [hx]; exact ⟨_, rfl⟩
  · cases h

theorem makeSliceK_sound (hti : TIs P G) {t : TypeId} {l c : AV U} {H : Heap U} {k : AV U → Heap U → Option R} {r : R} (h : makeSliceK G t l c H k = some r) :
    ∃ v b, k v (H ++ [some b]) = some r ∧ ∀ (e : En) (cl cc : Value), WF e → Rel e l cl → Rel e c cc → Makes P H (Instr.makeSlice t cl cc) e v b := by
  unfold makeSliceK at h
  split at h
  case h_2 => cases h
  rename_i el _ _ _ n c hi
  have hu := (hti t _ hi).und_slice rfl
  split at h
  · cases h
  rename_i j hj
  have hJ := hti el j hj
  split at h
  · cases h
  rename_i hsb
  rw [Bool.or_eq_false_iff] at hsb
  have h0b : j.bytes ≠ 0 := fun hh => by rw [hh] at hsb; cases hsb.2
  obtain ⟨hc, h⟩ := chk_inv h
  simp only [Bool.and_eq_true] at hc
  obtain ⟨⟨hn, hnc⟩, hroom⟩ := hc
  have hn : 0 ≤ n := by simpa [leI] using hn
  have hnc : n ≤ c := by simpa [leI] using hnc
  have hroom : c.toNat * j.bytes ≤ 281474976710656 := roomy_le hroom
  -- the run, for whichever row
  have key : ∀ (e : En) (blk : Blk U), WF e → (∃ es : List (List (AV U)), es = List.replicate n.toNat j.zero ∧ rowOf j es = some blk) → c ≤ 9223372036854775807 →
      Makes P H (Instr.makeSlice t (.int .i64 n) (.int .i64 c)) e (.mrow H.length j.size) blk := by
    rintro e blk hw ⟨es, hes, hblk⟩ h63
    obtain ⟨inf, hi1, hi2, hi3, z, hi4, hi5, hi6, hi7⟩ := hJ.info
    obtain ⟨z', hz1, hz2⟩ := hJ.zero_rel e e.w
    have hzz : z' = z := by
      have : (zeroValue el).run P e.w = .ok z e.w := by simp [zeroValue, typeInfo, hi1, hi4]
      rw [this] at hz1; cases hz1; rfl
    subst hzz
    have hzs : z'.cells.size = j.size := by have := hz2.1; rw [hJ.zero_len] at this; simpa using this.symm
    have hb : (inf.bytes : Int) * c ≤ 281474976710656 := by
      rw [hi3]
      have h1 : (c.toNat : Int) = c := by omega
      have h2 : ((c.toNat * j.bytes : Nat) : Int) ≤ 281474976710656 := by omega
      rw [Int.natCast_mul, h1, Int.mul_comm] at h2
      omega
    have hrun := run_make (P := P) e.w t el inf z' hu hi1 hi4 .i64 .i64 n c hn hnc hb h63
    rw [hi2] at hrun
    refine ⟨_, _, _, n.toNat, hrun, ⟨rfl, rfl, rfl⟩, fun hm => ⟨push_row rfl (by omega) (by rw [size_madeCells]; exact Nat.le_refl _), ?_⟩⟩
    have hE := En.push_evo (k := H.length) (len := n.toNat) (w' := e.w.alloc (.cells (madeCells z'.cells (c.toNat * j.size)) el)) (fun _ => True) ⟨rfl, rfl, rfl⟩ hm
    refine row_ok (b := e.w.heap.size) (ob := 0) (arr := madeCells z'.cells (c.toNat * j.size)) (el := el) (fz := (0, 0)) hblk (by simp [En.push]) (by show (e.w.heap.push _)[e.w.heap.size]? = _; simp) ?_ (unfrozen_zero _ _) (by simp [En.push, hes]) (fun m x hx => ?_)
    · rw [size_madeCells, hes]
      have : n.toNat * j.size ≤ c.toNat * j.size := Nat.mul_le_mul_right _ (by omega)
      simpa using this
    · rw [hes, List.getElem?_replicate] at hx
      split at hx
      · rename_i hm'
        cases hx
        refine ⟨hJ.zero_len, hJ.zero_ok, fun i y hy => ?_⟩
        have hilt : i < j.size := by rw [← hJ.zero_len]; exact (List.getElem?_eq_some_iff.1 hy).1
        obtain ⟨v, hv1, hv2⟩ := hz2.get hy
        refine ⟨v, ?_, hv2.mono hE hw⟩
        have hidx := idx_le (sz := j.size) hm'
        have hle : n.toNat * j.size ≤ c.toNat * j.size := Nat.mul_le_mul_right _ (by omega)
        have hlt' : m * j.size + i < c.toNat * j.size := by omega
        have hmod : (m * j.size + i) % z'.cells.size = i := by rw [hzs, Nat.mul_comm, Nat.mul_add_mod]; exact Nat.mod_eq_of_lt hilt
        have hiz : i < z'.cells.size := by omega
        simp [madeCells, hlt', hmod]
        have : z'.cells[i]? = some v := by simpa using hv1
        rw [Array.getElem?_eq_getElem hiz] at this
        cases this
        simp [hiz]
      · cases hx
  have h63 : c ≤ 9223372036854775807 := by
    have : c.toNat * 1 ≤ c.toNat * j.bytes := Nat.mul_le_mul_left _ (by omega)
    omega
  split at h
  · rename_i ty hty
    split at h
    · rename_i hsz
      split at h
      · rename_i z hz
        refine ⟨_, _, h, fun e cl cc hw hl hc => ?_⟩
        rw [hl.int_inv, hc.int_inv]
        refine key e _ hw ⟨_, rfl, ?_⟩ h63
        unfold rowOf
        rw [hty]
        have hall : ∀ m, decAll ty (List.replicate m j.zero) = some (List.replicate m z) := by
          intro m
          induction m with
          | zero => rfl
          | succ m ih => simp [List.replicate_succ, decAll, hz, ih]
        simp [hsz, hall]
      · cases h
    · cases h
  · rename_i hty
    refine ⟨_, _, h, fun e cl cc hw hl hc => ?_⟩
    rw [hl.int_inv, hc.int_inv]
    refine key e _ hw ⟨_, rfl, ?_⟩ h63
    unfold rowOf
    rw [hty]

end Am
