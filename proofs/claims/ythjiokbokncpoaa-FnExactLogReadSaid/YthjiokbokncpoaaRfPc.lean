/- What the functions on numbers come to. -/
import Derived.Test.YthjiokbokncpoaaRfPb
import Derived.Test.YthjiokbokncpoaaRfFs
set_option linter.unusedSimpArgs false
set_option linter.unusedVariables false
namespace Go.Proofs.Ythjiokbokncpoaa.Rf
open Go

theorem f178_is {k : Nat} {n : Int} : f178 k n = some ((decide (0 ≤ n ∧ n ≤ 281474976710655), ()), ()) := by
  rw [f178_eq]
  simp only [f178_u, Bool.cond_eq_ite, decide_eq_true_eq]
  by_cases h : n ≥ 0
  · rw [if_pos h]
    have : decide (n ≤ 281474976710655) = decide (0 ≤ n ∧ n ≤ 281474976710655) := by
      by_cases h2 : n ≤ 281474976710655 <;> simp [h2] <;> omega
    rw [this]
  · rw [if_neg h]
    have : false = decide (0 ≤ n ∧ n ≤ 281474976710655) := by
      symm; simp; omega
    rw [this]

theorem var_byte (n : Nat) (h : n ≤ 281474976710655) : IntKind.wrap .u8 (IntKind.wrap .i64 ((n : Int).tmod 128 + 128)) = ((n % 128 + 128 : Nat) : Int) := by
  rw [tmod_nn (by omega), w64 (by omega) (by omega), w8 (by omega) (by omega)]
  omega

theorem f147_l4_is {k : Nat} {a0 : List Int} {a1 : Int} (d : Nat) : ∀ (n : Nat) (xs : List Int), n < 128 ^ (d + 1) → n ≤ 281474976710655 → xs.length + d < 140737488355328 → ∀ m, d < m → f147_l4 k m a0 a1 n xs = some ((xs ++ varB n, true, ()), ()) := by
  induction d with
  | zero =>
    intro n xs h1 h2 h3 m hm
    obtain ⟨m, rfl, _⟩ := succ_of hm
    have h1 : n < 128 := by simpa using h1
    rw [f147_l4_succ]
    simp only [f147_u4, Bool.cond_eq_ite, decide_eq_true_eq, List.length_singleton]
    rw [if_neg (by omega), if_pos (by omega), varB_small h1, w8 (by omega) (by omega)]
  | succ d ih =>
    intro n xs h1 h2 h3 m hm
    obtain ⟨m, rfl, _⟩ := succ_of hm
    rw [f147_l4_succ]
    simp only [f147_u4, Bool.cond_eq_ite, decide_eq_true_eq, List.length_singleton]
    by_cases h : n < 128
    · rw [if_neg (by omega), if_pos (by omega), varB_small h, w8 (by omega) (by omega)]
    · rw [if_pos (by omega), if_pos (by omega), var_byte n h2, tdiv_nn (by omega), w64 (by omega) (by omega), show (n : Int) / 128 = ((n / 128 : Nat) : Int) by omega]
      rw [ih (n / 128) _ (by rw [Nat.div_lt_iff_lt_mul (by omega)]; rw [Nat.pow_succ] at h1; exact h1) (by omega) (by simp; omega) m (by omega)]
      rw [varB_big h, List.append_assoc]
      rfl

theorem f147_is {k : Nat} (hk : 10 ≤ k) {xs : List Int} {x : Int} (hl : xs.length < 140737488355000) : f147 k xs x = some (if 0 ≤ x ∧ x ≤ 281474976710655 then ((xs ++ varB x.toNat, true, ()), ()) else (([], false, ()), ())) := by
  rw [f147_eq]
  simp only [f147_u, f178_is, Option.bind_some, Bool.cond_eq_ite, List.length_nil, decide_eq_true_eq]
  by_cases h : 0 ≤ x ∧ x ≤ 281474976710655
  · rw [if_neg (by simpa using h), if_pos (by omega), if_pos h]
    obtain ⟨n, rfl⟩ := Int.eq_ofNat_of_zero_le h.1
    rw [f147_l4_is 6 n _ (by omega) (by omega) (by simp; omega) k (by omega)]
    simp
  · rw [if_pos (by simp only [Bool.not_eq_true', decide_eq_false_iff_not]; exact h), if_neg h]

/-! ### GetVar -/
theorem f148_l5_is {k : Nat} {a0 : List Int} {a1 : Int} {b : List Int} (hb : Bytes b) {at_ : Nat} (hlen : b.length < 140737488355328) (hat : at_ ≤ b.length) (d : Nat) : ∀ (j : Nat), 7 - j = d → j ≤ 7 → j ≤ (b.drop at_).length → ∀ m, d < m →
    f148_l5 k m a0 a1 b at_ (valD ((b.drop at_).take j) : Nat) j = some (varR at_ (b.drop at_) ((endsAt d ((b.drop at_).drop j)).map (j + ·))) := by
  induction d with
  | zero =>
    intro j h1 h2 h3 m hm
    obtain ⟨m, rfl, _⟩ := succ_of hm
    rw [f148_l5_succ]
    simp only [f148_u5, Bool.cond_eq_ite, decide_eq_true_eq]
    rw [if_neg (by omega)]
    rfl
  | succ d ih =>
    intro j h1 h2 h3 m hm
    obtain ⟨m, rfl, _⟩ := succ_of hm
    have hl : (b.drop at_).length = b.length - at_ := by simp
    rw [f148_l5_succ]
    simp only [f148_u5, Bool.cond_eq_ite, decide_eq_true_eq, beq_iff_eq]
    rw [if_pos (by omega), w64 (x := (at_ : Int) + j) (by omega) (by omega), w64 (x := (7 : Int) * j) (by omega) (by omega)]
    by_cases hin : at_ + j < b.length
    · have hx := hb.rd (at_ + j)
      have hcons : (b.drop at_).drop j = rdI (b.drop at_) j :: (b.drop at_).drop (j + 1) := rdI_drop (by omega)
      rw [if_pos (by omega), if_pos (by omega), if_pos (by omega), if_pos (by omega), show ((at_ : Int) + j).toNat = at_ + j by omega, hcons, w64 (x := rdI b (at_ + j)) (by omega) (by omega)]
      rw [rdI_add]
      have hsh : ∀ x : Int, 0 ≤ x → x < 128 → shlv .i64 x (7 * (j : Int)) = ((128 ^ j * x.toNat : Nat) : Int) ∧ 128 ^ j * x.toNat < 600000000000000 := by
        intro x h0 h1
        have hp : 128 ^ j ≤ 128 ^ 6 := Nat.pow_le_pow_right (by omega) (by omega)
        have hm : 128 ^ j * x.toNat ≤ 128 ^ 6 * 127 := Nat.mul_le_mul hp (by omega)
        have e : (2 : Int) ^ (min (7 * (j : Int)).toNat IntKind.i64.bits) = ((128 ^ j : Nat) : Int) := by
          have : min (7 * (j : Int)).toNat IntKind.i64.bits = 7 * j := by
            show min _ 64 = _
            omega
          rw [this, Int.pow_mul]
          simp
        refine ⟨?_, by omega⟩
        unfold shlv
        rw [e]
        obtain ⟨n, rfl⟩ := Int.eq_ofNat_of_zero_le h0
        rw [← Int.natCast_mul, Nat.mul_comm, w64 (by omega) (by simp only [Int.toNat_natCast] at hm; omega)]
        simp
      have hv := valD_lt ((b.drop at_).take j)
      have hvl : ((b.drop at_).take j).length = j := by simp; omega
      rw [hvl] at hv
      have hp : 128 ^ j ≤ 128 ^ 6 := Nat.pow_le_pow_right (by omega) (by omega)
      obtain ⟨s1, s2⟩ := hsh ((rdI b (at_ + j)).tmod 128) (by rw [tmod_nn hx.1]; omega) (by rw [tmod_nn hx.1]; omega)
      have hval : IntKind.wrap .i64 (((valD ((b.drop at_).take j) : Nat) : Int) + shlv .i64 ((rdI b (at_ + j)).tmod 128) (7 * (j : Int))) = ((valD ((b.drop at_).take (j + 1)) : Nat) : Int) := by
        rw [s1, take_rdI (by omega), valD_snoc, hvl, rdI_add, w64 (by omega) (by omega)]
        have : ((rdI b (at_ + j)).tmod 128).toNat = (rdI b (at_ + j)).toNat % 128 := by rw [tmod_nn hx.1]; omega
        rw [this]
        omega
      rw [hval]
      by_cases hlt : rdI b (at_ + j) < 128
      · rw [if_pos hlt]
        have he : (endsAt (d + 1) (rdI b (at_ + j) :: (b.drop at_).drop (j + 1))).map (j + ·) = some j := by
          simp only [endsAt, if_pos hlt, Option.map_some, Nat.add_zero]
        rw [he]
        have hw : IntKind.wrap .i64 ((at_ : Int) + j + 1) = ((at_ + j + 1 : Nat) : Int) := by rw [w64 (by omega) (by omega)]; omega
        rw [hw]
        simp only [varR, rdI_add]
        by_cases hz : rdI b (at_ + j) = 0
        · rw [if_pos hz]
          by_cases hj : (j : Int) > 0
          · rw [if_pos hj, if_pos (.inl ⟨hz, by omega⟩)]; rfl
          · rw [if_neg hj]
            by_cases hb : ((valD ((b.drop at_).take (j + 1)) : Nat) : Int) > 281474976710655
            · rw [if_pos hb, if_pos (.inr (by omega))]; rfl
            · rw [if_neg hb, if_neg (by omega)]
        · rw [if_neg hz]
          by_cases hb : ((valD ((b.drop at_).take (j + 1)) : Nat) : Int) > 281474976710655
          · rw [if_pos hb, if_pos (.inr (by omega))]; rfl
          · rw [if_neg hb, if_neg (by omega)]
      · rw [if_neg hlt, w64 (x := (j : Int) + 1) (by omega) (by omega), show (j : Int) + 1 = ((j + 1 : Nat) : Int) by omega]
        rw [ih (j + 1) (by omega) (by omega) (by omega) m (by omega)]
        simp only [endsAt, if_neg hlt]
        cases endsAt d ((b.drop at_).drop (j + 1)) with
        | none => rfl
        | some e => simp only [Option.map_some]; rw [show j + 1 + e = j + (e + 1) by omega]
    · rw [if_neg (by omega)]
      have : (b.drop at_).drop j = [] := List.drop_eq_nil_of_le (by omega)
      rw [this]
      rfl

theorem f148_is {k : Nat} (hk : 10 ≤ k) {b : List Int} (hb : Bytes b) (hlen : b.length < 140737488355328) (at_ : Int) : f148 k b at_ = some (getVar b at_) := by
  rw [f148_eq]
  simp only [f148_u, Bool.cond_eq_ite, decide_eq_true_eq, getVar]
  by_cases h0 : at_ < 0
  · rw [if_pos h0, if_pos (.inl h0)]; rfl
  · rw [if_neg h0]
    by_cases h1 : at_ ≥ (b.length : Int)
    · rw [if_pos h1, if_pos (.inr h1)]; rfl
    · rw [if_neg h1, if_neg (by omega)]
      obtain ⟨a, rfl⟩ := Int.eq_ofNat_of_zero_le (by omega : 0 ≤ at_)
      have := f148_l5_is (k := k) (a0 := b) (a1 := a) hb (at_ := a) hlen (by omega) 7 0 rfl (by omega) (by omega) k (by omega)
      simp only [List.take_zero, List.drop_zero, valD] at this
      rw [show ((0 : Nat) : Int) = 0 from rfl] at this
      rw [this]
      simp only [Int.toNat_natCast, Option.some.injEq]
      cases endsAt 7 (b.drop a) <;> simp
end Go.Proofs.Ythjiokbokncpoaa.Rf
