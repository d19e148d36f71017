/- The reference's reader of numbers; numbers in six bytes; check sums. -/
import Derived.Test.YthjiokbokncpoaaRfPc
set_option linter.unusedSimpArgs false
set_option linter.unusedVariables false
namespace Go.Proofs.Ythjiokbokncpoaa.Rf
open Go

theorem rdI_take {l : List Int} {n i : Nat} (h : i < n) : rdI (l.take n) i = rdI l i := by
  show (l.take n).getD i (0 : Int) = l.getD i (0 : Int)
  simp [List.getD_eq_getElem?_getD, List.getElem?_take, h]

theorem f144_l10_is {k : Nat} (hk : 10 ≤ k) {a0 : List Int} {a1 : Int} {b : List Int} (hb : Bytes b) {at_ : Nat} (hlen : b.length < 140737488355328) {e : Nat} (he : e < 7) (hel : at_ + e < b.length) (hwf : wfDs ((b.drop at_).take (e + 1)))
    (hnz : lastNZ ((b.drop at_).take (e + 1)) ↔ rdI (b.drop at_) e ≠ 0) : ∀ (i : Nat), i ≤ e + 1 → ∀ m, i < m →
    f144_l10 k m a0 a1 b at_ ((at_ + e : Nat) : Int) (valD (((b.drop at_).take (e + 1)).drop i) : Nat) ((at_ : Int) + i - 1) = some (varR at_ (b.drop at_) (some e)) := by
  intro i
  have hll : ((b.drop at_).take (e + 1)).length = e + 1 := by simp; omega
  induction i with
  | zero =>
    intro _ m hm
    obtain ⟨m, rfl, _⟩ := succ_of hm
    rw [f144_l10_succ]
    simp only [f144_u10, f147_is hk (xs := []) (by simp), Option.bind_some, Bool.cond_eq_ite, decide_eq_true_eq]
    rw [if_neg (by omega), List.drop_zero]
    simp only [varR]
    by_cases hbig : 281474976710655 < valD ((b.drop at_).take (e + 1))
    · rw [if_neg (c := 0 ≤ _ ∧ _) (by omega)]
      simp only [Bool.not_false, if_true]
      rw [if_pos (.inr hbig)]; rfl
    · rw [if_pos (c := 0 ≤ _ ∧ _) (by omega)]
      have hw : IntKind.wrap .i64 (((at_ + e : Nat) : Int) + 1) = ((at_ + e + 1 : Nat) : Int) := by rw [w64 (by omega) (by omega)]; omega
      simp only [hw, Bool.not_true, Bool.false_eq_true, if_false, List.nil_append, Int.toNat_natCast]
      rw [if_pos (by omega), if_pos (by omega), if_pos (by omega)]
      have hs : (b.take (at_ + e + 1)).drop at_ = (b.drop at_).take (e + 1) := by
        rw [List.drop_take]
        congr 1
        omega
      rw [hs, sEq_bytes (varB_bytes _) ((hb.drop _).take _)]
      have hv := varB_val hwf
      rw [hnz, hll] at hv
      by_cases hz : rdI (b.drop at_) e = 0 ∧ 0 < e
      · have hne : ¬ (varB (valD ((b.drop at_).take (e + 1))) = (b.drop at_).take (e + 1)) := fun h => by
          rcases hv.1 h with h | h
          · omega
          · exact h hz.1
        rw [if_pos (by simp only [Bool.not_eq_true', decide_eq_false_iff_not]; exact hne), if_pos (.inl hz)]
        rfl
      · have heq : varB (valD ((b.drop at_).take (e + 1))) = (b.drop at_).take (e + 1) := by
          refine hv.2 ?_
          by_cases h0 : e = 0
          · left; omega
          · right; intro h; exact hz ⟨h, by omega⟩
        rw [if_neg (by simp only [Bool.not_eq_true', decide_eq_false_iff_not]; exact fun h => h heq), if_neg (by rintro (h | h); exact hz h; exact hbig h)]
  | succ i ih =>
    intro hi m hm
    obtain ⟨m, rfl, _⟩ := succ_of hm
    rw [f144_l10_succ]
    simp only [f144_u10, Bool.cond_eq_ite, decide_eq_true_eq]
    have hx := hb.rd (at_ + i)
    rw [if_pos (by omega), if_pos (by omega), if_pos (by omega)]
    have e1 : ((at_ : Int) + ((i + 1 : Nat) : Int) - 1).toNat = at_ + i := by omega
    have hlt := valD_lt (((b.drop at_).take (e + 1)).drop (i + 1))
    have hdl : (((b.drop at_).take (e + 1)).drop (i + 1)).length = e - i := by rw [List.length_drop, hll]; omega
    rw [hdl] at hlt
    have hp : 128 ^ (e - i) ≤ 128 ^ 6 := Nat.pow_le_pow_right (by omega) (by omega)
    rw [e1, w64 (x := rdI b (at_ + i)) (by omega) (by omega), tmod_nn hx.1, w64 (x := ((valD (((b.drop at_).take (e + 1)).drop (i + 1)) : Nat) : Int) * 128) (by omega) (by omega), w64 (by omega) (by omega), w64 (by omega) (by omega)]
    have hv : ((valD (((b.drop at_).take (e + 1)).drop (i + 1)) : Nat) : Int) * 128 + rdI b (at_ + i) % 128 = ((valD (((b.drop at_).take (e + 1)).drop i) : Nat) : Int) := by
      rw [rdI_drop (l := (b.drop at_).take (e + 1)) (i := i) (by omega), rdI_take (by omega), rdI_add]
      simp only [valD]
      omega
    rw [hv, show (at_ : Int) + ((i + 1 : Nat) : Int) - 1 - 1 = (at_ : Int) + i - 1 by omega]
    exact ih (by omega) m (by omega)

theorem f144_l4_is {k : Nat} (hk : 10 ≤ k) {a0 : List Int} {a1 : Int} {b : List Int} (hb : Bytes b) {at_ : Nat} (hlen : b.length < 140737488355328) (hat : at_ ≤ b.length) (d : Nat) : ∀ (j : Nat), 7 - j = d → j ≤ 7 → at_ + j ≤ b.length →
    (∀ e, endsAt d ((b.drop at_).drop j) = some e → endsAt 7 (b.drop at_) = some (j + e)) → ∀ m, d + 10 < m →
    f144_l4 k m a0 a1 b at_ ((at_ + j : Nat) : Int) = some (varR at_ (b.drop at_) ((endsAt d ((b.drop at_).drop j)).map (j + ·))) := by
  induction d with
  | zero =>
    intro j h1 h2 h3 _ m hm
    obtain ⟨m, rfl, _⟩ := succ_of (d := 0) (k := m) (by omega)
    rw [f144_l4_succ]
    simp only [f144_u4, Bool.cond_eq_ite, decide_eq_true_eq, beq_iff_eq]
    have hw : IntKind.wrap .i64 ((at_ : Int) + 7) = (at_ : Int) + 7 := w64 (by omega) (by omega)
    rw [hw]
    by_cases hl : ((at_ + j : Nat) : Int) < (b.length : Int)
    · rw [if_pos hl, if_neg (by omega), if_neg (by omega), if_pos (by omega)]; rfl
    · rw [if_neg hl, if_pos (by omega)]; rfl
  | succ d ih =>
    intro j h1 h2 h3 hend m hm
    obtain ⟨m, rfl, _⟩ := succ_of (d := 0) (k := m) (by omega)
    rw [f144_l4_succ]
    simp only [f144_u4, Bool.cond_eq_ite, decide_eq_true_eq, beq_iff_eq]
    have hw : IntKind.wrap .i64 ((at_ : Int) + 7) = (at_ : Int) + 7 := w64 (by omega) (by omega)
    rw [hw]
    have hl : (b.drop at_).length = b.length - at_ := by simp
    by_cases hin : at_ + j < b.length
    · have hcons : (b.drop at_).drop j = rdI (b.drop at_) j :: (b.drop at_).drop (j + 1) := rdI_drop (by omega)
      rw [hcons, rdI_add] at hend ⊢
      rw [if_pos (by omega), if_pos (by omega), if_pos (by omega), if_pos (by omega), Int.toNat_natCast]
      by_cases hlt : rdI b (at_ + j) < 128
      · rw [if_neg (by omega), if_neg (by omega), if_neg (by omega)]
        have he0 : endsAt (d + 1) (rdI b (at_ + j) :: (b.drop at_).drop (j + 1)) = some 0 := by simp only [endsAt, if_pos hlt]
        have h7 := hend 0 he0
        rw [Nat.add_zero] at h7
        obtain ⟨q1, q2, q3, q4⟩ := endsAt_some (hb.drop at_) h7
        rw [he0]
        have := f144_l10_is (k := k) hk (a0 := a0) (a1 := a1) hb hlen (e := j) q1 hin q3 q4 (j + 1) (by omega) m (by omega)
        have hd : ((b.drop at_).take (j + 1)).drop (j + 1) = [] := List.drop_eq_nil_of_le (by rw [List.length_take]; omega)
        rw [hd] at this
        simp only [valD] at this
        rw [show (at_ : Int) + ((j + 1 : Nat) : Int) - 1 = ((at_ + j : Nat) : Int) by omega] at this
        exact this
      · rw [if_pos (by omega), w64 (by omega) (by omega), show ((at_ + j : Nat) : Int) + 1 = ((at_ + (j + 1) : Nat) : Int) by omega]
        have hen : endsAt (d + 1) (rdI b (at_ + j) :: (b.drop at_).drop (j + 1)) = (endsAt d ((b.drop at_).drop (j + 1))).map (· + 1) := by simp only [endsAt, if_neg hlt]
        rw [ih (j + 1) (by omega) (by omega) (by omega) (fun e h => by
          have := hend (e + 1) (by rw [hen, h]; rfl)
          rw [this, show j + (e + 1) = j + 1 + e by omega]) m (by omega), hen]
        cases endsAt d ((b.drop at_).drop (j + 1)) with
        | none => rfl
        | some e => simp only [Option.map_some]; rw [show j + 1 + e = j + (e + 1) by omega]
    · have : (b.drop at_).drop j = [] := List.drop_eq_nil_of_le (by omega)
      rw [this, if_neg (by omega), if_pos (by omega)]
      rfl

theorem f144_is {k : Nat} (hk : 20 ≤ k) {b : List Int} (hb : Bytes b) (hlen : b.length < 140737488355328) (at_ : Int) : f144 k b at_ = some (getVar b at_) := by
  rw [f144_eq]
  simp only [f144_u, Bool.cond_eq_ite, decide_eq_true_eq, getVar]
  by_cases h0 : at_ < 0
  · rw [if_pos h0, if_pos (.inl h0)]; rfl
  · rw [if_neg h0]
    by_cases h1 : at_ ≥ (b.length : Int)
    · rw [if_pos h1, if_pos (.inr h1)]; rfl
    · rw [if_neg h1, if_neg (by omega)]
      obtain ⟨a, rfl⟩ := Int.eq_ofNat_of_zero_le (by omega : 0 ≤ at_)
      have := f144_l4_is (k := k) (by omega) (a0 := b) (a1 := a) hb (at_ := a) hlen (by omega) 7 0 rfl (by omega) (by omega) (fun e h => by rw [Nat.zero_add]; exact h) k (by omega)
      rw [List.drop_zero, Nat.add_zero] at this
      rw [this]
      simp only [Int.toNat_natCast, Option.some.injEq]
      cases endsAt 7 (b.drop a) <;> simp

/-! ### Crc -/
theorem f102_l7_is {k : Nat} {a0 : List Int} (j : Nat) : ∀ (r : Nat) (l : List Int) (p i : Int), r < 4294967296 → 0 ≤ i → 8 - i = j → ∀ m, 2 * j < m → f102_l7 k m a0 l r p i = f102_l3 k (m - 2 * j - 1) a0 l (crcBits j r : Nat) (IntKind.wrap .i64 (p + 1)) := by
  induction j with
  | zero =>
    intro r l p i hr h0 h1 m hm
    obtain ⟨m, rfl, _⟩ := succ_of hm
    rw [f102_l7_succ]
    simp only [f102_u7, Bool.cond_eq_ite, decide_eq_true_eq, beq_iff_eq]
    rw [if_neg (by omega)]
    rfl
  | succ j ih =>
    intro r l p i hr h0 h1 m hm
    obtain ⟨m, rfl, _⟩ := succ_of (d := 1) (k := m) (by omega)
    obtain ⟨m, rfl, _⟩ := succ_of (d := 0) (k := m) (by omega)
    rw [f102_l7_succ]
    simp only [f102_u7, f102_l8_succ, f102_u8, Bool.cond_eq_ite, decide_eq_true_eq, beq_iff_eq]
    rw [if_pos (by omega), w64 (x := i + 1) (by omega) (by omega), tdiv_nn (by omega), tmod_nn (by omega), w64 (x := (r : Int) / 2) (by omega) (by omega), show m + 1 + 1 - 2 * (j + 1) - 1 = m - 2 * j - 1 by omega]
    by_cases h2 : r % 2 = 1
    · rw [if_pos (by omega), show (r : Int) / 2 = ((r / 2 : Nat) : Int) by omega, xor64 (by omega) (by omega) (by omega) (by omega)]
      have e : crcBit r = (((r / 2 : Nat) : Int).toNat ^^^ (3988292384 : Int).toNat) := by unfold crcBit; rw [if_pos h2]; rfl
      rw [← e, ih (crcBit r) l p (i + 1) (crcBit_lt hr) (by omega) (by omega) m (by omega)]
      rfl
    · have e : crcBit r = r / 2 := by unfold crcBit; rw [if_neg h2]
      rw [if_neg (by omega), show (r : Int) / 2 = ((r / 2 : Nat) : Int) by omega, ← e, ih (crcBit r) l p (i + 1) (crcBit_lt hr) (by omega) (by omega) m (by omega)]
      rfl
theorem f109_l7_is {k : Nat} {a0 : List Int} (j : Nat) : ∀ (r : Nat) (l : List Int) (n p i : Int), r < 4294967296 → 0 ≤ i → 8 - i = j → ∀ m, j < m → f109_l7 k m a0 r l n p i = f109_l3 k (m - j - 1) a0 (crcBits j r : Nat) l n (IntKind.wrap .i64 (p + 1)) := by
  have shr : ∀ r : Nat, r < 4294967296 → shrv .u32 (r : Int) 1 = ((r / 2 : Nat) : Int) := by
    intro r hr
    unfold shrv
    have : min (1 : Int).toNat IntKind.u32.bits = 1 := rfl
    rw [this, Int.fdiv_eq_ediv_of_nonneg _ (by omega)]
    omega
  induction j with
  | zero =>
    intro r l n p i hr h0 h1 m hm
    obtain ⟨m, rfl, _⟩ := succ_of hm
    rw [f109_l7_succ]
    simp only [f109_u7, Bool.cond_eq_ite, decide_eq_true_eq, beq_iff_eq]
    rw [if_neg (by omega)]
    rfl
  | succ j ih =>
    intro r l n p i hr h0 h1 m hm
    obtain ⟨m, rfl, _⟩ := succ_of hm
    rw [f109_l7_succ]
    simp only [f109_u7, Bool.cond_eq_ite, decide_eq_true_eq, beq_iff_eq]
    rw [if_pos (by omega), w64 (x := i + 1) (by omega) (by omega), and32_one (by omega) (by omega), shr r hr, show m + 1 - (j + 1) - 1 = m - j - 1 by omega]
    by_cases h2 : r % 2 = 1
    · rw [if_pos (by omega), xor32 (by omega) (by omega) (by omega) (by omega)]
      have e : crcBit r = (((r / 2 : Nat) : Int).toNat ^^^ (3988292384 : Int).toNat) := by unfold crcBit; rw [if_pos h2]; rfl
      rw [← e, ih (crcBit r) l n p (i + 1) (crcBit_lt hr) (by omega) (by omega) m (by omega)]
      rfl
    · have e : crcBit r = r / 2 := by unfold crcBit; rw [if_neg h2]
      rw [if_neg (by omega), ← e, ih (crcBit r) l n p (i + 1) (crcBit_lt hr) (by omega) (by omega) m (by omega)]
      rfl

theorem f102_l3_is {k : Nat} {a0 : List Int} (d : Nat) : ∀ (l : List Int) (r i : Nat), Bytes l → l.length < 140737488355328 → r < 4294967296 → l.length - i = d → i ≤ l.length → ∀ m, 20 * d < m →
    f102_l3 k m a0 l r i = some ((((((l.drop i).foldl crcByte r ^^^ 4294967295 : Nat) : Int)), ()), ()) := by
  induction d with
  | zero =>
    intro l r i hb hl hr h1 h2 m hm
    obtain ⟨m, rfl, _⟩ := succ_of (d := 0) (k := m) (by omega)
    rw [f102_l3_succ]
    simp only [f102_u3, Bool.cond_eq_ite, decide_eq_true_eq]
    rw [if_neg (by omega), List.drop_eq_nil_of_le (by omega), xor64 (by omega) (by omega) (by omega) (by omega)]
    rfl
  | succ d ih =>
    intro l r i hb hl hr h1 h2 m hm
    obtain ⟨m, rfl, _⟩ := succ_of (d := 0) (k := m) (by omega)
    have hx := hb.rd i
    rw [f102_l3_succ]
    simp only [f102_u3, Bool.cond_eq_ite, decide_eq_true_eq, Int.toNat_natCast]
    rw [if_pos (by omega), if_pos (by omega), if_pos (by omega), w64 (by omega) (by omega), xor64 (by omega) (by omega) (by omega) (by omega), f102_l7_is 8 _ l i 0 (Nat.xor_lt_two_pow (n := 32) (by omega) (by omega)) (by omega) (by omega) m (by omega)]
    rw [w64 (by omega) (by omega), show (i : Int) + 1 = ((i + 1 : Nat) : Int) by omega, ih l _ (i + 1) hb hl (crcBits_lt 8 (Nat.xor_lt_two_pow (n := 32) (by omega) (by omega))) (by omega) (by omega) _ (by omega), rdI_drop (l := l) (i := i) (by omega)]
    rfl
theorem f109_l3_is {k : Nat} {a0 : List Int} (d : Nat) : ∀ (l : List Int) (r i : Nat), Bytes l → l.length < 140737488355328 → r < 4294967296 → l.length - i = d → i ≤ l.length → ∀ m, 20 * d < m →
    f109_l3 k m a0 r l (l.length : Int) i = some ((((((l.drop i).foldl crcByte r ^^^ 4294967295 : Nat) : Int)), ()), ()) := by
  induction d with
  | zero =>
    intro l r i hb hl hr h1 h2 m hm
    obtain ⟨m, rfl, _⟩ := succ_of (d := 0) (k := m) (by omega)
    rw [f109_l3_succ]
    simp only [f109_u3, Bool.cond_eq_ite, decide_eq_true_eq]
    have hx : r ^^^ 4294967295 < 4294967296 := Nat.xor_lt_two_pow (n := 32) (by omega) (by omega)
    have hmax : IntKind.u32.max = 4294967295 := rfl
    rw [if_neg (by omega), List.drop_eq_nil_of_le (by omega), hmax, xor32 (by omega) (by omega) (by omega) (by omega), w64 (by omega) (by rw [Nat.xor_comm]; show ((r ^^^ 4294967295 : Nat) : Int) ≤ _; omega), Nat.xor_comm]
    rfl
  | succ d ih =>
    intro l r i hb hl hr h1 h2 m hm
    obtain ⟨m, rfl, _⟩ := succ_of (d := 0) (k := m) (by omega)
    have hx := hb.rd i
    rw [f109_l3_succ]
    simp only [f109_u3, Bool.cond_eq_ite, decide_eq_true_eq, Int.toNat_natCast]
    rw [if_pos (by omega), if_pos (by omega), if_pos (by omega), w32 (by omega) (by omega), xor32 (by omega) (by omega) (by omega) (by omega), f109_l7_is 8 _ l _ i 0 (Nat.xor_lt_two_pow (n := 32) (by omega) (by omega)) (by omega) (by omega) m (by omega)]
    rw [w64 (by omega) (by omega), show (i : Int) + 1 = ((i + 1 : Nat) : Int) by omega, ih l _ (i + 1) hb hl (crcBits_lt 8 (Nat.xor_lt_two_pow (n := 32) (by omega) (by omega))) (by omega) (by omega) _ (by omega), rdI_drop (l := l) (i := i) (by omega)]
    rfl
theorem f102_is {k : Nat} {l : List Int} (hb : Bytes l) (hl : l.length < 140737488355328) (hk : 20 * l.length < k) : f102 k l = some ((((crc l : Nat) : Int), ()), ()) := by
  rw [f102_eq]
  exact f102_l3_is l.length l 4294967295 0 hb hl (by omega) (by omega) (by omega) k (by omega)
theorem f109_is {k : Nat} {l : List Int} (hb : Bytes l) (hl : l.length < 140737488355328) (hk : 20 * l.length < k) : f109 k l = some ((((crc l : Nat) : Int), ()), ()) := by
  rw [f109_eq]
  exact f109_l3_is l.length l 4294967295 0 hb hl (by omega) (by omega) (by omega) k (by omega)
end Go.Proofs.Ythjiokbokncpoaa.Rf
