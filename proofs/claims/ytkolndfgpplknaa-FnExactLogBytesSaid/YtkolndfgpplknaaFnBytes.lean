/- What the program's and the reference's functions on bytes come to: numbers put, check sums, frames, commits; under no condition but what each theorem states. -/
import Derived.Test.YtkolndfgpplknaaPlain
import Derived.Test.YtkolndfgpplknaaGx1
import Derived.Test.YtkolndfgpplknaaGx2
import Derived.Test.YtkolndfgpplknaaGx3
import Derived.Test.YtkolndfgpplknaaGx4
namespace Go.Proofs.Ytkolndfgpplknaa.Fn
set_option linter.unusedSimpArgs false
set_option linter.unusedVariables false
open Go.RowKit Go.Proofs.Ytkolndfgpplknaa.Plain Go.Proofs.Ytkolndfgpplknaa.G Go.Proofs.YtkolndfgpplknaaW.PrintWords Go.Proofs.YtkolndfgpplknaaW.PrintLast Go.Proofs.YtkolndfgpplknaaW.PrintMore

theorem succ_of {d k : Nat} (h : d < k) : ∃ m, k = m + 1 ∧ d ≤ m := ⟨k - 1, by omega, by omega⟩
theorem spec_num {n : Int} (h0 : 0 ≤ n) (h1 : n ≤ 281474976710655) : spec_l01Num.f n = some true := by
  unfold spec_l01Num.f
  rw [if_pos h0, decide_eq_true h1]

/-! ### PutVar -/
theorem var_step (n : Nat) : wrap64 (Int.tdiv (n : Int) 128) = ((n / 128 : Nat) : Int) ∨ 9223372036854775807 < n := by
  rcases Nat.lt_or_ge 9223372036854775807 n with h | h
  · exact .inr h
  · left
    rw [tdiv_nn (by omega), w64 (by omega) (by omega)]
    omega
theorem var_byte (n : Nat) : (wrap64 ((Int.tmod (n : Int) 128) + 128)) % 256 = ((n % 128 + 128 : Nat) : Int) := by
  rw [tmod_nn (by omega), w64 (by omega) (by omega)]
  omega
theorem spec_PutVar_l0 (d : Nat) : ∀ (n : Nat) (xs : List Int), n < 128 ^ (d + 1) → n ≤ 281474976710655 → xs.length + d < 140737488355328 → ∀ k, d < k → spec_PutVar.l0 k n xs = some (xs ++ varB n, true) := by
  induction d with
  | zero =>
    intro n xs h1 h2 h3 k hk
    obtain ⟨m, rfl, _⟩ := succ_of hk
    simp only [spec_PutVar.l0]
    rw [if_neg (by omega), if_pos (by omega), varB_small (by omega), show (n : Int) % 256 = n by omega]
  | succ d ih =>
    intro n xs h1 h2 h3 k hk
    obtain ⟨m, rfl, hm⟩ := succ_of hk
    simp only [spec_PutVar.l0]
    by_cases hn : n < 128
    · rw [if_neg (by omega), if_pos (by omega), varB_small hn, show (n : Int) % 256 = n by omega]
    · have h4 : n / 128 < 128 ^ (d + 1) := by
        rw [Nat.div_lt_iff_lt_mul (by omega)]
        rw [Nat.pow_succ] at h1
        exact h1
      rw [if_pos (by omega), if_pos (by omega), (var_step n).resolve_right (by omega), var_byte, ih (n / 128) _ h4 (by omega) (by simp; omega) m (by omega), varB_big hn]
      simp
theorem impl_putVar_l0 (d : Nat) : ∀ (n : Nat) (xs : List Int), n < 128 ^ (d + 1) → n ≤ 281474976710655 → xs.length + d < 140737488355328 → ∀ k, d < k → impl_putVar.l0 k xs n = some (xs ++ varB n) := by
  induction d with
  | zero =>
    intro n xs h1 h2 h3 k hk
    obtain ⟨m, rfl, _⟩ := succ_of hk
    simp only [impl_putVar.l0]
    rw [if_neg (by omega), if_pos (by omega), varB_small (by omega), show (n : Int) % 256 = n by omega]
  | succ d ih =>
    intro n xs h1 h2 h3 k hk
    obtain ⟨m, rfl, hm⟩ := succ_of hk
    simp only [impl_putVar.l0]
    by_cases hn : n < 128
    · rw [if_neg (by omega), if_pos (by omega), varB_small hn, show (n : Int) % 256 = n by omega]
    · have h4 : n / 128 < 128 ^ (d + 1) := by
        rw [Nat.div_lt_iff_lt_mul (by omega)]
        rw [Nat.pow_succ] at h1
        exact h1
      rw [if_pos (by omega), if_pos (by omega), (var_step n).resolve_right (by omega), var_byte, ih (n / 128) _ h4 (by omega) (by simp; omega) m (by omega), varB_big hn]
      simp
theorem spec_PutVar_f {k : Nat} (hk : 10 ≤ k) {xs : List Int} {x : Int} (h0 : 0 ≤ x) (h1 : x ≤ 281474976710655) (hl : xs.length < 140737488355000) : spec_PutVar.f k xs x = some (xs ++ varB x.toNat, true) := by
  obtain ⟨n, rfl⟩ := Int.eq_ofNat_of_zero_le h0
  unfold spec_PutVar.f
  rw [spec_num h0 h1]
  simp only [Option.bind_some, if_true, List.length_nil, List.nil_append]
  rw [if_pos (by omega), spec_PutVar_l0 6 n xs (by omega) (by omega) (by omega) k (by omega)]
  rfl
theorem impl_putVar_f {k : Nat} (hk : 10 ≤ k) {xs : List Int} {x : Int} (h0 : 0 ≤ x) (h1 : x ≤ 281474976710655) (hl : xs.length < 140737488355000) : impl_putVar.f k xs x = some (xs ++ varB x.toNat) := by
  obtain ⟨n, rfl⟩ := Int.eq_ofNat_of_zero_le h0
  unfold impl_putVar.f
  rw [impl_putVar_l0 6 n xs (by omega) (by omega) (by omega) k (by omega)]
  rfl

/-! ### PutFix -/
def divs (n : Int) : Nat → Int
  | 0 => n
  | j + 1 => divs (n / 256) j
theorem divs_pow (j : Nat) : ∀ n : Int, divs n j = n / 256 ^ j := by
  induction j with
  | zero => intro n; simp [divs]
  | succ j ih =>
    intro n
    rw [divs, ih, Int.ediv_ediv_of_nonneg (by omega), Int.pow_succ, Int.mul_comm]
theorem spec_PutFix_l1 (j : Nat) : ∀ (x : Int) (xs : List Int) (q y i : Int), 0 ≤ y → y ≤ 281474976710655 → 0 ≤ i → q - i = j → q ≤ 5 → 0 ≤ q → xs.length < 140737488355328 → ∀ k, j < k →
    spec_PutFix.l1 k x xs q y i = spec_PutFix.l0 (k - j - 1) x (xs ++ [divs y j % 256]) (q - 1) := by
  induction j with
  | zero =>
    intro x xs q y i h0 h1 h2 h3 h4 h5 hl k hk
    obtain ⟨m, rfl, _⟩ := succ_of hk
    simp only [spec_PutFix.l1]
    rw [if_neg (by omega), if_pos hl, tmod_nn h0, w64 (by omega) (by omega), show y % 256 % 256 = y % 256 by omega]
    rfl
  | succ j ih =>
    intro x xs q y i h0 h1 h2 h3 h4 h5 hl k hk
    obtain ⟨m, rfl, _⟩ := succ_of hk
    simp only [spec_PutFix.l1]
    rw [if_pos (by omega), tdiv_nn h0, w64 (by omega) (by omega), w64 (by omega) (by omega), ih x xs q (y / 256) (i + 1) (by omega) (by omega) (by omega) (by omega) h4 h5 hl m (by omega)]
    rw [show m + 1 - (j + 1) - 1 = m - j - 1 by omega, divs]
theorem spec_PutFix_l0 {k : Nat} (hk : 40 ≤ k) {x : Int} {xs : List Int} (h0 : 0 ≤ x) (h1 : x ≤ 281474976710655) (hl : xs.length < 140737488355000) : spec_PutFix.l0 k x xs 5 = some (xs ++ fixB x.toNat, true) := by
  obtain ⟨n, rfl⟩ := Int.eq_ofNat_of_zero_le h0
  have step : ∀ (j : Nat) (ys : List Int) (k : Nat), j ≤ 5 → j + 1 < k → ys.length < 140737488355328 → spec_PutFix.l0 k n ys j = spec_PutFix.l0 (k - j - 2) n (ys ++ [divs n j % 256]) (j - 1) := by
    intro j ys k hj hk hy
    obtain ⟨m, rfl, _⟩ := succ_of (d := j + 1) hk
    simp only [spec_PutFix.l0]
    rw [if_pos (by omega), spec_PutFix_l1 j n ys j n 0 (by omega) h1 (by omega) (by omega) (by omega) (by omega) hy m (by omega)]
    rw [show m + 1 - j - 2 = m - j - 1 by omega]
  have s5 := step 5 xs k (by omega) (by omega) (by omega)
  have s4 := step 4 (xs ++ [divs n 5 % 256]) (k - 5 - 2) (by omega) (by omega) (by simp; omega)
  have s3 := step 3 (xs ++ [divs n 5 % 256] ++ [divs n 4 % 256]) (k - 5 - 2 - 4 - 2) (by omega) (by omega) (by simp; omega)
  have s2 := step 2 (xs ++ [divs n 5 % 256] ++ [divs n 4 % 256] ++ [divs n 3 % 256]) (k - 5 - 2 - 4 - 2 - 3 - 2) (by omega) (by omega) (by simp; omega)
  have s1 := step 1 (xs ++ [divs n 5 % 256] ++ [divs n 4 % 256] ++ [divs n 3 % 256] ++ [divs n 2 % 256]) (k - 5 - 2 - 4 - 2 - 3 - 2 - 2 - 2) (by omega) (by omega) (by simp; omega)
  have s0 := step 0 (xs ++ [divs n 5 % 256] ++ [divs n 4 % 256] ++ [divs n 3 % 256] ++ [divs n 2 % 256] ++ [divs n 1 % 256]) (k - 5 - 2 - 4 - 2 - 3 - 2 - 2 - 2 - 1 - 2) (by omega) (by omega) (by simp; omega)
  have e5 : ((5 : Nat) : Int) = 5 := rfl
  rw [e5] at s5
  rw [s5]
  have e4 : (5 : Int) - 1 = ((4 : Nat) : Int) := rfl
  rw [e4, s4]
  have e3 : ((4 : Nat) : Int) - 1 = ((3 : Nat) : Int) := rfl
  rw [e3, s3]
  have e2 : ((3 : Nat) : Int) - 1 = ((2 : Nat) : Int) := rfl
  rw [e2, s2]
  have e1 : ((2 : Nat) : Int) - 1 = ((1 : Nat) : Int) := rfl
  rw [e1, s1]
  have e0 : ((1 : Nat) : Int) - 1 = ((0 : Nat) : Int) := rfl
  rw [e0, s0]
  obtain ⟨m, hm, _⟩ := succ_of (d := 0) (k := k - 5 - 2 - 4 - 2 - 3 - 2 - 2 - 2 - 1 - 2 - 0 - 2) (by omega)
  rw [hm]
  simp only [spec_PutFix.l0]
  rw [if_neg (by omega)]
  have d5 : divs (n : Int) 5 = ((n / 1099511627776 : Nat) : Int) := by rw [divs_pow]; omega
  have d4 : divs (n : Int) 4 = ((n / 4294967296 : Nat) : Int) := by rw [divs_pow]; omega
  have d3 : divs (n : Int) 3 = ((n / 16777216 : Nat) : Int) := by rw [divs_pow]; omega
  have d2 : divs (n : Int) 2 = ((n / 65536 : Nat) : Int) := by rw [divs_pow]; omega
  have d1 : divs (n : Int) 1 = ((n / 256 : Nat) : Int) := by rw [divs_pow]; omega
  have d0 : divs (n : Int) 0 = (n : Int) := rfl
  rw [d5, d4, d3, d2, d1, d0]
  simp [fixB]
theorem spec_PutFix_f {k : Nat} (hk : 40 ≤ k) {xs : List Int} {x : Int} (h0 : 0 ≤ x) (h1 : x ≤ 281474976710655) (hl : xs.length < 140737488355000) : spec_PutFix.f k xs x = some (xs ++ fixB x.toNat, true) := by
  unfold spec_PutFix.f
  rw [spec_num h0 h1]
  simp only [Option.bind_some, if_true, List.length_nil, List.nil_append]
  rw [if_pos (by omega), spec_PutFix_l0 hk h0 h1 hl]
theorem impl_putFix_f {k : Nat} (hk : 40 ≤ k) {xs : List Int} {x : Int} (h0 : 0 ≤ x) (h1 : x ≤ 281474976710655) (hl : xs.length < 140737488355000) : impl_putFix.f k xs x = some (xs ++ fixB x.toNat) := by
  obtain ⟨n, rfl⟩ := Int.eq_ofNat_of_zero_le h0
  have step : ∀ (j : Nat) (ys : List Int) (k : Nat), j ≤ 5 → 0 < k → ys.length < 140737488355328 → impl_putFix.l0 k ys n j = impl_putFix.l0 (k - 1) (ys ++ [((n : Int) / 256 ^ j) % 256]) n (j - 1) := by
    intro j ys k hj hk hy
    obtain ⟨m, rfl, _⟩ := succ_of (d := 0) hk
    simp only [impl_putFix.l0]
    have e : shr .i64 (n : Int) (8 * (j : Int)) = (n : Int) / 256 ^ j := by
      unfold shr
      rw [show min (8 * (j : Int)).toNat IntKind.i64.bits = 8 * j by simp only [IntKind.bits]; omega, Int.pow_mul]
      rfl
    rw [if_pos (by omega), w64 (by omega) (by omega), w64 (by omega) (by omega), if_pos (by omega), if_pos hy, e]
    rfl
  have s5 := step 5 xs k (by omega) (by omega) (by omega)
  have s4 := step 4 _ (k - 1) (by omega) (by omega) (show (xs ++ [((n : Int) / 256 ^ 5) % 256]).length < _ by simp; omega)
  have s3 := step 3 _ (k - 1 - 1) (by omega) (by omega) (show (xs ++ [((n : Int) / 256 ^ 5) % 256] ++ [((n : Int) / 256 ^ 4) % 256]).length < _ by simp; omega)
  have s2 := step 2 _ (k - 1 - 1 - 1) (by omega) (by omega) (show (xs ++ [((n : Int) / 256 ^ 5) % 256] ++ [((n : Int) / 256 ^ 4) % 256] ++ [((n : Int) / 256 ^ 3) % 256]).length < _ by simp; omega)
  have s1 := step 1 _ (k - 1 - 1 - 1 - 1) (by omega) (by omega) (show (xs ++ [((n : Int) / 256 ^ 5) % 256] ++ [((n : Int) / 256 ^ 4) % 256] ++ [((n : Int) / 256 ^ 3) % 256] ++ [((n : Int) / 256 ^ 2) % 256]).length < _ by simp; omega)
  have s0 := step 0 _ (k - 1 - 1 - 1 - 1 - 1) (by omega) (by omega) (show (xs ++ [((n : Int) / 256 ^ 5) % 256] ++ [((n : Int) / 256 ^ 4) % 256] ++ [((n : Int) / 256 ^ 3) % 256] ++ [((n : Int) / 256 ^ 2) % 256] ++ [((n : Int) / 256 ^ 1) % 256]).length < _ by simp; omega)
  unfold impl_putFix.f
  have e5 : ((5 : Nat) : Int) = 5 := rfl
  rw [e5] at s5
  rw [s5]
  have e4 : (5 : Int) - 1 = ((4 : Nat) : Int) := rfl
  rw [e4, s4]
  have e3 : ((4 : Nat) : Int) - 1 = ((3 : Nat) : Int) := rfl
  rw [e3, s3]
  have e2 : ((3 : Nat) : Int) - 1 = ((2 : Nat) : Int) := rfl
  rw [e2, s2]
  have e1 : ((2 : Nat) : Int) - 1 = ((1 : Nat) : Int) := rfl
  rw [e1, s1]
  have e0 : ((1 : Nat) : Int) - 1 = ((0 : Nat) : Int) := rfl
  rw [e0, s0]
  obtain ⟨m, hm, _⟩ := succ_of (d := 0) (k := k - 1 - 1 - 1 - 1 - 1 - 1) (by omega)
  rw [hm]
  simp only [impl_putFix.l0]
  rw [if_neg (by omega)]
  have d5 : (n : Int) / 256 ^ 5 = ((n / 1099511627776 : Nat) : Int) := by omega
  have d4 : (n : Int) / 256 ^ 4 = ((n / 4294967296 : Nat) : Int) := by omega
  have d3 : (n : Int) / 256 ^ 3 = ((n / 16777216 : Nat) : Int) := by omega
  have d2 : (n : Int) / 256 ^ 2 = ((n / 65536 : Nat) : Int) := by omega
  have d1 : (n : Int) / 256 ^ 1 = ((n / 256 : Nat) : Int) := by omega
  have d0 : (n : Int) / 256 ^ 0 = (n : Int) := by omega
  rw [d5, d4, d3, d2, d1, d0]
  simp [fixB]

/-! ### Crc -/
theorem spec_Crc_l1 (j : Nat) : ∀ (r : Nat) (l : List Int) (p i : Int), r < 4294967296 → 0 ≤ i → 8 - i = j → ∀ k, j < k → spec_Crc.l1 k l r p i = spec_Crc.l0 (k - j - 1) l (crcBits j r : Nat) (wrap64 (p + 1)) := by
  induction j with
  | zero =>
    intro r l p i hr h0 h1 k hk
    obtain ⟨m, rfl, _⟩ := succ_of hk
    simp only [spec_Crc.l1]
    rw [if_neg (by omega)]
    rfl
  | succ j ih =>
    intro r l p i hr h0 h1 k hk
    obtain ⟨m, rfl, _⟩ := succ_of hk
    simp only [spec_Crc.l1]
    rw [if_pos (by omega), w64 (x := i + 1) (by omega) (by omega), tdiv_nn (by omega), tmod_nn (by omega), w64 (x := (r : Int) / 2) (by omega) (by omega), show m + 1 - (j + 1) - 1 = m - j - 1 by omega]
    by_cases h2 : r % 2 = 1
    · rw [if_pos (by omega), show (r : Int) / 2 = ((r / 2 : Nat) : Int) by omega, xor64 (by omega) (by omega) (by omega) (by omega)]
      have e : crcBit r = (((r / 2 : Nat) : Int).toNat ^^^ (3988292384 : Int).toNat) := by unfold crcBit; rw [if_pos h2]; rfl
      rw [← e, ih (crcBit r) l p (i + 1) (crcBit_lt hr) (by omega) (by omega) m (by omega)]
      rfl
    · have e : crcBit r = r / 2 := by unfold crcBit; rw [if_neg h2]
      rw [if_neg (by omega), show (r : Int) / 2 = ((r / 2 : Nat) : Int) by omega, ← e, ih (crcBit r) l p (i + 1) (crcBit_lt hr) (by omega) (by omega) m (by omega)]
      rfl
theorem impl_Crc_l1 (j : Nat) : ∀ (r : Nat) (l : List Int) (n p i : Int), r < 4294967296 → 0 ≤ i → 8 - i = j → ∀ k, j < k → impl_Crc.l1 k r l n p i = impl_Crc.l0 (k - j - 1) (crcBits j r : Nat) l n (wrap64 (p + 1)) := by
  induction j with
  | zero =>
    intro r l n p i hr h0 h1 k hk
    obtain ⟨m, rfl, _⟩ := succ_of hk
    simp only [impl_Crc.l1]
    rw [if_neg (by omega)]
    rfl
  | succ j ih =>
    intro r l n p i hr h0 h1 k hk
    obtain ⟨m, rfl, _⟩ := succ_of hk
    simp only [impl_Crc.l1]
    rw [if_pos (by omega), w64 (x := i + 1) (by omega) (by omega), and32_one (by omega) (by omega), show m + 1 - (j + 1) - 1 = m - j - 1 by omega]
    by_cases h2 : r % 2 = 1
    · rw [if_pos (by omega), show (r : Int) / 2 = ((r / 2 : Nat) : Int) by omega, xor32 (by omega) (by omega) (by omega) (by omega)]
      have e : crcBit r = (((r / 2 : Nat) : Int).toNat ^^^ (3988292384 : Int).toNat) := by unfold crcBit; rw [if_pos h2]; rfl
      rw [← e, ih (crcBit r) l n p (i + 1) (crcBit_lt hr) (by omega) (by omega) m (by omega)]
      rfl
    · have e : crcBit r = r / 2 := by unfold crcBit; rw [if_neg h2]
      rw [if_neg (by omega), show (r : Int) / 2 = ((r / 2 : Nat) : Int) by omega, ← e, ih (crcBit r) l n p (i + 1) (crcBit_lt hr) (by omega) (by omega) m (by omega)]
      rfl
theorem rd_drop {l : List Int} {i : Int} (h0 : 0 ≤ i) (h1 : i < l.length) : l.drop i.toNat = rd l i :: l.drop (i + 1).toNat := by
  rw [List.drop_eq_getElem_cons (by omega), show (i + 1).toNat = i.toNat + 1 by omega]
  unfold rd
  rw [List.getD_eq_getElem?_getD, List.getElem?_eq_getElem (by omega)]
  rfl
theorem spec_Crc_l0 (d : Nat) : ∀ (l : List Int) (r : Nat) (i : Int), Bytes l → l.length ≤ 9223372036854775800 → r < 4294967296 → 0 ≤ i → l.length - i = d → ∀ k, 10 * d + 1 ≤ k →
    spec_Crc.l0 k l r i = some ((((l.drop i.toNat).foldl crcByte r ^^^ 4294967295 : Nat) : Int)) := by
  induction d with
  | zero =>
    intro l r i hb hl hr h0 h1 k hk
    obtain ⟨m, rfl, _⟩ := succ_of (d := 0) (k := k) (by omega)
    simp only [spec_Crc.l0]
    rw [if_neg (by omega), List.drop_eq_nil_of_le (by omega), xor64 (by omega) (by omega) (by omega) (by omega)]
    rfl
  | succ d ih =>
    intro l r i hb hl hr h0 h1 k hk
    obtain ⟨m, rfl, _⟩ := succ_of (d := 0) (k := k) (by omega)
    have hx := hb.rd i
    simp only [spec_Crc.l0]
    rw [if_pos (by omega), if_pos (by omega), w64 (by omega) (by omega), xor64 (by omega) (by omega) (by omega) (by omega), spec_Crc_l1 8 _ l i 0 (Nat.xor_lt_two_pow (n := 32) (by omega) (by omega)) (by omega) (by omega) m (by omega)]
    rw [w64 (by omega) (by omega), ih l _ (i + 1) hb hl (crcBits_lt 8 (Nat.xor_lt_two_pow (n := 32) (by omega) (by omega))) (by omega) (by omega) _ (by omega), rd_drop h0 (by omega)]
    rfl
theorem impl_Crc_l0 (d : Nat) : ∀ (l : List Int) (r : Nat) (i : Int), Bytes l → l.length ≤ 9223372036854775800 → r < 4294967296 → 0 ≤ i → l.length - i = d → ∀ k, 10 * d + 1 ≤ k →
    impl_Crc.l0 k r l (l.length : Int) i = some ((((l.drop i.toNat).foldl crcByte r ^^^ 4294967295 : Nat) : Int)) := by
  induction d with
  | zero =>
    intro l r i hb hl hr h0 h1 k hk
    obtain ⟨m, rfl, _⟩ := succ_of (d := 0) (k := k) (by omega)
    simp only [impl_Crc.l0]
    have hx : r ^^^ 4294967295 < 4294967296 := Nat.xor_lt_two_pow (n := 32) (by omega) (by omega)
    rw [if_neg (by omega), List.drop_eq_nil_of_le (by omega), xor32 (by omega) (by omega) (by omega) (by omega), w64 (by omega) (by rw [Nat.xor_comm]; show ((r ^^^ 4294967295 : Nat) : Int) ≤ _; omega), Nat.xor_comm]
    rfl
  | succ d ih =>
    intro l r i hb hl hr h0 h1 k hk
    obtain ⟨m, rfl, _⟩ := succ_of (d := 0) (k := k) (by omega)
    have hx := hb.rd i
    simp only [impl_Crc.l0]
    rw [if_pos (by omega), if_pos (by omega), if_pos (by omega), show rd l i % 4294967296 = rd l i by omega, xor32 (by omega) (by omega) (by omega) (by omega), impl_Crc_l1 8 _ l _ i 0 (Nat.xor_lt_two_pow (n := 32) (by omega) (by omega)) (by omega) (by omega) m (by omega)]
    rw [w64 (by omega) (by omega), ih l _ (i + 1) hb hl (crcBits_lt 8 (Nat.xor_lt_two_pow (n := 32) (by omega) (by omega))) (by omega) (by omega) _ (by omega), rd_drop h0 (by omega)]
    rfl
theorem spec_Crc_f {k : Nat} {l : List Int} (hb : Bytes l) (hl : l.length < 140737488355328) (hk : 10 * l.length + 1 ≤ k) : spec_Crc.f k l = some ((crc l : Nat) : Int) := by
  unfold spec_Crc.f
  exact spec_Crc_l0 l.length l 4294967295 0 hb (by omega) (by omega) (by omega) (by omega) k hk
theorem impl_Crc_f {k : Nat} {l : List Int} (hb : Bytes l) (hl : l.length < 140737488355328) (hk : 10 * l.length + 1 ≤ k) : impl_Crc.f k l = some ((crc l : Nat) : Int) := by
  unfold impl_Crc.f
  exact impl_Crc_l0 l.length l 4294967295 0 hb (by omega) (by omega) (by omega) (by omega) k hk

/-! ### FrameBytes -/
theorem spec_FrameBytes_f {k : Nat} {kind : Int} {d : List Int} (h0 : 1 ≤ kind) (h1 : kind ≤ 3) (hb : Bytes d) (hl : d.length ≤ 60000) (hk : 1000000 ≤ k) : spec_FrameBytes.f k kind d = some (frameB kind d, true) := by
  have hh := head_bytes (kind := kind) (by omega) (by omega) d
  have hc1 := crc_lt hh
  have hc2 := crc_lt hb
  unfold spec_FrameBytes.f spec_FrameOk.f
  rw [if_pos (by omega), if_pos (by omega), decide_eq_true (by omega : (d.length : Int) ≤ 60000)]
  simp only [Option.bind_some, if_true]
  rw [show kind % 256 = kind by omega, spec_PutFix_f (by omega) (by omega) (by omega) (by simp)]
  simp only [Option.bind_some, Int.toNat_natCast]
  rw [spec_Crc_f hh (by simp [fixB_length]) (by simp [fixB_length]; omega)]
  simp only [Option.bind_some]
  rw [spec_PutFix_f (by omega) (by omega) (by omega) (by simp [fixB_length])]
  simp only [Option.bind_some, Int.toNat_natCast]
  rw [spec_Crc_f hb (by omega) (by omega)]
  simp only [Option.bind_some]
  rw [spec_PutFix_f (by omega) (by omega) (by omega) (by simp [fixB_length])]
  simp only [Option.bind_some, Int.toNat_natCast]
  rw [if_pos (by simp [fixB_length]; omega)]
  rfl
theorem impl_FrameBytes_f {k : Nat} {kind : Int} {d : List Int} (h0 : 1 ≤ kind) (h1 : kind ≤ 3) (hb : Bytes d) (hl : d.length ≤ 60000) (hk : 1000000 ≤ k) : impl_FrameBytes.f k kind d = some (frameB kind d, true) := by
  have hh := head_bytes (kind := kind) (by omega) (by omega) d
  have hc1 := crc_lt hh
  have hc2 := crc_lt hb
  unfold impl_FrameBytes.f impl_FrameOk.f impl_isFrameKind.f
  rw [if_pos (by omega), decide_eq_true h1]
  simp only [Option.bind_some, if_true]
  rw [decide_eq_true (by omega : (d.length : Int) ≤ 60000)]
  simp only [if_true]
  rw [show kind % 256 = kind by omega, impl_putFix_f (by omega) (by omega) (by omega) (by simp)]
  simp only [Option.bind_some, Int.toNat_natCast]
  rw [impl_Crc_f hh (by simp [fixB_length]) (by simp [fixB_length]; omega)]
  simp only [Option.bind_some]
  rw [impl_putFix_f (by omega) (by omega) (by omega) (by simp [fixB_length])]
  simp only [Option.bind_some, Int.toNat_natCast]
  rw [impl_Crc_f hb (by omega) (by omega)]
  simp only [Option.bind_some]
  rw [impl_putFix_f (by omega) (by omega) (by omega) (by simp [fixB_length])]
  simp only [Option.bind_some, Int.toNat_natCast]
  rw [if_pos (by simp [fixB_length]; omega)]
  rfl

/-! ### commits -/
def commitOk (e g s : Int) (has : Bool) (v : Int) : Prop := 1 ≤ e ∧ e ≤ 1000000 ∧ 1 ≤ g ∧ g ≤ e ∧ 0 ≤ s ∧ s ≤ 4294967295 ∧ 0 ≤ v ∧ v ≤ 4294967295 ∧ (has = true ∨ v = 0)
instance (e g s : Int) (has : Bool) (v : Int) : Decidable (commitOk e g s has v) := by unfold commitOk; infer_instance
def bitI (b : Bool) : Nat := if b then 1 else 0
def commitD (e g s : Int) (has : Bool) (v : Int) : List Int := varB e.toNat ++ varB g.toNat ++ varB s.toNat ++ varB (bitI has) ++ varB v.toNat
theorem spec_l15Sum_f (a : Int) : spec_l15Sum.f a = some (decide (0 ≤ a ∧ a ≤ 4294967295)) := by
  unfold spec_l15Sum.f
  split <;> congr 1 <;> rw [Bool.eq_iff_iff] <;> simp only [decide_eq_true_eq, Bool.false_eq_true, false_iff] <;> omega
theorem some_dec {b : Bool} {p : Prop} [Decidable p] (h : b = true ↔ p) : some b = some (decide p) := by
  congr 1
  rw [Bool.eq_iff_iff, decide_eq_true_eq]
  exact h
theorem spec_CommitOk_f (e g s : Int) (has : Bool) (v : Int) : spec_CommitOk.f e g s has v = some (decide (commitOk e g s has v)) := by
  unfold spec_CommitOk.f
  rw [spec_l15Sum_f, spec_l15Sum_f]
  simp only [Option.bind_some, decide_eq_true_eq]
  cases has <;> (repeat' split) <;> refine some_dec ?_ <;> unfold commitOk <;> simp only [beq_iff_eq, Bool.false_eq_true, false_iff, true_iff, true_or, false_or, and_true, or_true, eq_self, reduceCtorEq] <;> (try simp at *) <;> omega
theorem impl_CommitOk_f (e g s : Int) (has : Bool) (v : Int) : impl_CommitOk.f e g s has v = some (decide (commitOk e g s has v)) := by
  unfold impl_CommitOk.f
  cases has <;> (repeat' split) <;> refine some_dec ?_ <;> unfold commitOk <;> simp only [beq_iff_eq, Bool.false_eq_true, false_iff, true_iff, true_or, false_or, and_true, or_true, eq_self, reduceCtorEq] <;> (try simp at *) <;> omega
theorem commitD_bytes (e g s : Int) (has : Bool) (v : Int) : Bytes (commitD e g s has v) := ((((varB_bytes _).append (varB_bytes _)).append (varB_bytes _)).append (varB_bytes _)).append (varB_bytes _)
theorem commitD_len {e g s : Int} {has : Bool} {v : Int} (h : commitOk e g s has v) : (commitD e g s has v).length ≤ 35 := by
  obtain ⟨h1, h2, h3, h4, h5, h6, h7, h8, _⟩ := h
  have l1 := varB_len7 (n := e.toNat) (by omega)
  have l2 := varB_len7 (n := g.toNat) (by omega)
  have l3 := varB_len7 (n := s.toNat) (by omega)
  have l4 := varB_len7 (n := bitI has) (by unfold bitI; split <;> omega)
  have l5 := varB_len7 (n := v.toNat) (by omega)
  simp only [commitD, List.length_append]
  omega
def commitB (e g s : Int) (has : Bool) (v : Int) : List Int := frameB 3 (commitD e g s has v)
theorem spec_l15Data_f {k : Nat} (hk : 100 ≤ k) {e g s : Int} {has : Bool} {v : Int} (h : commitOk e g s has v) : spec_l15Data.f k e g s has v = some (commitD e g s has v) := by
  obtain ⟨h1, h2, h3, h4, h5, h6, h7, h8, _⟩ := h
  have l1 := varB_len7 (n := e.toNat) (by omega)
  have l2 := varB_len7 (n := g.toNat) (by omega)
  have l3 := varB_len7 (n := s.toNat) (by omega)
  have l4 := varB_len7 (n := bitI has) (by unfold bitI; split <;> omega)
  have eb : spec_l15Bit.f has = some ((bitI has : Nat) : Int) := by unfold spec_l15Bit.f bitI; cases has <;> rfl
  have hb : bitI has ≤ 1 := by unfold bitI; split <;> omega
  unfold spec_l15Data.f
  rw [eb]
  simp only [Option.bind_some]
  have step : ∀ (j : Nat) (x : Int) (xs : List Int) (k : Nat), j < 5 → 20 < k → 0 ≤ x → x ≤ 281474976710655 → xs.length < 140737488355000 → rd [e, g, s, ((bitI has : Nat) : Int), v] j = x → spec_l15Data.l0 k xs [e, g, s, ((bitI has : Nat) : Int), v] ((5 : Nat) : Int) j = spec_l15Data.l0 (k - 1) (xs ++ varB x.toNat) [e, g, s, ((bitI has : Nat) : Int), v] ((5 : Nat) : Int) ((j + 1 : Nat) : Int) := by
    intro j x xs k hj hk hx0 hx1 hl hr
    obtain ⟨m, rfl, _⟩ := succ_of hk
    simp only [spec_l15Data.l0]
    rw [if_pos (by omega), if_pos (by omega), if_pos (by show (j : Int) < ((5 : Nat) : Int); omega), hr, spec_PutVar_f (by omega) hx0 hx1 hl]
    simp only [Option.bind_some]
    rw [w64 (by omega) (by omega)]
    rfl
  have s0 := step 0 e [] k (by omega) (by omega) (by omega) (by omega) (by simp) rfl
  have s1 := step 1 g _ (k - 1) (by omega) (by omega) (by omega) (by omega) (show ([] ++ varB e.toNat).length < _ by simp; omega) rfl
  have s2 := step 2 s _ (k - 1 - 1) (by omega) (by omega) (by omega) (by omega) (show ([] ++ varB e.toNat ++ varB g.toNat).length < _ by simp; omega) rfl
  have s3 := step 3 ((bitI has : Nat) : Int) _ (k - 1 - 1 - 1) (by omega) (by omega) (by omega) (by omega) (show ([] ++ varB e.toNat ++ varB g.toNat ++ varB s.toNat).length < _ by simp; omega) rfl
  have s4 := step 4 v _ (k - 1 - 1 - 1 - 1) (by omega) (by omega) (by omega) (by omega) (show ([] ++ varB e.toNat ++ varB g.toNat ++ varB s.toNat ++ varB ((bitI has : Nat) : Int).toNat).length < _ by simp; omega) rfl
  have e0 : (([e, g, s, ((bitI has : Nat) : Int), v] : List Int).length : Int) = ((5 : Nat) : Int) := rfl
  rw [e0]
  rw [show (0 : Int) = ((0 : Nat) : Int) from rfl, s0, s1, s2, s3, s4]
  obtain ⟨m, hm, _⟩ := succ_of (d := 0) (k := k - 1 - 1 - 1 - 1 - 1) (by omega)
  rw [hm]
  simp only [spec_l15Data.l0]
  rw [if_neg (by omega)]
  rfl
theorem spec_CommitBytes_f {k : Nat} (hk : 1000000 ≤ k) (e g s : Int) (has : Bool) (v : Int) : spec_CommitBytes.f k e g s has v = some (if commitOk e g s has v then (commitB e g s has v, true) else ([], false)) := by
  unfold spec_CommitBytes.f
  rw [spec_CommitOk_f]
  simp only [Option.bind_some]
  by_cases h : commitOk e g s has v
  · have hl := commitD_len h
    rw [decide_eq_true h, if_pos rfl, if_pos h, spec_l15Data_f (by omega) h]
    simp only [Option.bind_some]
    rw [spec_FrameBytes_f (by omega) (by omega) (commitD_bytes e g s has v) (by omega) hk]
    rfl
  · rw [decide_eq_false h, if_neg (by simp), if_neg h]
theorem impl_CommitBytes_f {k : Nat} (hk : 1000001 ≤ k) (e g s : Int) (has : Bool) (v : Int) : impl_CommitBytes.f k e g s has v = some (if commitOk e g s has v then (commitB e g s has v, true) else ([], false)) := by
  unfold impl_CommitBytes.f
  rw [impl_CommitOk_f]
  simp only [Option.bind_some]
  by_cases h : commitOk e g s has v
  · have hl := commitD_len h
    rw [decide_eq_true h, if_pos rfl, if_pos h]
    obtain ⟨h1, h2, h3, h4, h5, h6, h7, h8, _⟩ := h
    have l1 := varB_len7 (n := e.toNat) (by omega)
    have l2 := varB_len7 (n := g.toNat) (by omega)
    have l3 := varB_len7 (n := s.toNat) (by omega)
    have l4 := varB_len7 (n := bitI has) (by unfold bitI; split <;> omega)
    have hb : bitI has ≤ 1 := by unfold bitI; split <;> omega
    have ej : ∀ k, 1000000 < k → impl_CommitBytes.j0 k ((bitI has : Nat) : Int) e g s has v = some (commitB e g s has v, true) := by
      intro k hk
      obtain ⟨m, rfl, _⟩ := succ_of hk
      simp only [impl_CommitBytes.j0]
      rw [impl_putVar_f (by omega) (by omega) (by omega) (by simp)]
      simp only [Option.bind_some, List.nil_append]
      rw [impl_putVar_f (by omega) (by omega) (by omega) (by omega)]
      simp only [Option.bind_some]
      rw [impl_putVar_f (by omega) (by omega) (by omega) (by simp; omega)]
      simp only [Option.bind_some]
      rw [impl_putVar_f (by omega) (by omega) (by omega) (by simp; omega)]
      simp only [Option.bind_some]
      rw [impl_putVar_f (by omega) (by omega) (by omega) (by simp; omega)]
      simp only [Option.bind_some]
      have ed : varB e.toNat ++ varB g.toNat ++ varB s.toNat ++ varB ((bitI has : Nat) : Int).toNat ++ varB v.toNat = commitD e g s has v := rfl
      rw [ed, impl_FrameBytes_f (by omega) (by omega) (commitD_bytes e g s has v) (by omega) (by omega)]
      rfl
    cases has
    · exact ej k hk
    · exact ej k hk
  · rw [decide_eq_false h, if_neg (by simp), if_neg h]
end Go.Proofs.Ytkolndfgpplknaa.Fn
