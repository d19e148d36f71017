/- Numbers put in six bytes, frames put, and the reference's reader of frames. -/
import Derived.Test.YthjiokbokncpoaaRfPe
set_option linter.unusedSimpArgs false
set_option linter.unusedVariables false
namespace Go.Proofs.Ythjiokbokncpoaa.Rf
open Go

def divs (n : Int) : Nat → Int
  | 0 => n
  | j + 1 => divs (n / 256) j
theorem divs_pow (j : Nat) : ∀ n : Int, divs n j = n / 256 ^ j := by
  induction j with
  | zero => intro n; simp [divs]
  | succ j ih =>
    intro n
    rw [divs, ih, Int.ediv_ediv_of_nonneg (by omega), Int.pow_succ, Int.mul_comm]
theorem f143_l9_is {k' : Nat} {a0 : List Int} {a1 : Int} (j : Nat) : ∀ (x : Int) (xs : List Int) (q y i : Int), 0 ≤ y → y ≤ 281474976710655 → 0 ≤ i → q - i = j → q ≤ 5 → 0 ≤ q → xs.length < 140737488355328 → ∀ k, j < k →
    f143_l9 k' k a0 a1 x q y i xs = f143_l5 k' (k - j - 1) a0 a1 x (q - 1) (xs ++ [divs y j % 256]) := by
  induction j with
  | zero =>
    intro x xs q y i h0 h1 h2 h3 h4 h5 hl k hk
    obtain ⟨m, rfl, _⟩ := succ_of hk
    rw [f143_l9_succ]
    simp only [f143_u9, Bool.cond_eq_ite, decide_eq_true_eq, List.length_singleton]
    rw [if_neg (by omega), if_pos (by omega), tmod_nn h0, w64 (by omega) (by omega), wrap8, show y % 256 % 256 = y % 256 by omega]
    rfl
  | succ j ih =>
    intro x xs q y i h0 h1 h2 h3 h4 h5 hl k hk
    obtain ⟨m, rfl, _⟩ := succ_of hk
    rw [f143_l9_succ]
    simp only [f143_u9, Bool.cond_eq_ite, decide_eq_true_eq, List.length_singleton]
    rw [if_pos (by omega), tdiv_nn h0, w64 (by omega) (by omega), w64 (by omega) (by omega), ih x xs q (y / 256) (i + 1) (by omega) (by omega) (by omega) (by omega) h4 h5 hl m (by omega)]
    rw [show m + 1 - (j + 1) - 1 = m - j - 1 by omega, divs]
theorem f143_l5_is {k' k : Nat} {a0 : List Int} {a1 : Int} (hk : 40 ≤ k) {x : Int} {xs : List Int} (h0 : 0 ≤ x) (h1 : x ≤ 281474976710655) (hl : xs.length < 140737488355000) : f143_l5 k' k a0 a1 x 5 xs = some ((xs ++ fixB x.toNat, true, ()), ()) := by
  obtain ⟨n, rfl⟩ := Int.eq_ofNat_of_zero_le h0
  have step : ∀ (j : Nat) (ys : List Int) (k : Nat), j ≤ 5 → j + 1 < k → ys.length < 140737488355328 → f143_l5 k' k a0 a1 n j ys = f143_l5 k' (k - j - 2) a0 a1 n (j - 1) (ys ++ [divs n j % 256]) := by
    intro j ys k hj hk hy
    obtain ⟨m, rfl, _⟩ := succ_of (d := j + 1) hk
    rw [f143_l5_succ]
    simp only [f143_u5, Bool.cond_eq_ite, decide_eq_true_eq]
    rw [if_pos (by omega), f143_l9_is j n ys j n 0 (by omega) h1 (by omega) (by omega) (by omega) (by omega) hy m (by omega)]
    rw [show m + 1 - j - 2 = m - j - 1 by omega]
  have s5 := step 5 xs k (by omega) (by omega) (by omega)
  have s4 := step 4 (xs ++ [divs n 5 % 256]) (k - 5 - 2) (by omega) (by omega) (by simp; omega)
  have s3 := step 3 (xs ++ [divs n 5 % 256] ++ [divs n 4 % 256]) (k - 5 - 2 - 4 - 2) (by omega) (by omega) (by simp; omega)
  have s2 := step 2 (xs ++ [divs n 5 % 256] ++ [divs n 4 % 256] ++ [divs n 3 % 256]) (k - 5 - 2 - 4 - 2 - 3 - 2) (by omega) (by omega) (by simp; omega)
  have s1 := step 1 (xs ++ [divs n 5 % 256] ++ [divs n 4 % 256] ++ [divs n 3 % 256] ++ [divs n 2 % 256]) (k - 5 - 2 - 4 - 2 - 3 - 2 - 2 - 2) (by omega) (by omega) (by simp; omega)
  have s0 := step 0 (xs ++ [divs n 5 % 256] ++ [divs n 4 % 256] ++ [divs n 3 % 256] ++ [divs n 2 % 256] ++ [divs n 1 % 256]) (k - 5 - 2 - 4 - 2 - 3 - 2 - 2 - 2 - 1 - 2) (by omega) (by omega) (by simp; omega)
  have e5 : ((5 : Nat) : Int) = 5 := rfl
  rw [e5] at s5
  rw [s5]
  have e4 : (5 : Int) - 1 = ((4 : Nat) : Int) := rfl
  rw [e4, s4]
  have e3 : ((4 : Nat) : Int) - 1 = ((3 : Nat) : Int) := rfl
  rw [e3, s3]
  have e2 : ((3 : Nat) : Int) - 1 = ((2 : Nat) : Int) := rfl
  rw [e2, s2]
  have e1 : ((2 : Nat) : Int) - 1 = ((1 : Nat) : Int) := rfl
  rw [e1, s1]
  have e0 : ((1 : Nat) : Int) - 1 = ((0 : Nat) : Int) := rfl
  rw [e0, s0]
  obtain ⟨m, hm, _⟩ := succ_of (d := 0) (k := k - 5 - 2 - 4 - 2 - 3 - 2 - 2 - 2 - 1 - 2 - 0 - 2) (by omega)
  rw [hm, f143_l5_succ]
  simp only [f143_u5, Bool.cond_eq_ite, decide_eq_true_eq]
  rw [if_neg (by omega)]
  have d5 : divs (n : Int) 5 = ((n / 1099511627776 : Nat) : Int) := by rw [divs_pow]; omega
  have d4 : divs (n : Int) 4 = ((n / 4294967296 : Nat) : Int) := by rw [divs_pow]; omega
  have d3 : divs (n : Int) 3 = ((n / 16777216 : Nat) : Int) := by rw [divs_pow]; omega
  have d2 : divs (n : Int) 2 = ((n / 65536 : Nat) : Int) := by rw [divs_pow]; omega
  have d1 : divs (n : Int) 1 = ((n / 256 : Nat) : Int) := by rw [divs_pow]; omega
  have d0 : divs (n : Int) 0 = (n : Int) := rfl
  rw [d5, d4, d3, d2, d1, d0]
  simp [fixB]
theorem f143_is {k : Nat} (hk : 40 ≤ k) {xs : List Int} {x : Int} (h0 : 0 ≤ x) (h1 : x ≤ 281474976710655) (hl : xs.length < 140737488355000) : f143 k xs x = some ((xs ++ fixB x.toNat, true, ()), ()) := by
  rw [f143_eq]
  simp only [f143_u, f178_is, Option.bind_some, Bool.cond_eq_ite, List.length_nil, List.nil_append, decide_eq_true_eq, Bool.not_eq_true', decide_eq_false_iff_not]
  rw [if_neg (by omega), if_pos (by omega), f143_l5_is hk h0 h1 hl]

theorem f142_is {k : Nat} {kind : Int} {d : List Int} (h : d.length < 9223372036854775808) : f142 k (kind, d, ()) = some ((decide (1 ≤ kind ∧ kind ≤ 3 ∧ d.length ≤ 60000), ()), ()) := by
  rw [f142_eq]
  simp only [f142_u, Bool.cond_eq_ite, decide_eq_true_eq]
  by_cases h1 : kind ≥ 1
  · rw [if_pos h1]
    by_cases h2 : kind ≤ 3
    · rw [if_pos h2]
      congr 4
      by_cases h3 : d.length ≤ 60000 <;> simp [h3] <;> omega
    · rw [if_neg h2]
      have : false = decide (1 ≤ kind ∧ kind ≤ 3 ∧ d.length ≤ 60000) := by symm; simp; omega
      rw [this]
  · rw [if_neg h1]
    have : false = decide (1 ≤ kind ∧ kind ≤ 3 ∧ d.length ≤ 60000) := by symm; simp; omega
    rw [this]

theorem f103_is {k : Nat} {kind : Int} {d : List Int} (h0 : 1 ≤ kind) (h1 : kind ≤ 3) (hb : Bytes d) (hl : d.length ≤ 60000) (hk : 20 * d.length + 400 ≤ k) : f103 k (kind, d, ()) = some ((frameB kind d, true, ()), ()) := by
  rw [f103_eq]
  have hh := head_bytes (kind := kind) (by omega) (by omega) d
  have hhl : ([71, kind] ++ fixB d.length).length = 8 := by simp [fixB_length]
  have c1 := crc_lt hh
  have c2 := crc_lt hb
  have q1 := f143_is (k := k) (by omega) (xs := [71, kind]) (x := (d.length : Nat)) (by omega) (by omega) (by simp)
  have q2 := f102_is (k := k) hh (by omega) (by omega)
  have q3 := f143_is (k := k) (by omega) (xs := [71, kind] ++ fixB d.length) (x := ((crc ([71, kind] ++ fixB d.length) : Nat) : Int)) (by omega) (by omega) (by omega)
  have q4 := f102_is (k := k) hb (by omega) (by omega)
  have hl2 : ([71, kind] ++ fixB d.length ++ fixB (crc ([71, kind] ++ fixB d.length))).length = 14 := by simp [fixB_length]
  have q5 := f143_is (k := k) (by omega) (xs := [71, kind] ++ fixB d.length ++ fixB (crc ([71, kind] ++ fixB d.length))) (x := ((crc d : Nat) : Int)) (by omega) (by omega) (by omega)
  simp only [Int.toNat_natCast] at q1 q3 q5
  simp only [f103_u, f142_is (k := k) (kind := kind) (d := d) (by omega), Option.bind_some, w8 (x := kind) (by omega) (by omega), q1, q2, q3, q4, q5, Bool.cond_eq_ite, decide_eq_true_eq, Bool.not_eq_true', decide_eq_false_iff_not]
  rw [if_neg (by omega), if_pos (by simp only [List.length_append, fixB_length]; simp; omega)]
  rfl
end Go.Proofs.Ythjiokbokncpoaa.Rf
