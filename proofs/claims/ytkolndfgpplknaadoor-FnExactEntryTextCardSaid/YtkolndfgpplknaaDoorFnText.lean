/- Numbers written as text, by the program and by the reference. -/
import Derived.Test.YtkolndfgpplknaaDoorGx1
import Derived.Test.YtkolndfgpplknaaDoorGx2
import Derived.Test.YtkolndfgpplknaaDoorGx3
namespace Go.Proofs.YtkolndfgpplknaaDoor.Pure
open Go.RowKit Go.Proofs.YtkolndfgpplknaaDoor.G Go.Proofs.YtkolndfgpplknaaDoorW.PrintWords Go.Proofs.YtkolndfgpplknaaDoorW.PrintLast Go.Proofs.YtkolndfgpplknaaDoorW.PrintMore
namespace Txt
theorem w64 {x : Int} (h0 : -9223372036854775808 ≤ x) (h1 : x ≤ 9223372036854775807) : wrap64 x = x := by unfold wrap64; omega
theorem succ_of {k : Nat} (h : 0 < k) : ∃ j, k = j + 1 := ⟨k - 1, by omega⟩
def isNum (n : Int) : Bool := decide (0 ≤ n) && decide (n ≤ 281474976710655)
theorem isNum_iff {n : Int} : isNum n = true ↔ 0 ≤ n ∧ n ≤ 281474976710655 := by simp [isNum]
theorem specNum (n : Int) : spec_l01Num.f n = some (isNum n) := by
  unfold spec_l01Num.f isNum
  by_cases h : n ≥ 0
  · rw [if_pos h, decide_eq_true (show 0 ≤ n from h)]; rfl
  · rw [if_neg h, decide_eq_false (show ¬ 0 ≤ n from h)]; rfl
theorem implNum (n : Int) : impl_isNumber.f n = some (isNum n) := by
  unfold impl_isNumber.f isNum
  by_cases h : n ≥ 0
  · rw [if_pos h, decide_eq_true (show 0 ≤ n from h)]; rfl
  · rw [if_neg h, decide_eq_false (show ¬ 0 ≤ n from h)]; rfl
theorem one_digit (d : Nat) (h : d < 10) : strOfNums [(wrap64 (48 + (d : Int))) % 256] = (⟨#[UInt8.ofNat (48 + d)]⟩ : ByteArray) := by
  have : ∀ d : Fin 10, strOfNums [(wrap64 (48 + (d.val : Int))) % 256] = (⟨#[UInt8.ofNat (48 + d.val)]⟩ : ByteArray) := by decide +kernel
  exact this ⟨d, h⟩
theorem numText (d : Nat) : ∀ n : Nat, n ≤ 281474976710655 → n < 10 ^ d → ∀ k, d < k → spec_NumText.f k (n : Int) = some ⟨(Lib.decDigits n).toArray⟩ := by
  induction d with
  | zero =>
    intro n h hn k hk
    obtain ⟨k, rfl⟩ := succ_of hk
    obtain rfl : n = 0 := by omega
    have h0 := one_digit 0 (by omega)
    rw [spec_NumText.f, specNum, Option.bind_some, if_pos (by decide), if_pos (by omega), h0, Lib.decDigits_one (by omega)]
  | succ d ih =>
    intro n h hn k hk
    obtain ⟨k, rfl⟩ := succ_of (show 0 < k by omega)
    have hl : spec_l01Num.f (n : Int) = some true := by rw [specNum, isNum_iff.2 (by omega)]
    by_cases h10 : n < 10
    · rw [spec_NumText.f, hl, Option.bind_some, if_pos rfl, if_pos (by omega), one_digit n h10, Lib.decDigits_one h10]
    · have hj := ih (n / 10) (by omega) (by rw [Nat.pow_succ] at hn; omega) k (by omega)
      have e1 : wrap64 (Int.tdiv (n : Int) 10) = ((n / 10 : Nat) : Int) := by
        rw [Int.tdiv_eq_ediv_of_nonneg (by omega), w64 (by omega) (by omega)]; omega
      have e2 : Int.tmod (n : Int) 10 = ((n % 10 : Nat) : Int) := by
        rw [Int.tmod_eq_emod_of_nonneg (by omega)]; omega
      rw [spec_NumText.f, hl, Option.bind_some, if_pos rfl, if_neg (by omega), e1, hj, Option.bind_some, Option.bind_some, e2, one_digit _ (by omega)]
      have hsz : (⟨(Lib.decDigits (n / 10)).toArray⟩ : ByteArray).size + (⟨#[UInt8.ofNat (48 + n % 10)]⟩ : ByteArray).size ≤ 9223372036854775807 := by
        have := numB_size ((n / 10 : Nat) : Int) (by omega) (by omega)
        have e : numB ((n / 10 : Nat) : Int) = ⟨(Lib.decDigits (n / 10)).toArray⟩ := by unfold numB Lib.itoa; rw [if_neg (by omega)]; congr 2
        rw [e] at this
        have e3 : (⟨#[UInt8.ofNat (48 + n % 10)]⟩ : ByteArray).size = 1 := rfl
        omega
      rw [if_pos hsz]
      conv => rhs; rw [Lib.decDigits, dif_neg h10]
      congr 1
theorem specText (n : Int) (h : isNum n = true) (k : Nat) (hk : 15 < k) : spec_NumText.f k n = some (numB n) := by
  obtain ⟨h0, h1⟩ := isNum_iff.1 h
  have hj := numText 15 n.toNat (by omega) (by omega) k hk
  rw [Int.toNat_of_nonneg h0] at hj
  rw [hj]; unfold numB Lib.itoa; rw [if_neg (by omega)]
theorem implText (n : Int) (h : isNum n = true) : impl_NumText.f n = some (numB n) := by
  obtain ⟨h0, h1⟩ := isNum_iff.1 h
  unfold impl_NumText.f strconv_Itoa.f
  rw [implNum, h, Option.bind_some, if_pos rfl, if_pos (by omega)]; rfl
theorem sizeB (n : Int) (h : isNum n = true) : (numB n).size ≤ 21 := by obtain ⟨h0, h1⟩ := isNum_iff.1 h; exact numB_size n h0 h1
theorem sp_size : (⟨#[32]⟩ : ByteArray).size = 1 := rfl
theorem bytes_eq {x : ByteArray} {l : List UInt8} (h : x.data.toList = l) : x = ⟨l.toArray⟩ := by
  apply ByteArray.ext; apply Array.toList_inj.1; rw [h]
theorem bytes_append (a b : ByteArray) : (a ++ b).data.toList = a.data.toList ++ b.data.toList := by simp
theorem nil_append (a : ByteArray) : (⟨#[]⟩ : ByteArray) ++ a = a := by apply ByteArray.ext; apply Array.toList_inj.1; rw [bytes_append]; rfl
end Txt
end Go.Proofs.YtkolndfgpplknaaDoor.Pure
