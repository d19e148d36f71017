/- The names of files: the reference writes the same digits. -/
import Derived.Test.YtkolndfgpplknaaDoorNames
namespace Go.Proofs.YtkolndfgpplknaaDoor.Pure
open Go.RowKit Go.Proofs.YtkolndfgpplknaaDoor.G Go.Proofs.YtkolndfgpplknaaDoorW.PrintWords Go.Proofs.YtkolndfgpplknaaDoorW.PrintLast Go.Proofs.YtkolndfgpplknaaDoorW.PrintMore
theorem w64 {x : Int} (h0 : -9223372036854775808 ≤ x) (h1 : x ≤ 9223372036854775807) : wrap64 x = x := by unfold wrap64; omega
theorem one_digit (d : Nat) (h : d < 10) : strOfNums [(wrap64 (48 + (d : Int))) % 256] = (⟨#[UInt8.ofNat (48 + d)]⟩ : ByteArray) := by
  have : ∀ d : Fin 10, strOfNums [(wrap64 (48 + (d.val : Int))) % 256] = (⟨#[UInt8.ofNat (48 + d.val)]⟩ : ByteArray) := by decide +kernel
  exact this ⟨d, h⟩
theorem numText (k : Nat) : ∀ n : Nat, n ≤ 281474976710655 → n < 10 ^ k → ∃ j, spec_NumText.f j (n : Int) = some ⟨(Lib.decDigits n).toArray⟩ := by
  induction k with
  | zero => intro n h hn; exact ⟨1, by
      obtain rfl : n = 0 := by omega
      have h0 := one_digit 0 (by omega)
      simp only [spec_NumText.f, spec_l01Num.f]
      rw [if_pos (by omega), Option.bind_some, if_pos (by simp), if_pos (by omega), h0, Lib.decDigits_one (by omega)]⟩
  | succ k ih =>
    intro n h hn
    have hl : spec_l01Num.f (n : Int) = some true := by simp only [spec_l01Num.f]; rw [if_pos (by omega)]; congr 1; simp; omega
    by_cases h10 : n < 10
    · refine ⟨1, ?_⟩
      rw [spec_NumText.f, hl, Option.bind_some, if_pos rfl, if_pos (by omega), one_digit n h10, Lib.decDigits_one h10]
    · obtain ⟨j, hj⟩ := ih (n / 10) (by omega) (by rw [Nat.pow_succ] at hn; omega)
      refine ⟨j + 1, ?_⟩
      have e1 : wrap64 (Int.tdiv (n : Int) 10) = ((n / 10 : Nat) : Int) := by
        rw [Int.tdiv_eq_ediv_of_nonneg (by omega), w64 (by omega) (by omega)]; omega
      have e2 : Int.tmod (n : Int) 10 = ((n % 10 : Nat) : Int) := by
        rw [Int.tmod_eq_emod_of_nonneg (by omega)]; omega
      rw [spec_NumText.f, hl, Option.bind_some, if_pos rfl, if_neg (by omega), e1, hj, Option.bind_some, Option.bind_some, e2, one_digit _ (by omega)]
      have hsz : (⟨(Lib.decDigits (n / 10)).toArray⟩ : ByteArray).size + (⟨#[UInt8.ofNat (48 + n % 10)]⟩ : ByteArray).size ≤ 9223372036854775807 := by
        have := numB_size ((n / 10 : Nat) : Int) (by omega) (by omega)
        have e : numB ((n / 10 : Nat) : Int) = ⟨(Lib.decDigits (n / 10)).toArray⟩ := by unfold numB Lib.itoa; rw [if_neg (by omega)]; congr 2
        rw [e] at this
        have e3 : (⟨#[UInt8.ofNat (48 + n % 10)]⟩ : ByteArray).size = 1 := rfl
        omega
      rw [if_pos hsz]
      conv => rhs; rw [Lib.decDigits, dif_neg h10]
      congr 1
theorem fileName (f : ByteArray) (hf : f.size ≤ 2) (n : Int) : ∃ k, spec_l15Name.f k f n = some (fileF f n) := by
  unfold spec_l15Name.f fileF
  by_cases h1 : n < 1
  · exact ⟨0, by rw [if_pos h1, if_pos h1]⟩
  · by_cases h2 : n > 1000000
    · exact ⟨0, by rw [if_neg h1, if_neg h1, if_pos h2, if_pos h2]⟩
    · obtain ⟨j, hj⟩ := numText 7 n.toNat (by omega) (by omega)
      rw [Int.toNat_of_nonneg (by omega)] at hj
      have e : (⟨(Lib.decDigits n.toNat).toArray⟩ : ByteArray) = numB n := by unfold numB Lib.itoa; rw [if_neg (by omega)]
      rw [e] at hj
      refine ⟨j, ?_⟩
      rw [if_neg h1, if_neg h1, if_neg h2, if_neg h2, hj, Option.bind_some, if_pos (by have := numB_size n (by omega) (by omega); omega)]
theorem gName (n : Int) : ∃ k, spec_GName.f k n = some (fileF (⟨#[103, 46]⟩ : ByteArray) n) := by
  obtain ⟨k, h⟩ := fileName (⟨#[103, 46]⟩ : ByteArray) (by decide) n
  exact ⟨k, by rw [spec_GName.f, h]; rfl⟩
theorem vName (n : Int) : ∃ k, spec_VName.f k n = some (fileF (⟨#[118, 46]⟩ : ByteArray) n) := by
  obtain ⟨k, h⟩ := fileName (⟨#[118, 46]⟩ : ByteArray) (by decide) n
  exact ⟨k, by rw [spec_VName.f, h]; rfl⟩
end Go.Proofs.YtkolndfgpplknaaDoor.Pure
