/- strconv.Itoa and strings.Join by the shelf's contracts, in the printed functions' form. -/
import Derived.Test.YtkolndfgpplknaaDoorShelf
import Derived.Test.YtkolndfgpplknaaDoorWWords
import Derived.Test.YtkolndfgpplknaaDoorWLast
import Derived.Test.YtkolndfgpplknaaDoorWMore
import Derived.Lib.AppendIntMem
import Derived.Lib.ItoaLen
namespace Go.Proofs.YtkolndfgpplknaaDoor.G
open Go.RowKit Go.Proofs.YtkolndfgpplknaaDoorW.PrintWords Go.Proofs.YtkolndfgpplknaaDoorW.PrintLast Go.Proofs.YtkolndfgpplknaaDoorW.PrintMore
set_option linter.unusedVariables false
set_option linter.unusedSimpArgs false
abbrev Tab (w : World) : Prop := Lib.TabIs Tryd.prog w "internal/strconv.uint64pow10" .u64 Lib.pow10Tab
theorem Tab.below {w w' : World} (h : Tab w) (hb : Below w.heap.size w w') : Tab w' := Lib.tabBelow_of_tabIs h w' hb
def numB (n : Int) : ByteArray := ⟨(Lib.itoa n).toArray⟩
theorem numB_size (n : Int) (h0 : 0 ≤ n) (h1 : n ≤ 281474976710655) : (numB n).size ≤ 21 := by
  have := Lib.itoa_length_le n (by omega) (by omega)
  simpa [numB, ByteArray.size] using this
def strconv_Itoa.f (a0 : Int) : Option ByteArray := if -9223372036854775808 ≤ a0 ∧ a0 ≤ 9223372036854775807 then some (numB a0) else none
theorem strconv_Itoa.calls (a0 : Int) (r : ByteArray) (w : World) (hT : Tab w) (h : strconv_Itoa.f a0 = some r) :
    Calls Tryd.prog 32 #[.int .i64 a0] w fun e w' => e = .returned (.string r) ∧ Below w.heap.size w w' := by
  unfold strconv_Itoa.f at h
  split at h
  · obtain rfl := Option.some.inj h
    rename_i hb
    refine (Tryd.strconv_Itoa a0 hb.1 hb.2 w hT).mono ?_
    rintro e w' ⟨rfl, k, os, rfl⟩
    exact ⟨rfl, Lib.below_grow _ w (Nat.le_refl _) _ _⟩
  · cases h
theorem cell_at {w : World} {b o : Nat} {s : Option Nat} {v : Value} (h : w.cell? ⟨b, o, s⟩ = some v) : s = none ∧ b < w.heap.size := by
  unfold World.cell? at h
  split at h
  · rename_i e
    split at h
    · cases h
    · rename_i hs
      exact ⟨by simpa using hs, (Array.getElem?_eq_some_iff.1 e).1⟩
  · cases h
def joinL (l : List ByteArray) (s : ByteArray) : List UInt8 := Lib.join (l.map (·.data.toList)) s.data.toList
def strings_Join.f (l0 : List ByteArray) (a1 : ByteArray) : Option ByteArray := if l0.length ≤ 140737488355328 ∧ (joinL l0 a1).length ≤ 140737488355328 then some ⟨(joinL l0 a1).toArray⟩ else none
theorem strings_Join.calls (A0 : Option Addr) (c0 : Nat) (l0 : List ByteArray) (a1 : ByteArray) (r : ByteArray) (w : World) (hr0 : Kd.C Kd.string w A0 l0.length l0) (hc0 : l0.length ≤ c0) (h : strings_Join.f l0 a1 = some r) :
    Calls Tryd.prog 27 #[.slice A0 l0.length c0, .string a1] w fun e w' => e = .returned (.string r) ∧ Below w.heap.size w w' := by
  unfold strings_Join.f at h
  split at h
  · obtain rfl := Option.some.inj h
    rename_i hb
    cases l0 with
    | nil =>
      refine (Tryd.strings_Join_none A0 c0 a1 w).mono ?_
      rintro e w' ⟨rfl, rfl⟩
      exact ⟨rfl, Below.refl _ _⟩
    | cons x t =>
      obtain ⟨ad, rfl, hc⟩ := hr0.2.2 (by simp)
      have hcell : ∀ (j : Nat) p, (x :: t)[j]? = some p → w.cell? (ad.add j) = some (.string p) := by
        intro j p hp
        obtain ⟨c, hl, hR, hi⟩ := hc j p hp
        have e : c = [.string p] := hR
        have := hi 0 (.string p) (by rw [e]; rfl)
        have e1 : Kd.string.sz = 1 := rfl
        rw [e1, Nat.mul_one, Nat.add_zero] at this
        exact this
      obtain ⟨b, o, sub⟩ := ad
      have h0 := hcell 0 x rfl
      rw [show Addr.add ⟨b, o, sub⟩ 0 = ⟨b, o, sub⟩ from rfl] at h0
      obtain ⟨rfl, hlt⟩ := cell_at h0
      refine Tryd.strings_Join b o c0 (x :: t) a1 w (fun j p hp => ?_) hlt hb.1 hc0 hb.2
      have := hcell j p hp
      unfold Addr.add at this
      split at this
      · rename_i e; subst e; exact this
      · exact this
  · cases h
end Go.Proofs.YtkolndfgpplknaaDoor.G
