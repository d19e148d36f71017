/- The names of files: fileName, GName, VName, NumText of the program; each as a plain function, under what strconv's table holds. -/
import Derived.Test.YtkolndfgpplknaaDoorGx1
import Derived.Test.YtkolndfgpplknaaDoorShelf
import Derived.Lib.AppendIntMem
import Derived.Lib.ItoaLen
namespace Go.Proofs.YtkolndfgpplknaaDoor.G
open Go.Proofs.YtkolndfgpplknaaDoor.Open
open Go.RowKit Go.Proofs.YtkolndfgpplknaaDoorW.PrintWords Go.Proofs.YtkolndfgpplknaaDoorW.PrintLast Go.Proofs.YtkolndfgpplknaaDoorW.PrintMore
set_option linter.unusedVariables false
set_option linter.unusedSimpArgs false
abbrev Tab (w : World) : Prop := Lib.TabIs Tryd.prog w "internal/strconv.uint64pow10" .u64 Lib.pow10Tab
theorem Tab.below {w w' : World} (h : Tab w) (hb : Below w.heap.size w w') : Tab w' := Lib.tabBelow_of_tabIs h w' hb
def numB (n : Int) : ByteArray := ⟨(Lib.itoa n).toArray⟩
theorem numB_size (n : Int) (h0 : 0 ≤ n) (h1 : n ≤ 281474976710655) : (numB n).size ≤ 21 := by
  have := Lib.itoa_length_le n (by omega) (by omega)
  simpa [numB, ByteArray.size] using this
set_option maxHeartbeats 8000000 in
set_option maxRecDepth 100000 in
theorem impl_NumText.calls (a0 : Int) (w : World) (h0 : 0 ≤ a0) (h1 : a0 ≤ 281474976710655) (hT : Tab w) :
    Calls Tryd.prog 28 #[.int .i64 a0] w fun e w' => e = .returned (.string (numB a0)) ∧ Below w.heap.size w w' := by
  have A2 := Aside0.mk (show impl_isNumber.f a0 = some true by unfold impl_isNumber.f; rw [if_pos h0]; simp [h1])
  have HT := Aside0.mk hT
  clear hT
  go_enter Tryd.func28, Tryd.ntmps28
  go_wp2_with (first
    | ((with_reducible refine gate_callee (f := 22) rfl ?_); refine goesL_ (some 4) rfl rfl Tryd.func22 (by kernel_rfl) rfl #[.int .i64 a0] rfl (by (try simp only [List.map_toArray, List.map_cons, List.map_nil]); first | done | rfl) ?_; (with_reducible refine (impl_isNumber.calls a0 true _ A2.out).mono ?_); rintro e w' ⟨rfl, ⟨nd, rfl⟩⟩; refine ⟨_, rfl, ?_⟩)
    | ((with_reducible refine gate_callee (f := 32) rfl ?_); refine goesL_ (some 7) rfl rfl Tryd.func32 (by kernel_rfl) rfl #[.int .i64 a0] rfl (by (try simp only [List.map_toArray, List.map_cons, List.map_nil]); first | done | rfl) ?_; (with_reducible refine (Tryd.strconv_Itoa a0 (by omega) (by omega) _ (Tab.below HT.out (pw_below_drewN (Below.refl _ _) nd))).mono ?_); rintro e w' ⟨rfl, ⟨nk, os, rfl⟩⟩); refine ⟨_, rfl, ?_⟩)
  go_ret
  exact ⟨rfl, Lib.below_grow _ w (Nat.le_refl _) _ _⟩
def fileF (a0 : ByteArray) (a1 : Int) : ByteArray := if a1 < 1 then ⟨#[]⟩ else if a1 > 1000000 then ⟨#[]⟩ else a0 ++ numB a1
set_option maxHeartbeats 8000000 in
set_option maxRecDepth 100000 in
theorem impl_fileName.calls (a0 : ByteArray) (a1 : Int) (w : World) (h0 : a0.size ≤ 2) (hT : Tab w) :
    Calls Tryd.prog 19 #[.string a0, .int .i64 a1] w fun e w' => e = .returned (.string (fileF a0 a1)) ∧ Below w.heap.size w w' := by
  have HT := Aside0.mk hT
  clear hT
  by_cases c3 : a1 < 1
  · rw [show fileF a0 a1 = ⟨#[]⟩ by simp [fileF, c3]]
    have c3b0 : decide (a1 < 1) = true := decide_eq_true c3
    clear c3
    go_enter Tryd.func19, Tryd.ntmps19
    go_wp2
    go_ret
    exact ⟨rfl, Below.refl _ _⟩
  · have c3b0 : decide (a1 < 1) = false := decide_eq_false c3
    by_cases c4 : a1 > 1000000
    · rw [show fileF a0 a1 = ⟨#[]⟩ by simp [fileF, c3, c4]]
      have c4b0 : decide (1000000 < a1) = true := decide_eq_true c4
      clear c3 c4
      go_enter Tryd.func19, Tryd.ntmps19
      go_wp2
      go_ret
      exact ⟨rfl, Below.refl _ _⟩
    · rw [show fileF a0 a1 = a0 ++ numB a1 by simp [fileF, c3, c4]]
      have c4b0 : decide (1000000 < a1) = false := decide_eq_false c4
      have P0 := Aside0.mk (show 0 ≤ a1 by omega)
      have P1 := Aside0.mk (show a1 ≤ 281474976710655 by omega)
      have c6 : a0.size + (numB a1).size ≤ 9223372036854775807 := by have := numB_size a1 (by omega) (by omega); omega
      clear c3 c4
      have c6b0 := eq_true c6
      have c6b1 : decide (a0.size + (numB a1).size ≤ 9223372036854775807) = true := decide_eq_true c6
      have c6b2 : (9223372036854775807 < a0.size + (numB a1).size) = False := eq_false (Nat.not_lt.2 c6)
      go_enter Tryd.func19, Tryd.ntmps19
      go_wp2_with (first
        | ((with_reducible refine gate_callee (f := 28) rfl ?_); refine goesL_ (some 13) rfl rfl Tryd.func28 (by kernel_rfl) rfl #[.int .i64 a1] rfl (by (try simp only [List.map_toArray, List.map_cons, List.map_nil]); first | done | rfl) ?_; (with_reducible refine (impl_NumText.calls a1 _ P0.out P1.out HT.out).mono ?_); rintro e w' ⟨rfl, hb⟩); refine ⟨_, rfl, ?_⟩)
      go_ret
      exact ⟨rfl, by assumption⟩
set_option maxHeartbeats 8000000 in
set_option maxRecDepth 100000 in
theorem impl_GName.calls (a0 : Int) (w : World) (hT : Tab w) :
    Calls Tryd.prog 8 #[.int .i64 a0] w fun e w' => e = .returned (.string (fileF (⟨#[103, 46]⟩ : ByteArray) a0)) ∧ Below w.heap.size w w' := by
  have HT := Aside0.mk hT
  clear hT
  go_enter Tryd.func8, Tryd.ntmps8
  go_wp2_with (first
    | ((with_reducible refine gate_callee (f := 19) rfl ?_); refine goesL_ (some 4) rfl rfl Tryd.func19 (by kernel_rfl) rfl #[.string (⟨#[103, 46]⟩ : ByteArray), .int .i64 a0] rfl (by (try simp only [List.map_toArray, List.map_cons, List.map_nil]); first | done | rfl) ?_; (with_reducible refine (impl_fileName.calls (⟨#[103, 46]⟩ : ByteArray) a0 _ (by decide) HT.out).mono ?_); rintro e w' ⟨rfl, hb⟩); refine ⟨_, rfl, ?_⟩)
  go_ret
  exact ⟨rfl, by assumption⟩
set_option maxHeartbeats 8000000 in
set_option maxRecDepth 100000 in
theorem impl_VName.calls (a0 : Int) (w : World) (hT : Tab w) :
    Calls Tryd.prog 10 #[.int .i64 a0] w fun e w' => e = .returned (.string (fileF (⟨#[118, 46]⟩ : ByteArray) a0)) ∧ Below w.heap.size w w' := by
  have HT := Aside0.mk hT
  clear hT
  go_enter Tryd.func10, Tryd.ntmps10
  go_wp2_with (first
    | ((with_reducible refine gate_callee (f := 19) rfl ?_); refine goesL_ (some 4) rfl rfl Tryd.func19 (by kernel_rfl) rfl #[.string (⟨#[118, 46]⟩ : ByteArray), .int .i64 a0] rfl (by (try simp only [List.map_toArray, List.map_cons, List.map_nil]); first | done | rfl) ?_; (with_reducible refine (impl_fileName.calls (⟨#[118, 46]⟩ : ByteArray) a0 _ (by decide) HT.out).mono ?_); rintro e w' ⟨rfl, hb⟩); refine ⟨_, rfl, ?_⟩)
  go_ret
  exact ⟨rfl, by assumption⟩
set_option maxHeartbeats 8000000 in
set_option maxRecDepth 100000 in
theorem laws_FnExactGName.calls (k : Nat) (a0 : Int) (w : World) (hT : Tab w) (hk : spec_GName.f k a0 = some (fileF (⟨#[103, 46]⟩ : ByteArray) a0)) :
    Calls Tryd.prog 3 #[.int .i64 a0] w fun e w' => e = .returned (.bool true) ∧ Below w.heap.size w w' := by
  have HT := Aside0.mk hT
  have HS := Aside0.mk hk
  have HI := Aside0.mk (fun w hT => impl_GName.calls a0 w hT)
  clear hT hk
  generalize fileF (⟨#[103, 46]⟩ : ByteArray) a0 = r at HS HI
  go_enter Tryd.func3, Tryd.ntmps3
  go_wp2_with (first
    | ((with_reducible refine gate_callee (f := 7) rfl ?_); refine goesL_ (some 6) rfl rfl Tryd.func7 (by kernel_rfl) rfl #[.int .i64 a0] rfl (by (try simp only [List.map_toArray, List.map_cons, List.map_nil]); first | done | rfl) ?_; (with_reducible refine (spec_GName.calls k a0 r _ HS.out).mono ?_); rintro e w1 ⟨rfl, hb1⟩; refine ⟨_, rfl, ?_⟩)
    | ((with_reducible refine gate_callee (f := 8) rfl ?_); refine goesL_ (some 8) rfl rfl Tryd.func8 (by kernel_rfl) rfl #[.int .i64 a0] rfl (by (try simp only [List.map_toArray, List.map_cons, List.map_nil]); first | done | rfl) ?_; (with_reducible refine (HI.out _ (HT.out.below hb1)).mono ?_); rintro e w2 ⟨rfl, hb2⟩); refine ⟨_, rfl, ?_⟩)
  go_ret
  exact ⟨rfl, below_then hb1 hb1.size hb2⟩
set_option maxHeartbeats 8000000 in
set_option maxRecDepth 100000 in
theorem laws_FnExactVName.calls (k : Nat) (a0 : Int) (w : World) (hT : Tab w) (hk : spec_VName.f k a0 = some (fileF (⟨#[118, 46]⟩ : ByteArray) a0)) :
    Calls Tryd.prog 4 #[.int .i64 a0] w fun e w' => e = .returned (.bool true) ∧ Below w.heap.size w w' := by
  have HT := Aside0.mk hT
  have HS := Aside0.mk hk
  have HI := Aside0.mk (fun w hT => impl_VName.calls a0 w hT)
  clear hT hk
  generalize fileF (⟨#[118, 46]⟩ : ByteArray) a0 = r at HS HI
  go_enter Tryd.func4, Tryd.ntmps4
  go_wp2_with (first
    | ((with_reducible refine gate_callee (f := 9) rfl ?_); refine goesL_ (some 6) rfl rfl Tryd.func9 (by kernel_rfl) rfl #[.int .i64 a0] rfl (by (try simp only [List.map_toArray, List.map_cons, List.map_nil]); first | done | rfl) ?_; (with_reducible refine (spec_VName.calls k a0 r _ HS.out).mono ?_); rintro e w1 ⟨rfl, hb1⟩; refine ⟨_, rfl, ?_⟩)
    | ((with_reducible refine gate_callee (f := 10) rfl ?_); refine goesL_ (some 8) rfl rfl Tryd.func10 (by kernel_rfl) rfl #[.int .i64 a0] rfl (by (try simp only [List.map_toArray, List.map_cons, List.map_nil]); first | done | rfl) ?_; (with_reducible refine (HI.out _ (HT.out.below hb1)).mono ?_); rintro e w2 ⟨rfl, hb2⟩); refine ⟨_, rfl, ?_⟩)
  go_ret
  exact ⟨rfl, below_then hb1 hb1.size hb2⟩
end Go.Proofs.YtkolndfgpplknaaDoor.G
