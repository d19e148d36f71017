/- Functions of the program as plain Lean functions, and for each a proof that the Go code comes to just these answers; under no condition but those that each theorem states. -/
import Derived.Test.YtkolndfgpplknaaDoorGx0
import Derived.Test.YtkolndfgpplknaaDoorGx1
namespace Go.Proofs.YtkolndfgpplknaaDoor.G
open Go.Proofs.YtkolndfgpplknaaDoor.Open
open Go.RowKit Go.Proofs.YtkolndfgpplknaaDoorW.PrintWords Go.Proofs.YtkolndfgpplknaaDoorW.PrintLast Go.Proofs.YtkolndfgpplknaaDoorW.PrintMore
attribute [local go_sem] max2_int min2_int max_two min_two max_three min_three max_four min_four   -- for this text's walks alone
set_option linter.unusedVariables false
set_option linter.unusedSimpArgs false

/-! ### spec_EntryText: function 15 -/
def spec_EntryText.j0 : Nat → Bool → ByteArray → Int → Int → Int → Option (ByteArray)
  | 0, _, _, _, _, _ => none
  | k + 1, x28, x111000, x111001, x111002, x111003 => if x28 = true then (some (⟨#[]⟩ : ByteArray)) else (if x111000.size + 1 ≤ 9223372036854775807 then ((spec_NumText.f k x111001).bind fun t114 => (if x111000.size + 1 + t114.size ≤ 9223372036854775807 then (if x111000.size + 1 + t114.size + 1 ≤ 9223372036854775807 then ((some (([(⟨#[103, 114, 97, 112, 104]⟩ : ByteArray), (⟨#[118, 97, 108, 117, 101, 115]⟩ : ByteArray), (⟨#[108, 111, 103]⟩ : ByteArray), (⟨#[98, 101, 110, 116]⟩ : ByteArray), (⟨#[111, 116, 104, 101, 114]⟩ : ByteArray)] : List ByteArray) : List ByteArray)).bind fun y115 => (if 0 ≤ (wrap64 (x111002 - 1)) then (if (wrap64 (x111002 - 1)) < (y115.length : Int) then (if x111000.size + 1 + t114.size + 1 + (rdOf ByteArray.empty y115 (wrap64 (x111002 - 1))).size ≤ 9223372036854775807 then (if x111000.size + 1 + t114.size + 1 + (rdOf ByteArray.empty y115 (wrap64 (x111002 - 1))).size + 1 ≤ 9223372036854775807 then ((spec_NumText.f k x111003).bind fun t119 => (if x111000.size + 1 + t114.size + 1 + (rdOf ByteArray.empty y115 (wrap64 (x111002 - 1))).size + 1 + t119.size ≤ 9223372036854775807 then (some ((((((x111000 ++ (⟨#[32]⟩ : ByteArray)) ++ t114) ++ (⟨#[32]⟩ : ByteArray)) ++ (rdOf ByteArray.empty y115 (wrap64 (x111002 - 1)))) ++ (⟨#[32]⟩ : ByteArray)) ++ t119)) else (none))) else (none)) else (none)) else (none)) else (none))) else (none)) else (none))) else (none))
def spec_EntryText.f (k : Nat) (a0_0 : ByteArray) (a0_1 : Int) (a0_2 : Int) (a0_3 : Int) : Option (ByteArray) := (spec_NameOk.f k a0_0).bind fun t111 => (if t111 = true then ((spec_l01Num.f a0_1).bind fun t112 => (if t112 = true then ((spec_l01Num.f a0_3).bind fun t113 => (if t113 = true then (if a0_2 < 1 then (spec_EntryText.j0 k true a0_0 a0_1 a0_2 a0_3) else (spec_EntryText.j0 k (decide (a0_2 > 5)) a0_0 a0_1 a0_2 a0_3)) else (spec_EntryText.j0 k true a0_0 a0_1 a0_2 a0_3))) else (spec_EntryText.j0 k true a0_0 a0_1 a0_2 a0_3))) else (spec_EntryText.j0 k true a0_0 a0_1 a0_2 a0_3))
theorem spec_EntryText.mono_l : ∀ k, (∀ y0 y1 y2 y3 y4, LeO (spec_EntryText.j0 k y0 y1 y2 y3 y4) (spec_EntryText.j0 (k + 1) y0 y1 y2 y3 y4))
  | 0 => fun _ _ _ _ _ r h => by simp [spec_EntryText.j0] at h
  | k + 1 => by
    have ih0 := spec_EntryText.mono_l k
    · intro y0 y1 y2 y3 y4
      unfold spec_EntryText.j0
      repeat' first
      | (with_reducible exact ih0 _ _ _ _ _)
      | (with_reducible exact spec_NameOk.mono _ _)
      | (with_reducible exact spec_NumText.mono _ _)
      | (with_reducible exact LeO.refl _)
      | (with_reducible exact LeO.none _)
      | (with_reducible refine LeO.ite ?_ ?_)
      | (with_reducible refine LeO.bind ?_ (fun _ => ?_))
      | exact ih0 _ _ _ _ _
      | exact spec_NameOk.mono _ _
      | exact spec_NumText.mono _ _
      | exact LeO.none _
      | refine LeO.ite ?_ ?_
      | refine LeO.bind ?_ (fun _ => ?_)
theorem spec_EntryText.mono : ∀ a0 a1 a2 a3 k, LeO (spec_EntryText.f k a0 a1 a2 a3) (spec_EntryText.f (k + 1) a0 a1 a2 a3) := by
  intro a0 a1 a2 a3 k
  have ih0 := spec_EntryText.mono_l k
  unfold spec_EntryText.f
  repeat' first
      | (with_reducible exact ih0 _ _ _ _ _)
      | (with_reducible exact spec_NameOk.mono _ _)
      | (with_reducible exact spec_NumText.mono _ _)
      | (with_reducible exact LeO.refl _)
      | (with_reducible exact LeO.none _)
      | (with_reducible refine LeO.ite ?_ ?_)
      | (with_reducible refine LeO.bind ?_ (fun _ => ?_))
      | exact ih0 _ _ _ _ _
      | exact spec_NameOk.mono _ _
      | exact spec_NumText.mono _ _
      | exact LeO.none _
      | refine LeO.ite ?_ ?_
      | refine LeO.bind ?_ (fun _ => ?_)
def spec_EntryText.T3 : Bool × List (List Nat × List Nat) := (true, [([], []), ([0], [0]), ([1], [1]), ([], []), ([3], [3]), ([4], [4]), ([2, 5], [2, 5]), ([6], [6]), ([], []), ([], []), ([9], [9]), ([10], [10]), ([8, 11], [8, 11]), ([12], [12]), ([7, 13], [7, 13]), ([14], [14]), ([], []), ([16], [16]), ([17, 5], [17]), ([15, 18], [15, 18]), ([19, 18, 0, 1, 2, 3, 4, 5, 6, 7, 8, 9, 10, 11, 12, 13, 14, 15, 16, 17, 18, 19], [19])])
def spec_EntryText.B3 : List Nat := [0, 1, 3, 0, 8, 24, 63, 127, 0, 0, 512, 1536, 3840, 7936, 16383, 32767, 0, 65536, 196664, 524287, 1048575]
theorem spec_EntryText.tab3 : rtab .any (opsOf Tryd.f15 3) = spec_EntryText.T3 := by kernel_rfl
theorem spec_EntryText.bits3 : waitsOk spec_EntryText.T3.2 spec_EntryText.B3 = true := by kernel_rfl
set_option maxHeartbeats 8000000 in
set_option maxRecDepth 100000 in
theorem spec_EntryText.calls (k : Nat) (a0_0 : ByteArray) (a0_1 : Int) (a0_2 : Int) (a0_3 : Int) (r : ByteArray) (w : World) (h : spec_EntryText.f k a0_0 a0_1 a0_2 a0_3 = some r) :
    Calls Tryd.prog 15 #[.agg #[.string a0_0, .int .i64 a0_1, .int .i64 a0_2, .int .i64 a0_3]] w fun e w' => e = .returned (.string r) ∧ Below w.heap.size w w' := by
  have hu34 := Tryd.underlying34
  have HB := Aside0.mk (Below.refl w.heap.size w)
  have H : ((spec_NameOk.f k a0_0).bind fun t111 => (if t111 = true then ((spec_l01Num.f a0_1).bind fun t112 => (if t112 = true then ((spec_l01Num.f a0_3).bind fun t113 => (if t113 = true then (if a0_2 < 1 then (spec_EntryText.j0 k true a0_0 a0_1 a0_2 a0_3) else (spec_EntryText.j0 k (decide (a0_2 > 5)) a0_0 a0_1 a0_2 a0_3)) else (spec_EntryText.j0 k true a0_0 a0_1 a0_2 a0_3))) else (spec_EntryText.j0 k true a0_0 a0_1 a0_2 a0_3))) else (spec_EntryText.j0 k true a0_0 a0_1 a0_2 a0_3))) = some r := h
  clear h
  have HC2 := Aside0.mk H
  clear H
  go_enter Tryd.func15, Tryd.ntmps15
  go_upto_region 1 with (first | ((with_reducible refine gate_dst (N := 1) rfl ?_); refine box_event ?hg (N := 1) ?hd (cs := #[.string a0_0, .int .i64 a0_1, .int .i64 a0_2, .int .i64 a0_3]) (t := 34) ?hr ?_; (case hd => rfl); (case hg => rfl); (case hr => first | (go_simp; done) | (go_simp; rfl)); intro gb110 hg w3 hbox hb; have n0_ := Aside0.mk (below_step (by repeat (first | (with_reducible first | exact HB.out | apply below_alloc | apply pw_below_drewN | apply below_drew1) | exact HB.out)) hb); have n1_ := Aside0.mk (hbox); have n2_ := Aside0.mk ((by rw [hg]; exact (below_size (by repeat (first | (with_reducible first | exact HB.out | apply below_alloc | apply pw_below_drewN | apply below_drew1) | exact HB.out))) : w.heap.size ≤ gb110)); have n3_ := Aside0.mk ((by rw [hg]; exact (below_size (by repeat (first | (with_reducible first | exact HB.out | apply below_alloc | apply pw_below_drewN | apply below_drew1) | exact HB.out))) : w.heap.size ≤ gb110)); clear HB; have HB := n0_; have BK110 := n1_; have GW110 := n2_; have GE110 := n3_; clear n0_ n1_ n2_ n3_; clear hb hbox hg))
  (try simp only [Act.put, List.setIfInBounds_toArray, List.set_cons_zero, List.set_cons_succ])
  go_cut [28] (fun v28 wc => ∃ (kq : Nat) (x28_1 : Bool), v28 = .bool x28_1 ∧ Aside0 (spec_EntryText.j0 kq x28_1 a0_0 a0_1 a0_2 a0_3 = some r) ∧ Aside0 (kq ≤ k) ∧ Aside0 (wc.heap[gb110]? = some (.cells #[.string a0_0, .int .i64 a0_1, .int .i64 a0_2, .int .i64 a0_3] 34 (0, 0))) ∧ Aside0 (Below w.heap.size w wc))
  case first =>
    have H := HC2.out
    clear HC2
    replace H := Option.bind_eq_some_iff.mp H
    obtain ⟨t111, A40, H⟩ := H
    replace H : (if t111 = true then ((spec_l01Num.f a0_1).bind fun t112 => (if t112 = true then ((spec_l01Num.f a0_3).bind fun t113 => (if t113 = true then (if a0_2 < 1 then (spec_EntryText.j0 k true a0_0 a0_1 a0_2 a0_3) else (spec_EntryText.j0 k (decide (a0_2 > 5)) a0_0 a0_1 a0_2 a0_3)) else (spec_EntryText.j0 k true a0_0 a0_1 a0_2 a0_3))) else (spec_EntryText.j0 k true a0_0 a0_1 a0_2 a0_3))) else (spec_EntryText.j0 k true a0_0 a0_1 a0_2 a0_3)) = some r := H
    have A4 := Aside0.mk A40
    clear A40
    by_cases c5 : t111 = true
    · subst c5
      have H1 : ((spec_l01Num.f a0_1).bind fun t112 => (if t112 = true then ((spec_l01Num.f a0_3).bind fun t113 => (if t113 = true then (if a0_2 < 1 then (spec_EntryText.j0 k true a0_0 a0_1 a0_2 a0_3) else (spec_EntryText.j0 k (decide (a0_2 > 5)) a0_0 a0_1 a0_2 a0_3)) else (spec_EntryText.j0 k true a0_0 a0_1 a0_2 a0_3))) else (spec_EntryText.j0 k true a0_0 a0_1 a0_2 a0_3))) = some r := by rw [if_pos rfl] at H; exact H
      clear H
      have H := H1
      clear H1
      replace H := Option.bind_eq_some_iff.mp H
      obtain ⟨t112, A60, H⟩ := H
      replace H : (if t112 = true then ((spec_l01Num.f a0_3).bind fun t113 => (if t113 = true then (if a0_2 < 1 then (spec_EntryText.j0 k true a0_0 a0_1 a0_2 a0_3) else (spec_EntryText.j0 k (decide (a0_2 > 5)) a0_0 a0_1 a0_2 a0_3)) else (spec_EntryText.j0 k true a0_0 a0_1 a0_2 a0_3))) else (spec_EntryText.j0 k true a0_0 a0_1 a0_2 a0_3)) = some r := H
      have A6 := Aside0.mk A60
      clear A60
      by_cases c7 : t112 = true
      · subst c7
        have H1 : ((spec_l01Num.f a0_3).bind fun t113 => (if t113 = true then (if a0_2 < 1 then (spec_EntryText.j0 k true a0_0 a0_1 a0_2 a0_3) else (spec_EntryText.j0 k (decide (a0_2 > 5)) a0_0 a0_1 a0_2 a0_3)) else (spec_EntryText.j0 k true a0_0 a0_1 a0_2 a0_3))) = some r := by rw [if_pos rfl] at H; exact H
        clear H
        have H := H1
        clear H1
        replace H := Option.bind_eq_some_iff.mp H
        obtain ⟨t113, A80, H⟩ := H
        replace H : (if t113 = true then (if a0_2 < 1 then (spec_EntryText.j0 k true a0_0 a0_1 a0_2 a0_3) else (spec_EntryText.j0 k (decide (a0_2 > 5)) a0_0 a0_1 a0_2 a0_3)) else (spec_EntryText.j0 k true a0_0 a0_1 a0_2 a0_3)) = some r := H
        have A8 := Aside0.mk A80
        clear A80
        by_cases c9 : t113 = true
        · subst c9
          have H1 : (if a0_2 < 1 then (spec_EntryText.j0 k true a0_0 a0_1 a0_2 a0_3) else (spec_EntryText.j0 k (decide (a0_2 > 5)) a0_0 a0_1 a0_2 a0_3)) = some r := by rw [if_pos rfl] at H; exact H
          clear H
          have H := H1
          clear H1
          by_cases c10 : a0_2 < 1
          · rw [if_pos c10] at H
            have c10b0 : decide (a0_2 < 1) = true := decide_eq_true c10
            clear c10
            (first | rw [c10b0] | (simp only [i64_w, i32_w]; rw [c10b0]) | skip)
            have H' := Aside0.mk H
            clear H
            have hcz11_0 : w3.cell? ⟨gb110, 0, none⟩ = some (.string a0_0) := (blk_cell BK110.out 0).trans rfl
            have hcz11_1 : w3.cell? ⟨gb110, 1, none⟩ = some (.int .i64 a0_1) := (blk_cell BK110.out 1).trans rfl
            have hcz11_2 : w3.cell? ⟨gb110, 2, none⟩ = some (.int .i64 a0_2) := (blk_cell BK110.out 2).trans rfl
            have hcz11_3 : w3.cell? ⟨gb110, 3, none⟩ = some (.int .i64 a0_3) := (blk_cell BK110.out 3).trans rfl
            have hfz11_0 := blk_frozen BK110.out 0
            have hfz11_1 := blk_frozen BK110.out 1
            have hfz11_2 := blk_frozen BK110.out 2
            have hfz11_3 := blk_frozen BK110.out 3
            go_wp2_with (first | ((with_reducible refine gate_callee (f := 24) rfl ?_); refine goesL_ (some 5) rfl rfl Tryd.func24 (by kernel_rfl) rfl #[.string a0_0] rfl (by (try simp only [List.map_toArray, List.map_cons, List.map_nil]); first | done | rfl | (simp only [List.length_drop, List.length_take]; rfl)) ?_; (with_reducible refine (spec_NameOk.calls k a0_0 true _ A4.out).mono ?_); rintro e w' ⟨rfl, ⟨nd, rfl⟩⟩; refine ⟨_, rfl, ?_⟩) | (go_at_call 20; (with_reducible refine (spec_l01Num.calls a0_1 true _ A6.out).mono ?_); rintro e w' ⟨rfl, ⟨nd, rfl⟩⟩) | (go_at_call 20; (with_reducible refine (spec_l01Num.calls a0_3 true _ A8.out).mono ?_); rintro e w' ⟨rfl, ⟨nd, rfl⟩⟩))
            go_meet
            case rel => exact ⟨_, (true), (by first | rfl | (simp; done) | (simp [*]; done)), H', ⟨by first | omega | exact Nat.le_refl _⟩, ⟨by (with_reducible repeat (first | refine blk_drewN ?_ _ | refine blk_drew ?_ | refine blk_alloc ?_ _)); exact BK110.out⟩, ⟨by repeat (first | (with_reducible first | exact HB.out | apply below_alloc | apply pw_below_drewN | apply below_drew1 | refine below_set ?_ GE110.out) | exact HB.out)⟩⟩
          · rw [if_neg c10] at H
            have c10b0 : decide (a0_2 < 1) = false := decide_eq_false c10
            clear c10
            (first | rw [c10b0] | (simp only [i64_w, i32_w]; rw [c10b0]) | skip)
            have H' := Aside0.mk H
            clear H
            have hcz12_0 : w3.cell? ⟨gb110, 0, none⟩ = some (.string a0_0) := (blk_cell BK110.out 0).trans rfl
            have hcz12_1 : w3.cell? ⟨gb110, 1, none⟩ = some (.int .i64 a0_1) := (blk_cell BK110.out 1).trans rfl
            have hcz12_2 : w3.cell? ⟨gb110, 2, none⟩ = some (.int .i64 a0_2) := (blk_cell BK110.out 2).trans rfl
            have hcz12_3 : w3.cell? ⟨gb110, 3, none⟩ = some (.int .i64 a0_3) := (blk_cell BK110.out 3).trans rfl
            have hfz12_0 := blk_frozen BK110.out 0
            have hfz12_1 := blk_frozen BK110.out 1
            have hfz12_2 := blk_frozen BK110.out 2
            have hfz12_3 := blk_frozen BK110.out 3
            go_wp2_with (first | ((with_reducible refine gate_callee (f := 24) rfl ?_); refine goesL_ (some 5) rfl rfl Tryd.func24 (by kernel_rfl) rfl #[.string a0_0] rfl (by (try simp only [List.map_toArray, List.map_cons, List.map_nil]); first | done | rfl | (simp only [List.length_drop, List.length_take]; rfl)) ?_; (with_reducible refine (spec_NameOk.calls k a0_0 true _ A4.out).mono ?_); rintro e w' ⟨rfl, ⟨nd, rfl⟩⟩; refine ⟨_, rfl, ?_⟩) | (go_at_call 20; (with_reducible refine (spec_l01Num.calls a0_1 true _ A6.out).mono ?_); rintro e w' ⟨rfl, ⟨nd, rfl⟩⟩) | (go_at_call 20; (with_reducible refine (spec_l01Num.calls a0_3 true _ A8.out).mono ?_); rintro e w' ⟨rfl, ⟨nd, rfl⟩⟩))
            go_meet
            case rel => exact ⟨_, (decide (a0_2 > 5)), (by first | rfl | (simp; done) | (simp [*]; done)), H', ⟨by first | omega | exact Nat.le_refl _⟩, ⟨by (with_reducible repeat (first | refine blk_drewN ?_ _ | refine blk_drew ?_ | refine blk_alloc ?_ _)); exact BK110.out⟩, ⟨by repeat (first | (with_reducible first | exact HB.out | apply below_alloc | apply pw_below_drewN | apply below_drew1 | refine below_set ?_ GE110.out) | exact HB.out)⟩⟩
        · replace c9 := Bool.eq_false_iff.mpr c9
          subst c9
          have H1 : (spec_EntryText.j0 k true a0_0 a0_1 a0_2 a0_3) = some r := by rw [if_neg (show ¬ (false = true) by decide)] at H; exact H
          clear H
          have H := H1
          clear H1
          have H' := Aside0.mk H
          clear H
          have hcz13_0 : w3.cell? ⟨gb110, 0, none⟩ = some (.string a0_0) := (blk_cell BK110.out 0).trans rfl
          have hcz13_1 : w3.cell? ⟨gb110, 1, none⟩ = some (.int .i64 a0_1) := (blk_cell BK110.out 1).trans rfl
          have hcz13_2 : w3.cell? ⟨gb110, 2, none⟩ = some (.int .i64 a0_2) := (blk_cell BK110.out 2).trans rfl
          have hcz13_3 : w3.cell? ⟨gb110, 3, none⟩ = some (.int .i64 a0_3) := (blk_cell BK110.out 3).trans rfl
          have hfz13_0 := blk_frozen BK110.out 0
          have hfz13_1 := blk_frozen BK110.out 1
          have hfz13_2 := blk_frozen BK110.out 2
          have hfz13_3 := blk_frozen BK110.out 3
          go_wp2_with (first | ((with_reducible refine gate_callee (f := 24) rfl ?_); refine goesL_ (some 5) rfl rfl Tryd.func24 (by kernel_rfl) rfl #[.string a0_0] rfl (by (try simp only [List.map_toArray, List.map_cons, List.map_nil]); first | done | rfl | (simp only [List.length_drop, List.length_take]; rfl)) ?_; (with_reducible refine (spec_NameOk.calls k a0_0 true _ A4.out).mono ?_); rintro e w' ⟨rfl, ⟨nd, rfl⟩⟩; refine ⟨_, rfl, ?_⟩) | (go_at_call 20; (with_reducible refine (spec_l01Num.calls a0_1 true _ A6.out).mono ?_); rintro e w' ⟨rfl, ⟨nd, rfl⟩⟩) | (go_at_call 20; (with_reducible refine (spec_l01Num.calls a0_3 false _ A8.out).mono ?_); rintro e w' ⟨rfl, ⟨nd, rfl⟩⟩))
          go_meet
          case rel => exact ⟨_, (true), (by first | rfl | (simp; done) | (simp [*]; done)), H', ⟨by first | omega | exact Nat.le_refl _⟩, ⟨by (with_reducible repeat (first | refine blk_drewN ?_ _ | refine blk_drew ?_ | refine blk_alloc ?_ _)); exact BK110.out⟩, ⟨by repeat (first | (with_reducible first | exact HB.out | apply below_alloc | apply pw_below_drewN | apply below_drew1 | refine below_set ?_ GE110.out) | exact HB.out)⟩⟩
      · replace c7 := Bool.eq_false_iff.mpr c7
        subst c7
        have H1 : (spec_EntryText.j0 k true a0_0 a0_1 a0_2 a0_3) = some r := by rw [if_neg (show ¬ (false = true) by decide)] at H; exact H
        clear H
        have H := H1
        clear H1
        have H' := Aside0.mk H
        clear H
        have hcz14_0 : w3.cell? ⟨gb110, 0, none⟩ = some (.string a0_0) := (blk_cell BK110.out 0).trans rfl
        have hcz14_1 : w3.cell? ⟨gb110, 1, none⟩ = some (.int .i64 a0_1) := (blk_cell BK110.out 1).trans rfl
        have hcz14_2 : w3.cell? ⟨gb110, 2, none⟩ = some (.int .i64 a0_2) := (blk_cell BK110.out 2).trans rfl
        have hcz14_3 : w3.cell? ⟨gb110, 3, none⟩ = some (.int .i64 a0_3) := (blk_cell BK110.out 3).trans rfl
        have hfz14_0 := blk_frozen BK110.out 0
        have hfz14_1 := blk_frozen BK110.out 1
        have hfz14_2 := blk_frozen BK110.out 2
        have hfz14_3 := blk_frozen BK110.out 3
        go_wp2_with (first | ((with_reducible refine gate_callee (f := 24) rfl ?_); refine goesL_ (some 5) rfl rfl Tryd.func24 (by kernel_rfl) rfl #[.string a0_0] rfl (by (try simp only [List.map_toArray, List.map_cons, List.map_nil]); first | done | rfl | (simp only [List.length_drop, List.length_take]; rfl)) ?_; (with_reducible refine (spec_NameOk.calls k a0_0 true _ A4.out).mono ?_); rintro e w' ⟨rfl, ⟨nd, rfl⟩⟩; refine ⟨_, rfl, ?_⟩) | (go_at_call 20; (with_reducible refine (spec_l01Num.calls a0_1 false _ A6.out).mono ?_); rintro e w' ⟨rfl, ⟨nd, rfl⟩⟩))
        go_meet
        case rel => exact ⟨_, (true), (by first | rfl | (simp; done) | (simp [*]; done)), H', ⟨by first | omega | exact Nat.le_refl _⟩, ⟨by (with_reducible repeat (first | refine blk_drewN ?_ _ | refine blk_drew ?_ | refine blk_alloc ?_ _)); exact BK110.out⟩, ⟨by repeat (first | (with_reducible first | exact HB.out | apply below_alloc | apply pw_below_drewN | apply below_drew1 | refine below_set ?_ GE110.out) | exact HB.out)⟩⟩
    · replace c5 := Bool.eq_false_iff.mpr c5
      subst c5
      have H1 : (spec_EntryText.j0 k true a0_0 a0_1 a0_2 a0_3) = some r := by rw [if_neg (show ¬ (false = true) by decide)] at H; exact H
      clear H
      have H := H1
      clear H1
      have H' := Aside0.mk H
      clear H
      have hcz15_0 : w3.cell? ⟨gb110, 0, none⟩ = some (.string a0_0) := (blk_cell BK110.out 0).trans rfl
      have hcz15_1 : w3.cell? ⟨gb110, 1, none⟩ = some (.int .i64 a0_1) := (blk_cell BK110.out 1).trans rfl
      have hcz15_2 : w3.cell? ⟨gb110, 2, none⟩ = some (.int .i64 a0_2) := (blk_cell BK110.out 2).trans rfl
      have hcz15_3 : w3.cell? ⟨gb110, 3, none⟩ = some (.int .i64 a0_3) := (blk_cell BK110.out 3).trans rfl
      have hfz15_0 := blk_frozen BK110.out 0
      have hfz15_1 := blk_frozen BK110.out 1
      have hfz15_2 := blk_frozen BK110.out 2
      have hfz15_3 := blk_frozen BK110.out 3
      go_wp2_with (first | ((with_reducible refine gate_callee (f := 24) rfl ?_); refine goesL_ (some 5) rfl rfl Tryd.func24 (by kernel_rfl) rfl #[.string a0_0] rfl (by (try simp only [List.map_toArray, List.map_cons, List.map_nil]); first | done | rfl | (simp only [List.length_drop, List.length_take]; rfl)) ?_; (with_reducible refine (spec_NameOk.calls k a0_0 false _ A4.out).mono ?_); rintro e w' ⟨rfl, ⟨nd, rfl⟩⟩; refine ⟨_, rfl, ?_⟩))
      go_meet
      case rel => exact ⟨_, (true), (by first | rfl | (simp; done) | (simp [*]; done)), H', ⟨by first | omega | exact Nat.le_refl _⟩, ⟨by (with_reducible repeat (first | refine blk_drewN ?_ _ | refine blk_drew ?_ | refine blk_alloc ?_ _)); exact BK110.out⟩, ⟨by repeat (first | (with_reducible first | exact HB.out | apply below_alloc | apply pw_below_drewN | apply below_drew1 | refine below_set ?_ GE110.out) | exact HB.out)⟩⟩
  case rest =>
    clear HC2
    try clear c1
    try clear c2
    try clear p2
    try clear c5
    try clear c7
    try clear c9
    try clear c10
    try clear c10b0
    try clear c15
    try clear hcz11_0
    try clear hcz11_1
    try clear hcz11_2
    try clear hcz11_3
    try clear hcz12_0
    try clear hcz12_1
    try clear hcz12_2
    try clear hcz12_3
    try clear hcz13_0
    try clear hcz13_1
    try clear hcz13_2
    try clear hcz13_3
    try clear hcz14_0
    try clear hcz14_1
    try clear hcz14_2
    try clear hcz14_3
    try clear hcz15_0
    try clear hcz15_1
    try clear hcz15_2
    try clear hcz15_3
    try clear hfz11_0
    try clear hfz11_1
    try clear hfz11_2
    try clear hfz11_3
    try clear hfz12_0
    try clear hfz12_1
    try clear hfz12_2
    try clear hfz12_3
    try clear hfz13_0
    try clear hfz13_1
    try clear hfz13_2
    try clear hfz13_3
    try clear hfz14_0
    try clear hfz14_1
    try clear hfz14_2
    try clear hfz14_3
    try clear hfz15_0
    try clear hfz15_1
    try clear hfz15_2
    try clear hfz15_3
    obtain ⟨kq, x28_1, rfl, HA, HJ1, BK110, HB⟩ := hcut
    cases kq with
    | zero => exact absurd HA.out (by simp [spec_EntryText.j0])
    | succ kj1 =>
      have H := HA.out
      clear HA
      simp only [spec_EntryText.j0] at H
      by_cases c16 : x28_1 = true
      · subst c16
        have H1 : (some (⟨#[]⟩ : ByteArray)) = some r := by rw [if_pos rfl] at H; exact H
        clear H
        have H := H1
        clear H1
        obtain rfl := Option.some.inj H
        go_wp2
        go_ret
        exact ⟨by first | rfl | (simp [errW_none, errW_some] <;> rfl) | (simp [*, errW_none, errW_some] <;> rfl), by repeat (first | (with_reducible first | exact HB.out | apply below_alloc | apply pw_below_drewN | apply below_drew1 | refine below_set ?_ GE110.out) | exact HB.out)⟩
      · replace c16 := Bool.eq_false_iff.mpr c16
        subst c16
        have H1 : (if a0_0.size + 1 ≤ 9223372036854775807 then ((spec_NumText.f kj1 a0_1).bind fun t114 => (if a0_0.size + 1 + t114.size ≤ 9223372036854775807 then (if a0_0.size + 1 + t114.size + 1 ≤ 9223372036854775807 then ((some (([(⟨#[103, 114, 97, 112, 104]⟩ : ByteArray), (⟨#[118, 97, 108, 117, 101, 115]⟩ : ByteArray), (⟨#[108, 111, 103]⟩ : ByteArray), (⟨#[98, 101, 110, 116]⟩ : ByteArray), (⟨#[111, 116, 104, 101, 114]⟩ : ByteArray)] : List ByteArray) : List ByteArray)).bind fun y115 => (if 0 ≤ (wrap64 (a0_2 - 1)) then (if (wrap64 (a0_2 - 1)) < (y115.length : Int) then (if a0_0.size + 1 + t114.size + 1 + (rdOf ByteArray.empty y115 (wrap64 (a0_2 - 1))).size ≤ 9223372036854775807 then (if a0_0.size + 1 + t114.size + 1 + (rdOf ByteArray.empty y115 (wrap64 (a0_2 - 1))).size + 1 ≤ 9223372036854775807 then ((spec_NumText.f kj1 a0_3).bind fun t119 => (if a0_0.size + 1 + t114.size + 1 + (rdOf ByteArray.empty y115 (wrap64 (a0_2 - 1))).size + 1 + t119.size ≤ 9223372036854775807 then (some ((((((a0_0 ++ (⟨#[32]⟩ : ByteArray)) ++ t114) ++ (⟨#[32]⟩ : ByteArray)) ++ (rdOf ByteArray.empty y115 (wrap64 (a0_2 - 1)))) ++ (⟨#[32]⟩ : ByteArray)) ++ t119)) else (none))) else (none)) else (none)) else (none)) else (none))) else (none)) else (none))) else (none)) = some r := by rw [if_neg (show ¬ (false = true) by decide)] at H; exact H
        clear H
        have H := H1
        clear H1
        by_cases c17 : a0_0.size + 1 ≤ 9223372036854775807
        · rw [if_pos c17] at H
          have c17b0 := eq_true c17
          have c17b1 : decide (a0_0.size + 1 ≤ 9223372036854775807) = true := decide_eq_true c17
          try have c17b2 : (9223372036854775807 < a0_0.size + 1) = False := eq_false (Nat.not_lt.2 c17)
          replace H := Option.bind_eq_some_iff.mp H
          obtain ⟨t114, A180, H⟩ := H
          replace H : (if a0_0.size + 1 + t114.size ≤ 9223372036854775807 then (if a0_0.size + 1 + t114.size + 1 ≤ 9223372036854775807 then ((some (([(⟨#[103, 114, 97, 112, 104]⟩ : ByteArray), (⟨#[118, 97, 108, 117, 101, 115]⟩ : ByteArray), (⟨#[108, 111, 103]⟩ : ByteArray), (⟨#[98, 101, 110, 116]⟩ : ByteArray), (⟨#[111, 116, 104, 101, 114]⟩ : ByteArray)] : List ByteArray) : List ByteArray)).bind fun y115 => (if 0 ≤ (wrap64 (a0_2 - 1)) then (if (wrap64 (a0_2 - 1)) < (y115.length : Int) then (if a0_0.size + 1 + t114.size + 1 + (rdOf ByteArray.empty y115 (wrap64 (a0_2 - 1))).size ≤ 9223372036854775807 then (if a0_0.size + 1 + t114.size + 1 + (rdOf ByteArray.empty y115 (wrap64 (a0_2 - 1))).size + 1 ≤ 9223372036854775807 then ((spec_NumText.f kj1 a0_3).bind fun t119 => (if a0_0.size + 1 + t114.size + 1 + (rdOf ByteArray.empty y115 (wrap64 (a0_2 - 1))).size + 1 + t119.size ≤ 9223372036854775807 then (some ((((((a0_0 ++ (⟨#[32]⟩ : ByteArray)) ++ t114) ++ (⟨#[32]⟩ : ByteArray)) ++ (rdOf ByteArray.empty y115 (wrap64 (a0_2 - 1)))) ++ (⟨#[32]⟩ : ByteArray)) ++ t119)) else (none))) else (none)) else (none)) else (none)) else (none))) else (none)) else (none)) = some r := H
          have A18 := Aside0.mk A180
          clear A180
          by_cases c19 : a0_0.size + 1 + t114.size ≤ 9223372036854775807
          · rw [if_pos c19] at H
            have c19b0 := eq_true c19
            have c19b1 : decide (a0_0.size + 1 + t114.size ≤ 9223372036854775807) = true := decide_eq_true c19
            try have c19b2 : (9223372036854775807 < a0_0.size + 1 + t114.size) = False := eq_false (Nat.not_lt.2 c19)
            by_cases c20 : a0_0.size + 1 + t114.size + 1 ≤ 9223372036854775807
            · rw [if_pos c20] at H
              have c20b0 := eq_true c20
              have c20b1 : decide (a0_0.size + 1 + t114.size + 1 ≤ 9223372036854775807) = true := decide_eq_true c20
              try have c20b2 : (9223372036854775807 < a0_0.size + 1 + t114.size + 1) = False := eq_false (Nat.not_lt.2 c20)
              obtain ⟨y115, hy115⟩ : ∃ y_ : List ByteArray, y_ = (([(⟨#[103, 114, 97, 112, 104]⟩ : ByteArray), (⟨#[118, 97, 108, 117, 101, 115]⟩ : ByteArray), (⟨#[108, 111, 103]⟩ : ByteArray), (⟨#[98, 101, 110, 116]⟩ : ByteArray), (⟨#[111, 116, 104, 101, 114]⟩ : ByteArray)] : List ByteArray)) := ⟨_, rfl⟩
              replace H : (if 0 ≤ (wrap64 (a0_2 - 1)) then (if (wrap64 (a0_2 - 1)) < (y115.length : Int) then (if a0_0.size + 1 + t114.size + 1 + (rdOf ByteArray.empty y115 (wrap64 (a0_2 - 1))).size ≤ 9223372036854775807 then (if a0_0.size + 1 + t114.size + 1 + (rdOf ByteArray.empty y115 (wrap64 (a0_2 - 1))).size + 1 ≤ 9223372036854775807 then ((spec_NumText.f kj1 a0_3).bind fun t119 => (if a0_0.size + 1 + t114.size + 1 + (rdOf ByteArray.empty y115 (wrap64 (a0_2 - 1))).size + 1 + t119.size ≤ 9223372036854775807 then (some ((((((a0_0 ++ (⟨#[32]⟩ : ByteArray)) ++ t114) ++ (⟨#[32]⟩ : ByteArray)) ++ (rdOf ByteArray.empty y115 (wrap64 (a0_2 - 1)))) ++ (⟨#[32]⟩ : ByteArray)) ++ t119)) else (none))) else (none)) else (none)) else (none)) else (none)) = some r := by first | (rw [hy115]; with_reducible exact H) | (have H2_ := (Option.bind_some _ _).symm.trans H; rw [hy115]; with_reducible exact H2_) | (have H2_ := (Option.bind_some _ _).symm.trans H; with_reducible exact H2_) | with_reducible exact H | (rw [hy115]; exact H) | exact H
              have Ny115 := Aside0.mk hy115
              clear hy115
              obtain ⟨ji21, hji21⟩ : ∃ j_ : Int, (wrap64 (a0_2 - 1)) = j_ := ⟨_, rfl⟩
              replace H : (if 0 ≤ (ji21) then (if (ji21) < (y115.length : Int) then (if a0_0.size + 1 + t114.size + 1 + (rdOf ByteArray.empty y115 (ji21)).size ≤ 9223372036854775807 then (if a0_0.size + 1 + t114.size + 1 + (rdOf ByteArray.empty y115 (ji21)).size + 1 ≤ 9223372036854775807 then ((spec_NumText.f kj1 a0_3).bind fun t119 => (if a0_0.size + 1 + t114.size + 1 + (rdOf ByteArray.empty y115 (ji21)).size + 1 + t119.size ≤ 9223372036854775807 then (some ((((((a0_0 ++ (⟨#[32]⟩ : ByteArray)) ++ t114) ++ (⟨#[32]⟩ : ByteArray)) ++ (rdOf ByteArray.empty y115 (ji21))) ++ (⟨#[32]⟩ : ByteArray)) ++ t119)) else (none))) else (none)) else (none)) else (none)) else (none)) = some r := by first | (rw [hji21] at H; exact H) | (simp only [hji21] at H ⊢; exact H)
              (try rw [hji21] at A18)
              have hji21w : (IntKind.i64.wrap (a0_2 - 1)) = ji21 := (i64_w _).trans hji21
              by_cases c22 : 0 ≤ (ji21)
              · rw [if_pos c22] at H
                have c22b0 : decide (0 ≤ (ji21)) = true := decide_eq_true c22
                clear c22
                by_cases c23 : (ji21) < (y115.length : Int)
                · rw [if_pos c23] at H
                  have c23b0 : decide ((ji21) < (y115.length : Int)) = true := decide_eq_true c23
                  clear c23
                  by_cases c24 : a0_0.size + 1 + t114.size + 1 + (rdOf ByteArray.empty y115 (ji21)).size ≤ 9223372036854775807
                  · rw [if_pos c24] at H
                    have c24b0 := eq_true c24
                    have c24b1 : decide (a0_0.size + 1 + t114.size + 1 + (rdOf ByteArray.empty y115 (ji21)).size ≤ 9223372036854775807) = true := decide_eq_true c24
                    try have c24b2 : (9223372036854775807 < a0_0.size + 1 + t114.size + 1 + (rdOf ByteArray.empty y115 (ji21)).size) = False := eq_false (Nat.not_lt.2 c24)
                    by_cases c25 : a0_0.size + 1 + t114.size + 1 + (rdOf ByteArray.empty y115 (ji21)).size + 1 ≤ 9223372036854775807
                    · rw [if_pos c25] at H
                      have c25b0 := eq_true c25
                      have c25b1 : decide (a0_0.size + 1 + t114.size + 1 + (rdOf ByteArray.empty y115 (ji21)).size + 1 ≤ 9223372036854775807) = true := decide_eq_true c25
                      try have c25b2 : (9223372036854775807 < a0_0.size + 1 + t114.size + 1 + (rdOf ByteArray.empty y115 (ji21)).size + 1) = False := eq_false (Nat.not_lt.2 c25)
                      replace H := Option.bind_eq_some_iff.mp H
                      obtain ⟨t119, A260, H⟩ := H
                      replace H : (if a0_0.size + 1 + t114.size + 1 + (rdOf ByteArray.empty y115 (ji21)).size + 1 + t119.size ≤ 9223372036854775807 then (some ((((((a0_0 ++ (⟨#[32]⟩ : ByteArray)) ++ t114) ++ (⟨#[32]⟩ : ByteArray)) ++ (rdOf ByteArray.empty y115 (ji21))) ++ (⟨#[32]⟩ : ByteArray)) ++ t119)) else (none)) = some r := H
                      have A26 := Aside0.mk A260
                      clear A260
                      by_cases c27 : a0_0.size + 1 + t114.size + 1 + (rdOf ByteArray.empty y115 (ji21)).size + 1 + t119.size ≤ 9223372036854775807
                      · rw [if_pos c27] at H
                        have c27b0 := eq_true c27
                        have c27b1 : decide (a0_0.size + 1 + t114.size + 1 + (rdOf ByteArray.empty y115 (ji21)).size + 1 + t119.size ≤ 9223372036854775807) = true := decide_eq_true c27
                        try have c27b2 : (9223372036854775807 < a0_0.size + 1 + t114.size + 1 + (rdOf ByteArray.empty y115 (ji21)).size + 1 + t119.size) = False := eq_false (Nat.not_lt.2 c27)
                        obtain rfl := Option.some.inj H
                        try go_wp2
                        have pi118 : (0 ≤ ((ji21) : Int)) = True := eq_true (of_decide_eq_true (by first | (with_reducible assumption) | assumption))
                        have qi118 : ((ji21) < (y115.length : Int)) = True := eq_true (of_decide_eq_true (by first | (with_reducible assumption) | assumption))
                        have n0_ := Aside0.mk (blk_drew BK110.out)
                        have n1_ := Aside0.mk (below_drew1 HB.out)
                        clear BK110
                        clear HB
                        have BK110 := n0_
                        have HB := n1_
                        clear n0_ n1_
                        refine start_ (n := 21) (S := fun w' => True) (ds := []) #[false, false, false, false, false, false, false, false, false, false, false, false, false, false, false, false, false, false, false, false, false] (by kernel_rfl) rfl rfl trivial (fun hHeld => ?_); refine with_tabW spec_EntryText.tab3 spec_EntryText.bits3 (fun HT_ HW_ => ?_)
                        generalize wc.drew = w28 at BK110 HB hHeld ⊢
                        refine pure_ (i := 0) (N := some 29) (v := ?_) (a' := ?_) #[true, false, false, false, false, false, false, false, false, false, false, false, false, false, false, false, false, false, false, false, false] rfl rfl (any_of HT_.out (by kernel_rfl)) (fun _ _ _ h => h) (Or.inl ⟨by rfl, ?_⟩) ?_ ?_
                        rotate_left
                        · intro w'
                          go_simp
                          with_reducible rfl
                        rotate_left
                        · simp only [Act.put, List.setIfInBounds_toArray, List.set_cons_zero, List.set_cons_succ, i64_w, i32_w]
                          rfl
                        refine pure_ (i := 3) (N := some 32) (v := ?_) (a' := ?_) #[true, false, false, true, false, false, false, false, false, false, false, false, false, false, false, false, false, false, false, false, false] rfl rfl (any_of HT_.out (by kernel_rfl)) (fun _ _ _ h => h) (Or.inl ⟨by rfl, ?_⟩) ?_ ?_
                        rotate_left
                        · intro w'
                          go_simp
                          with_reducible rfl
                        rotate_left
                        · simp only [Act.put, List.setIfInBounds_toArray, List.set_cons_zero, List.set_cons_succ, i64_w, i32_w]
                          rfl
                        refine pure_ (i := 9) (N := some 38) (v := ?_) (a' := ?_) #[true, false, false, true, false, false, false, false, false, true, false, false, false, false, false, false, false, false, false, false, false] rfl rfl (any_of HT_.out (by kernel_rfl)) (fun _ _ _ h => h) (Or.inl ⟨by rfl, ?_⟩) ?_ ?_
                        rotate_left
                        · intro w'
                          go_simp
                          with_reducible rfl
                        rotate_left
                        · simp only [Act.put, List.setIfInBounds_toArray, List.set_cons_zero, List.set_cons_succ, i64_w, i32_w]
                          rfl
                        refine pure_ (i := 16) (N := some 45) (v := ?_) (a' := ?_) #[true, false, false, true, false, false, false, false, false, true, false, false, false, false, false, false, true, false, false, false, false] rfl rfl (any_of HT_.out (by kernel_rfl)) (fun _ _ _ h => h) (Or.inl ⟨by rfl, ?_⟩) ?_ ?_
                        rotate_left
                        · intro w'
                          go_simp
                          with_reducible rfl
                        rotate_left
                        · simp only [Act.put, List.setIfInBounds_toArray, List.set_cons_zero, List.set_cons_succ, i64_w, i32_w]
                          rfl
                        refine inv_at [1, 2, 4, 5, 6, 7, 8, 10, 11, 12, 13, 14, 15, 17, 18, 19, 20] (fun a0_ b a w' => ∃ (v116 : Value) (adz_v116 : Addr) (m12_ : Value), a = putSel a0_ b [(1, 30, .string a0_0), (2, 31, .string (a0_0 ++ (⟨#[32]⟩ : ByteArray))), (4, 33, .int .i64 a0_1), (5, 34, .string t114), (6, 35, .string ((a0_0 ++ (⟨#[32]⟩ : ByteArray)) ++ t114)), (7, 36, .string (((a0_0 ++ (⟨#[32]⟩ : ByteArray)) ++ t114) ++ (⟨#[32]⟩ : ByteArray))), (8, 37, v116), (10, 39, .int .i64 a0_2), (11, 40, .int .i64 ji21), (12, 41, m12_), (13, 42, .string (rdOf ByteArray.empty y115 (ji21))), (14, 43, .string ((((a0_0 ++ (⟨#[32]⟩ : ByteArray)) ++ t114) ++ (⟨#[32]⟩ : ByteArray)) ++ (rdOf ByteArray.empty y115 (ji21)))), (15, 44, .string (((((a0_0 ++ (⟨#[32]⟩ : ByteArray)) ++ t114) ++ (⟨#[32]⟩ : ByteArray)) ++ (rdOf ByteArray.empty y115 (ji21))) ++ (⟨#[32]⟩ : ByteArray))), (17, 46, .int .i64 a0_3), (18, 47, .string t119), (19, 48, .string ((((((a0_0 ++ (⟨#[32]⟩ : ByteArray)) ++ t114) ++ (⟨#[32]⟩ : ByteArray)) ++ (rdOf ByteArray.empty y115 (ji21))) ++ (⟨#[32]⟩ : ByteArray)) ++ t119)), (20, 2, .string ((((((a0_0 ++ (⟨#[32]⟩ : ByteArray)) ++ t114) ++ (⟨#[32]⟩ : ByteArray)) ++ (rdOf ByteArray.empty y115 (ji21))) ++ (⟨#[32]⟩ : ByteArray)) ++ t119))] ∧ (w'.heap[gb110]? = some (.cells #[.string a0_0, .int .i64 a0_1, .int .i64 a0_2, .int .i64 a0_3] 34 (0, 0))) ∧ (Below w.heap.size w w') ∧ (b 8 = true → Kd.R Kd.string 9 w' w.heap.size (fun _ => True) v116 y115) ∧ (b 8 = true → ∃ c_, (v116 : Value) = .slice (some adz_v116) y115.length c_) ∧ (b 12 = true → (m12_ : Value) = .pointer (some (adz_v116.add ((ji21)).toNat)))) HT_.out HW_.out (by kernel_rfl) (by kernel_rfl) ?_ ?_ ?_
                        · exact ⟨.bool false, ⟨0, 0, none⟩, .bool false, by simp only [putSel, Bool.false_eq_true, if_false], BK110.out, HB.out, fun h_ => absurd h_ (by decide), fun h_ => absurd h_ (by decide), fun h_ => absurd h_ (by decide)⟩
                        · skip
                          clear BK110 HB
                          refine steps_cons ?_ ?_
                          · rintro b a w' ⟨v116, adz_v116, m12_, ha, Q_BK110, Q_HB, Q_HO117, Q_HA_HO117, Q_X12_⟩ hb_ hon hoff
                            refine ⟨_, rfl, fun K hK => ?_⟩
                            have e29 : a.tmps[29]? = some (.pointer (some ⟨gb110, 0, none⟩)) := by rw [ha]; exact (putSel_off rfl).trans rfl
                            replace ha := Aside0.mk ha
                            have BK110 := Aside0.mk Q_BK110
                            have HB := Aside0.mk Q_HB
                            have hc0_ : w'.cell? ⟨gb110, 0, none⟩ = some (.string a0_0) := (blk_cell BK110.out 0).trans rfl
                            have hc1_ : w'.cell? ⟨gb110, 1, none⟩ = some (.int .i64 a0_1) := (blk_cell BK110.out 1).trans rfl
                            have hc2_ : w'.cell? ⟨gb110, 2, none⟩ = some (.int .i64 a0_2) := (blk_cell BK110.out 2).trans rfl
                            have hc3_ : w'.cell? ⟨gb110, 3, none⟩ = some (.int .i64 a0_3) := (blk_cell BK110.out 3).trans rfl
                            refine value_ (w1 := w') (v := .string a0_0) (by rfl) rfl ?_ ?_
                            · go_simp
                              (try simp only [i64_w])
                              try rfl
                            refine hK.out _ _ ⟨v116, adz_v116, m12_, (by rw [ha.out]; exact putSel_upk 0 hb_ rfl rfl rfl), Q_BK110, Q_HB, Q_HO117, Q_HA_HO117, Q_X12_⟩
                          refine steps_cons ?_ ?_
                          · rintro b a w' ⟨v116, adz_v116, m12_, ha, Q_BK110, Q_HB, Q_HO117, Q_HA_HO117, Q_X12_⟩ hb_ hon hoff
                            refine ⟨_, rfl, fun K hK => ?_⟩
                            have e30 : a.tmps[30]? = some (.string a0_0) := by rw [ha]; exact putSel_on (e := (1, 30, .string a0_0)) 0 rfl rfl (hon 1 (by kernel_rfl)) rfl
                            replace ha := Aside0.mk ha
                            have BK110 := Aside0.mk Q_BK110
                            have HB := Aside0.mk Q_HB
                            refine value_ (w1 := w') (v := .string (a0_0 ++ (⟨#[32]⟩ : ByteArray))) (by rfl) rfl ?_ ?_
                            · go_simp
                              (try simp only [i64_w])
                              try rfl
                            refine hK.out _ _ ⟨v116, adz_v116, m12_, (by rw [ha.out]; exact putSel_upk 1 hb_ rfl rfl rfl), Q_BK110, Q_HB, Q_HO117, Q_HA_HO117, Q_X12_⟩
                          refine steps_cons ?_ ?_
                          · rintro b a w' ⟨v116, adz_v116, m12_, ha, Q_BK110, Q_HB, Q_HO117, Q_HA_HO117, Q_X12_⟩ hb_ hon hoff
                            refine ⟨_, rfl, fun K hK => ?_⟩
                            have e32 : a.tmps[32]? = some (.pointer (some ⟨gb110, 1, none⟩)) := by rw [ha]; exact (putSel_off rfl).trans rfl
                            replace ha := Aside0.mk ha
                            have BK110 := Aside0.mk Q_BK110
                            have HB := Aside0.mk Q_HB
                            have hc0_ : w'.cell? ⟨gb110, 0, none⟩ = some (.string a0_0) := (blk_cell BK110.out 0).trans rfl
                            have hc1_ : w'.cell? ⟨gb110, 1, none⟩ = some (.int .i64 a0_1) := (blk_cell BK110.out 1).trans rfl
                            have hc2_ : w'.cell? ⟨gb110, 2, none⟩ = some (.int .i64 a0_2) := (blk_cell BK110.out 2).trans rfl
                            have hc3_ : w'.cell? ⟨gb110, 3, none⟩ = some (.int .i64 a0_3) := (blk_cell BK110.out 3).trans rfl
                            refine value_ (w1 := w') (v := .int .i64 a0_1) (by rfl) rfl ?_ ?_
                            · go_simp
                              (try simp only [i64_w])
                              try rfl
                            refine hK.out _ _ ⟨v116, adz_v116, m12_, (by rw [ha.out]; exact putSel_upk 2 hb_ rfl rfl rfl), Q_BK110, Q_HB, Q_HO117, Q_HA_HO117, Q_X12_⟩
                          refine steps_cons ?_ ?_
                          · rintro b a w' ⟨v116, adz_v116, m12_, ha, Q_BK110, Q_HB, Q_HO117, Q_HA_HO117, Q_X12_⟩ hb_ hon hoff
                            refine ⟨_, rfl, fun K hK => ?_⟩
                            have e33 : a.tmps[33]? = some (.int .i64 a0_1) := by rw [ha]; exact putSel_on (e := (4, 33, .int .i64 a0_1)) 2 rfl rfl (hon 4 (by kernel_rfl)) rfl
                            replace ha := Aside0.mk ha
                            have BK110 := Aside0.mk Q_BK110
                            have HB := Aside0.mk Q_HB
                            refine goes_ Tryd.func25 (by kernel_rfl) rfl #[.int .i64 a0_1] (by rfl) rfl rfl (by first | (simp only [List.map_toArray, List.map_cons, List.map_nil, Act.eval, Array.getD_eq_getD_getElem?, Option.getD_some, e33]; done) | (simp only [List.map_toArray, List.map_cons, List.map_nil, Act.eval, Array.getD_eq_getD_getElem?, Option.getD_some, e33]; rfl)) ?_
                            with_reducible refine (spec_NumText.calls kj1 a0_1 t114 _ A18.out).mono ?_
                            rintro e w29 ⟨rfl, hb⟩
                            refine ⟨_, rfl, ?_⟩
                            have n0_ := Aside0.mk (blk_below (g := gb110) (o := .cells #[.string a0_0, .int .i64 a0_1, .int .i64 a0_2, .int .i64 a0_3] 34 (0, 0)) (by (with_reducible repeat (first | refine blk_drewN ?_ _ | refine blk_drew ?_ | refine blk_alloc ?_ _)); exact BK110.out) hb)
                            have n1_ := Aside0.mk (below_step (by repeat (first | (with_reducible first | exact HB.out | apply below_alloc | apply pw_below_drewN | apply below_drew1 | refine below_set ?_ GE110.out) | exact HB.out)) hb)
                            have z_HO117 := fun (h0_ : b 8 = true) => (show Kd.R Kd.string 9 w29 w.heap.size (fun _ => True) v116 y115 from by first | exact (Kd.R_below (by (with_reducible repeat (first | apply Kd.R_alloc | apply Kd.R_drewN | apply Kd.R_drew)); exact (Q_HO117 h0_)) hb) | exact Kd.R_mono (Kd.R_below (by (with_reducible repeat (first | apply Kd.R_alloc | apply Kd.R_drewN | apply Kd.R_drew)); exact (Q_HO117 h0_)) hb) (fun _ h_ => by first | trivial | exact h_ | exact h_.1))
                            clear BK110
                            clear HB
                            have BK110 := n0_
                            have HB := n1_
                            clear n0_ n1_
                            (try clear hb)
                            (try clear hb2)
                            (try clear hk)
                            (try clear hi)
                            refine hK.out _ _ ⟨v116, adz_v116, m12_, (by rw [ha.out]; exact putSel_upk 3 hb_ rfl rfl rfl), (by (with_reducible repeat (first | refine blk_drewN ?_ _ | refine blk_drew ?_ | refine blk_alloc ?_ _)); exact BK110.out), (by repeat (first | (with_reducible first | exact HB.out | apply below_alloc | apply pw_below_drewN | apply below_drew1 | refine below_set ?_ GE110.out) | exact HB.out)), z_HO117, Q_HA_HO117, Q_X12_⟩
                          refine steps_cons ?_ ?_
                          · rintro b a w' ⟨v116, adz_v116, m12_, ha, Q_BK110, Q_HB, Q_HO117, Q_HA_HO117, Q_X12_⟩ hb_ hon hoff
                            refine ⟨_, rfl, fun K hK => ?_⟩
                            have e31 : a.tmps[31]? = some (.string (a0_0 ++ (⟨#[32]⟩ : ByteArray))) := by rw [ha]; exact putSel_on (e := (2, 31, .string (a0_0 ++ (⟨#[32]⟩ : ByteArray)))) 1 rfl rfl (hon 2 (by kernel_rfl)) rfl
                            have e34 : a.tmps[34]? = some (.string t114) := by rw [ha]; exact putSel_on (e := (5, 34, .string t114)) 3 rfl rfl (hon 5 (by kernel_rfl)) rfl
                            replace ha := Aside0.mk ha
                            have BK110 := Aside0.mk Q_BK110
                            have HB := Aside0.mk Q_HB
                            refine value_ (w1 := w') (v := .string ((a0_0 ++ (⟨#[32]⟩ : ByteArray)) ++ t114)) (by rfl) rfl ?_ ?_
                            · go_simp
                              (try simp only [i64_w])
                              try rfl
                            refine hK.out _ _ ⟨v116, adz_v116, m12_, (by rw [ha.out]; exact putSel_upk 4 hb_ rfl rfl rfl), Q_BK110, Q_HB, Q_HO117, Q_HA_HO117, Q_X12_⟩
                          refine steps_cons ?_ ?_
                          · rintro b a w' ⟨v116, adz_v116, m12_, ha, Q_BK110, Q_HB, Q_HO117, Q_HA_HO117, Q_X12_⟩ hb_ hon hoff
                            refine ⟨_, rfl, fun K hK => ?_⟩
                            have e35 : a.tmps[35]? = some (.string ((a0_0 ++ (⟨#[32]⟩ : ByteArray)) ++ t114)) := by rw [ha]; exact putSel_on (e := (6, 35, .string ((a0_0 ++ (⟨#[32]⟩ : ByteArray)) ++ t114))) 4 rfl rfl (hon 6 (by kernel_rfl)) rfl
                            replace ha := Aside0.mk ha
                            have BK110 := Aside0.mk Q_BK110
                            have HB := Aside0.mk Q_HB
                            refine value_ (w1 := w') (v := .string (((a0_0 ++ (⟨#[32]⟩ : ByteArray)) ++ t114) ++ (⟨#[32]⟩ : ByteArray))) (by rfl) rfl ?_ ?_
                            · go_simp
                              (try simp only [i64_w])
                              try rfl
                            refine hK.out _ _ ⟨v116, adz_v116, m12_, (by rw [ha.out]; exact putSel_upk 5 hb_ rfl rfl rfl), Q_BK110, Q_HB, Q_HO117, Q_HA_HO117, Q_X12_⟩
                          refine steps_cons ?_ ?_
                          · rintro b a w' ⟨v116, adz_v116, m12_, ha, Q_BK110, Q_HB, Q_HO117, Q_HA_HO117, Q_X12_⟩ hb_ hon hoff
                            refine ⟨_, rfl, fun K hK => ?_⟩
                            replace ha := Aside0.mk ha
                            have BK110 := Aside0.mk Q_BK110
                            have HB := Aside0.mk Q_HB
                            refine Kd.R_lit_step Kd.string _ 9 ?hg (N := 37) ?hd (xs := ([(⟨#[103, 114, 97, 112, 104]⟩ : ByteArray), (⟨#[118, 97, 108, 117, 101, 115]⟩ : ByteArray), (⟨#[108, 111, 103]⟩ : ByteArray), (⟨#[98, 101, 110, 116]⟩ : ByteArray), (⟨#[111, 116, 104, 101, 114]⟩ : ByteArray)] : List ByteArray)) (inner := [.string (⟨#[103, 114, 97, 112, 104]⟩ : ByteArray), .string (⟨#[118, 97, 108, 117, 101, 115]⟩ : ByteArray), .string (⟨#[108, 111, 103]⟩ : ByteArray), .string (⟨#[98, 101, 110, 116]⟩ : ByteArray), .string (⟨#[111, 116, 104, 101, 114]⟩ : ByteArray)]) (ok := fun _ => True) (okp := fun _ => True) ?hr ?hp (fun _ hk => hk) trivial (Below.refl _ _) (Nat.le_refl _) (by simp) ?_; (case hd => rfl); (case hg => rfl); (case hr => first | (go_simp; done) | (go_simp; rfl)); (case hp => exact (Reps.one (show Kd.M Kd.string _ _ _ (⟨#[103, 114, 97, 112, 104]⟩ : ByteArray) [.string (⟨#[103, 114, 97, 112, 104]⟩ : ByteArray)] from rfl) (Reps.one (show Kd.M Kd.string _ _ _ (⟨#[118, 97, 108, 117, 101, 115]⟩ : ByteArray) [.string (⟨#[118, 97, 108, 117, 101, 115]⟩ : ByteArray)] from rfl) (Reps.one (show Kd.M Kd.string _ _ _ (⟨#[108, 111, 103]⟩ : ByteArray) [.string (⟨#[108, 111, 103]⟩ : ByteArray)] from rfl) (Reps.one (show Kd.M Kd.string _ _ _ (⟨#[98, 101, 110, 116]⟩ : ByteArray) [.string (⟨#[98, 101, 110, 116]⟩ : ByteArray)] from rfl) (Reps.one (show Kd.M Kd.string _ _ _ (⟨#[111, 116, 104, 101, 114]⟩ : ByteArray) [.string (⟨#[111, 116, 104, 101, 114]⟩ : ByteArray)] from rfl) (Reps.none _ _)))))))
                            intro v116 w29 ho30 hb hg_ hnew_
                            clear hg_ hnew_
                            (first | rw [← Ny115.out] at ho30 | (simp only [Int.reduceToNat] at ho30; rw [← Ny115.out] at ho30))
                            have n0_ := Aside0.mk (Kd.R_lower ho30 (below_size (by repeat (first | (with_reducible first | exact HB.out | apply below_alloc | apply pw_below_drewN | apply below_drew1 | refine below_set ?_ GE110.out) | exact HB.out))))
                            have n1_ := Aside0.mk (blk_below (g := gb110) (o := .cells #[.string a0_0, .int .i64 a0_1, .int .i64 a0_2, .int .i64 a0_3] 34 (0, 0)) (by (with_reducible repeat (first | refine blk_drewN ?_ _ | refine blk_drew ?_ | refine blk_alloc ?_ _)); exact BK110.out) hb)
                            have n2_ := Aside0.mk (below_step (by repeat (first | (with_reducible first | exact HB.out | apply below_alloc | apply pw_below_drewN | apply below_drew1 | refine below_set ?_ GE110.out) | exact HB.out)) hb)
                            clear BK110
                            clear HB
                            have HO117 := n0_
                            have BK110 := n1_
                            have HB := n2_
                            clear n0_ n1_ n2_
                            clear hb ho30
                            obtain ⟨Ao31, co31, eo31⟩ := Kd.R_slice HO117.out
                            subst eo31
                            obtain ⟨ado31, fo31, _⟩ := Kd.at_string (Kd.R_reads' HO117.out).2.2 0 (by decide) (by rw [Ny115.out]; simp)
                            cases fo31
                            refine hK.out _ _ ⟨.slice (some ado31) y115.length co31, ado31, m12_, (by rw [ha.out]; exact putSel_upk 6 hb_ rfl rfl rfl), (by (with_reducible repeat (first | refine blk_drewN ?_ _ | refine blk_drew ?_ | refine blk_alloc ?_ _)); exact BK110.out), (by repeat (first | (with_reducible first | exact HB.out | apply below_alloc | apply pw_below_drewN | apply below_drew1 | refine below_set ?_ GE110.out) | exact HB.out)), fun _ => (by (with_reducible repeat (first | apply Kd.R_alloc | apply Kd.R_drewN | apply Kd.R_drew)); exact HO117.out), fun _ => ⟨_, rfl⟩, fun h0_ => absurd ((hoff 12 (by kernel_rfl)).symm.trans h0_) (by decide)⟩
                          refine steps_cons ?_ ?_
                          · rintro b a w' ⟨v116, adz_v116, m12_, ha, Q_BK110, Q_HB, Q_HO117, Q_HA_HO117, Q_X12_⟩ hb_ hon hoff
                            refine ⟨_, rfl, fun K hK => ?_⟩
                            have e38 : a.tmps[38]? = some (.pointer (some ⟨gb110, 2, none⟩)) := by rw [ha]; exact (putSel_off rfl).trans rfl
                            replace ha := Aside0.mk ha
                            have BK110 := Aside0.mk Q_BK110
                            have HB := Aside0.mk Q_HB
                            have hc0_ : w'.cell? ⟨gb110, 0, none⟩ = some (.string a0_0) := (blk_cell BK110.out 0).trans rfl
                            have hc1_ : w'.cell? ⟨gb110, 1, none⟩ = some (.int .i64 a0_1) := (blk_cell BK110.out 1).trans rfl
                            have hc2_ : w'.cell? ⟨gb110, 2, none⟩ = some (.int .i64 a0_2) := (blk_cell BK110.out 2).trans rfl
                            have hc3_ : w'.cell? ⟨gb110, 3, none⟩ = some (.int .i64 a0_3) := (blk_cell BK110.out 3).trans rfl
                            refine value_ (w1 := w') (v := .int .i64 a0_2) (by rfl) rfl ?_ ?_
                            · go_simp
                              (try simp only [i64_w])
                              try rfl
                            refine hK.out _ _ ⟨v116, adz_v116, m12_, (by rw [ha.out]; exact putSel_upk 7 hb_ rfl rfl rfl), Q_BK110, Q_HB, Q_HO117, Q_HA_HO117, fun h0_ => absurd ((hoff 12 (by kernel_rfl)).symm.trans h0_) (by decide)⟩
                          refine steps_cons ?_ ?_
                          · rintro b a w' ⟨v116, adz_v116, m12_, ha, Q_BK110, Q_HB, Q_HO117, Q_HA_HO117, Q_X12_⟩ hb_ hon hoff
                            refine ⟨_, rfl, fun K hK => ?_⟩
                            have e39 : a.tmps[39]? = some (.int .i64 a0_2) := by rw [ha]; exact putSel_on (e := (10, 39, .int .i64 a0_2)) 7 rfl rfl (hon 10 (by kernel_rfl)) rfl
                            replace ha := Aside0.mk ha
                            have BK110 := Aside0.mk Q_BK110
                            have HB := Aside0.mk Q_HB
                            refine value_ (w1 := w') (v := .int .i64 ji21) (by rfl) rfl ?_ ?_
                            · go_simp
                              (try simp only [i64_w])
                              try rfl
                            refine hK.out _ _ ⟨v116, adz_v116, m12_, (by rw [ha.out]; exact putSel_upk 8 hb_ rfl rfl rfl), Q_BK110, Q_HB, Q_HO117, Q_HA_HO117, fun h0_ => absurd ((hoff 12 (by kernel_rfl)).symm.trans h0_) (by decide)⟩
                          refine steps_cons ?_ ?_
                          · rintro b a w' ⟨v116, adz_v116, m12_, ha, Q_BK110, Q_HB, Q_HO117, Q_HA_HO117, Q_X12_⟩ hb_ hon hoff
                            refine ⟨_, rfl, fun K hK => ?_⟩
                            have e37 : a.tmps[37]? = some (v116) := by rw [ha]; exact putSel_on (e := (8, 37, v116)) 6 rfl rfl (hon 8 (by kernel_rfl)) rfl
                            have e40 : a.tmps[40]? = some (.int .i64 ji21) := by rw [ha]; exact putSel_on (e := (11, 40, .int .i64 ji21)) 8 rfl rfl (hon 11 (by kernel_rfl)) rfl
                            replace ha := Aside0.mk ha
                            have BK110 := Aside0.mk Q_BK110
                            have HB := Aside0.mk Q_HB
                            have HO117 := Aside0.mk (Q_HO117 (hon 8 (by kernel_rfl)))
                            have HA_HO117 := Aside0.mk (Q_HA_HO117 (hon 8 (by kernel_rfl)))
                            obtain ⟨c_, hv_⟩ := HA_HO117.out
                            rw [hv_] at e37
                            refine value_ (w1 := w') (v := .pointer (some (adz_v116.add ((ji21)).toNat))) (by rfl) rfl ?_ ?_
                            · go_simp
                              (try simp only [i64_w])
                              try rfl
                            refine hK.out _ _ ⟨v116, adz_v116, (.pointer (some (adz_v116.add ((ji21)).toNat))), (by rw [ha.out]; exact putSel_upk 9 hb_ rfl rfl rfl), Q_BK110, Q_HB, Q_HO117, Q_HA_HO117, fun _ => rfl⟩
                          refine steps_cons ?_ ?_
                          · rintro b a w' ⟨v116, adz_v116, m12_, ha, Q_BK110, Q_HB, Q_HO117, Q_HA_HO117, Q_X12_⟩ hb_ hon hoff
                            refine ⟨_, rfl, fun K hK => ?_⟩
                            have e41 : a.tmps[41]? = some (m12_) := by rw [ha]; exact putSel_on (e := (12, 41, m12_)) 9 rfl rfl (hon 12 (by kernel_rfl)) rfl
                            rw [Q_X12_ (hon 12 (by kernel_rfl))] at e41
                            replace ha := Aside0.mk ha
                            have BK110 := Aside0.mk Q_BK110
                            have HB := Aside0.mk Q_HB
                            have HO117 := Aside0.mk (Q_HO117 (hon 8 (by kernel_rfl)))
                            have HA_HO117 := Aside0.mk (Q_HA_HO117 (hon 8 (by kernel_rfl)))
                            obtain ⟨c_, hv_⟩ := HA_HO117.out
                            have hF_ := HO117.out
                            rw [hv_] at hF_
                            obtain ⟨ad_, ea_, hx_⟩ := Kd.at_string (Kd.R_reads' hF_).2.2 (ji21) (of_eq_true pi118) (of_eq_true qi118)
                            cases ea_
                            refine value_ (w1 := w') (v := .string (rdOf ByteArray.empty y115 (ji21))) (by rfl) rfl ?_ ?_
                            · go_simp
                              (try simp only [i64_w])
                              try rfl
                            refine hK.out _ _ ⟨v116, adz_v116, m12_, (by rw [ha.out]; exact putSel_upk 10 hb_ rfl rfl rfl), Q_BK110, Q_HB, Q_HO117, Q_HA_HO117, Q_X12_⟩
                          refine steps_cons ?_ ?_
                          · rintro b a w' ⟨v116, adz_v116, m12_, ha, Q_BK110, Q_HB, Q_HO117, Q_HA_HO117, Q_X12_⟩ hb_ hon hoff
                            refine ⟨_, rfl, fun K hK => ?_⟩
                            have e36 : a.tmps[36]? = some (.string (((a0_0 ++ (⟨#[32]⟩ : ByteArray)) ++ t114) ++ (⟨#[32]⟩ : ByteArray))) := by rw [ha]; exact putSel_on (e := (7, 36, .string (((a0_0 ++ (⟨#[32]⟩ : ByteArray)) ++ t114) ++ (⟨#[32]⟩ : ByteArray)))) 5 rfl rfl (hon 7 (by kernel_rfl)) rfl
                            have e42 : a.tmps[42]? = some (.string (rdOf ByteArray.empty y115 (ji21))) := by rw [ha]; exact putSel_on (e := (13, 42, .string (rdOf ByteArray.empty y115 (ji21)))) 10 rfl rfl (hon 13 (by kernel_rfl)) rfl
                            replace ha := Aside0.mk ha
                            have BK110 := Aside0.mk Q_BK110
                            have HB := Aside0.mk Q_HB
                            have HO117 := Aside0.mk (Q_HO117 (hon 8 (by kernel_rfl)))
                            have HA_HO117 := Aside0.mk (Q_HA_HO117 (hon 8 (by kernel_rfl)))
                            refine value_ (w1 := w') (v := .string ((((a0_0 ++ (⟨#[32]⟩ : ByteArray)) ++ t114) ++ (⟨#[32]⟩ : ByteArray)) ++ (rdOf ByteArray.empty y115 (ji21)))) (by rfl) rfl ?_ ?_
                            · go_simp
                              (try simp only [i64_w])
                              try rfl
                            refine hK.out _ _ ⟨v116, adz_v116, m12_, (by rw [ha.out]; exact putSel_upk 11 hb_ rfl rfl rfl), Q_BK110, Q_HB, Q_HO117, Q_HA_HO117, Q_X12_⟩
                          refine steps_cons ?_ ?_
                          · rintro b a w' ⟨v116, adz_v116, m12_, ha, Q_BK110, Q_HB, Q_HO117, Q_HA_HO117, Q_X12_⟩ hb_ hon hoff
                            refine ⟨_, rfl, fun K hK => ?_⟩
                            have e43 : a.tmps[43]? = some (.string ((((a0_0 ++ (⟨#[32]⟩ : ByteArray)) ++ t114) ++ (⟨#[32]⟩ : ByteArray)) ++ (rdOf ByteArray.empty y115 (ji21)))) := by rw [ha]; exact putSel_on (e := (14, 43, .string ((((a0_0 ++ (⟨#[32]⟩ : ByteArray)) ++ t114) ++ (⟨#[32]⟩ : ByteArray)) ++ (rdOf ByteArray.empty y115 (ji21))))) 11 rfl rfl (hon 14 (by kernel_rfl)) rfl
                            replace ha := Aside0.mk ha
                            have BK110 := Aside0.mk Q_BK110
                            have HB := Aside0.mk Q_HB
                            have HO117 := Aside0.mk (Q_HO117 (hon 8 (by kernel_rfl)))
                            have HA_HO117 := Aside0.mk (Q_HA_HO117 (hon 8 (by kernel_rfl)))
                            refine value_ (w1 := w') (v := .string (((((a0_0 ++ (⟨#[32]⟩ : ByteArray)) ++ t114) ++ (⟨#[32]⟩ : ByteArray)) ++ (rdOf ByteArray.empty y115 (ji21))) ++ (⟨#[32]⟩ : ByteArray))) (by rfl) rfl ?_ ?_
                            · go_simp
                              (try simp only [i64_w])
                              try rfl
                            refine hK.out _ _ ⟨v116, adz_v116, m12_, (by rw [ha.out]; exact putSel_upk 12 hb_ rfl rfl rfl), Q_BK110, Q_HB, Q_HO117, Q_HA_HO117, Q_X12_⟩
                          refine steps_cons ?_ ?_
                          · rintro b a w' ⟨v116, adz_v116, m12_, ha, Q_BK110, Q_HB, Q_HO117, Q_HA_HO117, Q_X12_⟩ hb_ hon hoff
                            refine ⟨_, rfl, fun K hK => ?_⟩
                            have e45 : a.tmps[45]? = some (.pointer (some ⟨gb110, 3, none⟩)) := by rw [ha]; exact (putSel_off rfl).trans rfl
                            replace ha := Aside0.mk ha
                            have BK110 := Aside0.mk Q_BK110
                            have HB := Aside0.mk Q_HB
                            have hc0_ : w'.cell? ⟨gb110, 0, none⟩ = some (.string a0_0) := (blk_cell BK110.out 0).trans rfl
                            have hc1_ : w'.cell? ⟨gb110, 1, none⟩ = some (.int .i64 a0_1) := (blk_cell BK110.out 1).trans rfl
                            have hc2_ : w'.cell? ⟨gb110, 2, none⟩ = some (.int .i64 a0_2) := (blk_cell BK110.out 2).trans rfl
                            have hc3_ : w'.cell? ⟨gb110, 3, none⟩ = some (.int .i64 a0_3) := (blk_cell BK110.out 3).trans rfl
                            refine value_ (w1 := w') (v := .int .i64 a0_3) (by rfl) rfl ?_ ?_
                            · go_simp
                              (try simp only [i64_w])
                              try rfl
                            refine hK.out _ _ ⟨v116, adz_v116, m12_, (by rw [ha.out]; exact putSel_upk 13 hb_ rfl rfl rfl), Q_BK110, Q_HB, Q_HO117, Q_HA_HO117, Q_X12_⟩
                          refine steps_cons ?_ ?_
                          · rintro b a w' ⟨v116, adz_v116, m12_, ha, Q_BK110, Q_HB, Q_HO117, Q_HA_HO117, Q_X12_⟩ hb_ hon hoff
                            refine ⟨_, rfl, fun K hK => ?_⟩
                            have e46 : a.tmps[46]? = some (.int .i64 a0_3) := by rw [ha]; exact putSel_on (e := (17, 46, .int .i64 a0_3)) 13 rfl rfl (hon 17 (by kernel_rfl)) rfl
                            replace ha := Aside0.mk ha
                            have BK110 := Aside0.mk Q_BK110
                            have HB := Aside0.mk Q_HB
                            refine goes_ Tryd.func25 (by kernel_rfl) rfl #[.int .i64 a0_3] (by rfl) rfl rfl (by first | (simp only [List.map_toArray, List.map_cons, List.map_nil, Act.eval, Array.getD_eq_getD_getElem?, Option.getD_some, e46]; done) | (simp only [List.map_toArray, List.map_cons, List.map_nil, Act.eval, Array.getD_eq_getD_getElem?, Option.getD_some, e46]; rfl)) ?_
                            with_reducible refine (spec_NumText.calls kj1 a0_3 t119 _ A26.out).mono ?_
                            rintro e w31 ⟨rfl, hb⟩
                            refine ⟨_, rfl, ?_⟩
                            have n0_ := Aside0.mk (blk_below (g := gb110) (o := .cells #[.string a0_0, .int .i64 a0_1, .int .i64 a0_2, .int .i64 a0_3] 34 (0, 0)) (by (with_reducible repeat (first | refine blk_drewN ?_ _ | refine blk_drew ?_ | refine blk_alloc ?_ _)); exact BK110.out) hb)
                            have n1_ := Aside0.mk (below_step (by repeat (first | (with_reducible first | exact HB.out | apply below_alloc | apply pw_below_drewN | apply below_drew1 | refine below_set ?_ GE110.out) | exact HB.out)) hb)
                            have z_HO117 := fun (h0_ : b 8 = true) => (show Kd.R Kd.string 9 w31 w.heap.size (fun _ => True) v116 y115 from by first | exact (Kd.R_below (by (with_reducible repeat (first | apply Kd.R_alloc | apply Kd.R_drewN | apply Kd.R_drew)); exact (Q_HO117 h0_)) hb) | exact Kd.R_mono (Kd.R_below (by (with_reducible repeat (first | apply Kd.R_alloc | apply Kd.R_drewN | apply Kd.R_drew)); exact (Q_HO117 h0_)) hb) (fun _ h_ => by first | trivial | exact h_ | exact h_.1))
                            clear BK110
                            clear HB
                            have BK110 := n0_
                            have HB := n1_
                            clear n0_ n1_
                            (try clear hb)
                            (try clear hb2)
                            (try clear hk)
                            (try clear hi)
                            refine hK.out _ _ ⟨v116, adz_v116, m12_, (by rw [ha.out]; exact putSel_upk 14 hb_ rfl rfl rfl), (by (with_reducible repeat (first | refine blk_drewN ?_ _ | refine blk_drew ?_ | refine blk_alloc ?_ _)); exact BK110.out), (by repeat (first | (with_reducible first | exact HB.out | apply below_alloc | apply pw_below_drewN | apply below_drew1 | refine below_set ?_ GE110.out) | exact HB.out)), z_HO117, Q_HA_HO117, Q_X12_⟩
                          refine steps_cons ?_ ?_
                          · rintro b a w' ⟨v116, adz_v116, m12_, ha, Q_BK110, Q_HB, Q_HO117, Q_HA_HO117, Q_X12_⟩ hb_ hon hoff
                            refine ⟨_, rfl, fun K hK => ?_⟩
                            have e44 : a.tmps[44]? = some (.string (((((a0_0 ++ (⟨#[32]⟩ : ByteArray)) ++ t114) ++ (⟨#[32]⟩ : ByteArray)) ++ (rdOf ByteArray.empty y115 (ji21))) ++ (⟨#[32]⟩ : ByteArray))) := by rw [ha]; exact putSel_on (e := (15, 44, .string (((((a0_0 ++ (⟨#[32]⟩ : ByteArray)) ++ t114) ++ (⟨#[32]⟩ : ByteArray)) ++ (rdOf ByteArray.empty y115 (ji21))) ++ (⟨#[32]⟩ : ByteArray)))) 12 rfl rfl (hon 15 (by kernel_rfl)) rfl
                            have e47 : a.tmps[47]? = some (.string t119) := by rw [ha]; exact putSel_on (e := (18, 47, .string t119)) 14 rfl rfl (hon 18 (by kernel_rfl)) rfl
                            replace ha := Aside0.mk ha
                            have BK110 := Aside0.mk Q_BK110
                            have HB := Aside0.mk Q_HB
                            have HO117 := Aside0.mk (Q_HO117 (hon 8 (by kernel_rfl)))
                            have HA_HO117 := Aside0.mk (Q_HA_HO117 (hon 8 (by kernel_rfl)))
                            refine value_ (w1 := w') (v := .string ((((((a0_0 ++ (⟨#[32]⟩ : ByteArray)) ++ t114) ++ (⟨#[32]⟩ : ByteArray)) ++ (rdOf ByteArray.empty y115 (ji21))) ++ (⟨#[32]⟩ : ByteArray)) ++ t119)) (by rfl) rfl ?_ ?_
                            · go_simp
                              (try simp only [i64_w])
                              try rfl
                            refine hK.out _ _ ⟨v116, adz_v116, m12_, (by rw [ha.out]; exact putSel_upk 15 hb_ rfl rfl rfl), Q_BK110, Q_HB, Q_HO117, Q_HA_HO117, Q_X12_⟩
                          refine steps_cons ?_ ?_
                          · rintro b a w' ⟨v116, adz_v116, m12_, ha, Q_BK110, Q_HB, Q_HO117, Q_HA_HO117, Q_X12_⟩ hb_ hon hoff
                            refine ⟨_, rfl, fun K hK => ?_⟩
                            have e48 : a.tmps[48]? = some (.string ((((((a0_0 ++ (⟨#[32]⟩ : ByteArray)) ++ t114) ++ (⟨#[32]⟩ : ByteArray)) ++ (rdOf ByteArray.empty y115 (ji21))) ++ (⟨#[32]⟩ : ByteArray)) ++ t119)) := by rw [ha]; exact putSel_on (e := (19, 48, .string ((((((a0_0 ++ (⟨#[32]⟩ : ByteArray)) ++ t114) ++ (⟨#[32]⟩ : ByteArray)) ++ (rdOf ByteArray.empty y115 (ji21))) ++ (⟨#[32]⟩ : ByteArray)) ++ t119))) 15 rfl rfl (hon 19 (by kernel_rfl)) rfl
                            replace ha := Aside0.mk ha
                            have BK110 := Aside0.mk Q_BK110
                            have HB := Aside0.mk Q_HB
                            have HO117 := Aside0.mk (Q_HO117 (hon 8 (by kernel_rfl)))
                            have HA_HO117 := Aside0.mk (Q_HA_HO117 (hon 8 (by kernel_rfl)))
                            refine value_ (w1 := w') (v := .string ((((((a0_0 ++ (⟨#[32]⟩ : ByteArray)) ++ t114) ++ (⟨#[32]⟩ : ByteArray)) ++ (rdOf ByteArray.empty y115 (ji21))) ++ (⟨#[32]⟩ : ByteArray)) ++ t119)) (by rfl) rfl ?_ ?_
                            · go_simp
                              (try simp only [i64_w])
                              try rfl
                            refine hK.out _ _ ⟨v116, adz_v116, m12_, (by rw [ha.out]; exact putSel_upk 16 hb_ rfl rfl rfl), Q_BK110, Q_HB, Q_HO117, Q_HA_HO117, Q_X12_⟩
                          exact steps_nil
                        rintro b a w34 hall ⟨v116, adz_v116, m12_, ha, Q_BK110, Q_HB, Q_HO117, Q_HA_HO117, Q_X12_⟩
                        clear BK110 HB
                        have hb1_ := hall 1 (by kernel_rfl)
                        have hb2_ := hall 2 (by kernel_rfl)
                        have hb4_ := hall 4 (by kernel_rfl)
                        have hb5_ := hall 5 (by kernel_rfl)
                        have hb6_ := hall 6 (by kernel_rfl)
                        have hb7_ := hall 7 (by kernel_rfl)
                        have hb8_ := hall 8 (by kernel_rfl)
                        have hb10_ := hall 10 (by kernel_rfl)
                        have hb11_ := hall 11 (by kernel_rfl)
                        have hb12_ := hall 12 (by kernel_rfl)
                        have hb13_ := hall 13 (by kernel_rfl)
                        have hb14_ := hall 14 (by kernel_rfl)
                        have hb15_ := hall 15 (by kernel_rfl)
                        have hb17_ := hall 17 (by kernel_rfl)
                        have hb18_ := hall 18 (by kernel_rfl)
                        have hb19_ := hall 19 (by kernel_rfl)
                        have hb20_ := hall 20 (by kernel_rfl)
                        subst ha
                        obtain rfl := Q_X12_ hb12_
                        simp only [putSel, hb1_, hb2_, hb4_, hb5_, hb6_, hb7_, hb8_, hb10_, hb11_, hb12_, hb13_, hb14_, hb15_, hb17_, hb18_, hb19_, hb20_, if_true, Act.put, List.setIfInBounds_toArray, List.set_cons_zero, List.set_cons_succ]
                        have BK110 := Aside0.mk Q_BK110
                        clear Q_BK110
                        have HB := Aside0.mk Q_HB
                        clear Q_HB
                        have HO117 := Aside0.mk (Q_HO117 hb8_)
                        clear Q_HO117
                        have HA_HO117 := Aside0.mk (Q_HA_HO117 hb8_)
                        clear Q_HA_HO117
                        clear hall hb1_ hb2_ hb4_ hb5_ hb6_ hb7_ hb8_ hb10_ hb11_ hb12_ hb13_ hb14_ hb15_ hb17_ hb18_ hb19_ hb20_
                        obtain ⟨co35, eo35⟩ := HA_HO117.out
                        clear HA_HO117
                        subst eo35
                        try go_wp2
                        go_ret
                        exact ⟨by first | rfl | (simp [errW_none, errW_some] <;> rfl) | (simp only [← hji21]; first | rfl | (simp [errW_none, errW_some] <;> rfl)) | (simp [*, errW_none, errW_some] <;> rfl), by repeat (first | (with_reducible first | exact HB.out | apply below_alloc | apply pw_below_drewN | apply below_drew1 | refine below_set ?_ GE110.out) | exact HB.out)⟩
                      · rw [if_neg c27] at H
                        exact absurd H (by simp)
                    · rw [if_neg c25] at H
                      exact absurd H (by simp)
                  · rw [if_neg c24] at H
                    exact absurd H (by simp)
                · rw [if_neg c23] at H
                  exact absurd H (by simp)
              · rw [if_neg c22] at H
                exact absurd H (by simp)
            · rw [if_neg c20] at H
              exact absurd H (by simp)
          · rw [if_neg c19] at H
            exact absurd H (by simp)
        · rw [if_neg c17] at H
          exact absurd H (by simp)

/-! ### laws_toEntry: function 16 -/
def laws_toEntry.f (a0_0 : ByteArray) (a0_1 : Int) (a0_2 : Int) (a0_3 : Int) : Option (ByteArray × Int × Int × Int) := some (a0_0, a0_1, a0_2, a0_3)
set_option maxHeartbeats 8000000 in
set_option maxRecDepth 100000 in
theorem laws_toEntry.calls (a0_0 : ByteArray) (a0_1 : Int) (a0_2 : Int) (a0_3 : Int) (r1 : ByteArray) (r2 : Int) (r3 : Int) (r4 : Int) (w : World) (h : laws_toEntry.f a0_0 a0_1 a0_2 a0_3 = some (r1, r2, r3, r4)) :
    Calls Tryd.prog 16 #[.agg #[.string a0_0, .int .i64 a0_1, .int .i64 a0_2, .int .i64 a0_3]] w fun e w' => e = .returned (.agg #[.string r1, .int .i64 r2, .int .i64 r3, .int .i64 r4]) ∧ Below w.heap.size w w' := by
  have hu31 := Tryd.underlying31
  have hu34 := Tryd.underlying34
  have HB := Aside0.mk (Below.refl w.heap.size w)
  have H : (some (a0_0, a0_1, a0_2, a0_3)) = some (r1, r2, r3, r4) := h
  clear h
  simp only [Option.some.injEq, Prod.mk.injEq] at H
  obtain ⟨rfl, rfl, rfl, rfl⟩ := H
  go_enter Tryd.func16, Tryd.ntmps16
  go_wp2_with (first | ((with_reducible refine gate_dst (N := 1) rfl ?_); refine box_event ?hg (N := 1) ?hd (cs := #[.string a0_0, .int .i64 a0_1, .int .i64 a0_2, .int .i64 a0_3]) (t := 31) ?hr ?_; (case hd => rfl); (case hg => rfl); (case hr => first | (go_simp; done) | (go_simp; rfl)); intro gb120 hg w2 hbox hb; have n0_ := Aside0.mk (below_step (by repeat (first | (with_reducible first | exact HB.out | apply below_alloc | apply pw_below_drewN | apply below_drew1) | exact HB.out)) hb); have n1_ := Aside0.mk (hbox); have n2_ := Aside0.mk ((by rw [hg]; exact (below_size (by repeat (first | (with_reducible first | exact HB.out | apply below_alloc | apply pw_below_drewN | apply below_drew1) | exact HB.out))) : w.heap.size ≤ gb120)); have n3_ := Aside0.mk ((by rw [hg]; exact (below_size (by repeat (first | (with_reducible first | exact HB.out | apply below_alloc | apply pw_below_drewN | apply below_drew1) | exact HB.out))) : w.heap.size ≤ gb120)); clear HB; have HB := n0_; have BK120 := n1_; have GW120 := n2_; have GE120 := n3_; clear n0_ n1_ n2_ n3_; clear hb hbox hg) | ((with_reducible refine gate_dst (N := 2) rfl ?_); refine box_event ?hg (N := 2) ?hd (cs := #[.string (⟨#[]⟩ : ByteArray), .int .i64 0, .int .i64 0, .int .i64 0]) (t := 34) ?hr ?_; (case hd => rfl); (case hg => rfl); (case hr => first | (go_simp; done) | (go_simp; rfl)); intro gb121 hg w3 hbox hb; have n0_ := Aside0.mk (blk_below (g := gb120) (o := .cells #[.string a0_0, .int .i64 a0_1, .int .i64 a0_2, .int .i64 a0_3] 31 (0, 0)) (by (with_reducible repeat (first | refine blk_drewN ?_ _ | refine blk_drew ?_ | refine blk_alloc ?_ _)); exact BK120.out) hb); have n1_ := Aside0.mk (below_step (by repeat (first | (with_reducible first | exact HB.out | apply below_alloc | apply pw_below_drewN | apply below_drew1 | refine below_set ?_ GE120.out) | exact HB.out)) hb); have n2_ := Aside0.mk (hbox); have n3_ := Aside0.mk ((by rw [hg]; exact (below_size (by repeat (first | (with_reducible first | exact HB.out | apply below_alloc | apply pw_below_drewN | apply below_drew1 | refine below_set ?_ GE120.out) | exact HB.out))) : w.heap.size ≤ gb121)); have n4_ := Aside0.mk ((by rw [hg]; exact (below_size (by repeat (first | (with_reducible first | exact HB.out | apply below_alloc | apply pw_below_drewN | apply below_drew1 | refine below_set ?_ GE120.out) | exact HB.out))) : w.heap.size ≤ gb121)); have n5_ := Aside0.mk ((by rw [hg]; exact Nat.ne_of_lt (blk_lt (g := gb120) (o := .cells #[.string a0_0, .int .i64 a0_1, .int .i64 a0_2, .int .i64 a0_3] 31 (0, 0)) (by (with_reducible repeat (first | refine blk_drewN ?_ _ | refine blk_drew ?_ | refine blk_alloc ?_ _)); exact BK120.out)) : gb120 ≠ gb121)); have n6_ := Aside0.mk ((by rw [hg]; exact Nat.ne_of_gt (blk_lt (g := gb120) (o := .cells #[.string a0_0, .int .i64 a0_1, .int .i64 a0_2, .int .i64 a0_3] 31 (0, 0)) (by (with_reducible repeat (first | refine blk_drewN ?_ _ | refine blk_drew ?_ | refine blk_alloc ?_ _)); exact BK120.out)) : gb121 ≠ gb120)); clear BK120; clear HB; have BK120 := n0_; have HB := n1_; have BK121 := n2_; have GW121 := n3_; have GE121 := n4_; have NB120_121 := n5_; have NB121_120 := n6_; clear n0_ n1_ n2_ n3_ n4_ n5_ n6_; clear hb hbox hg) | ((with_reducible refine gate_dst (N := 3) rfl ?_); refine box_event ?hg (N := 3) ?hd (cs := #[.string (⟨#[]⟩ : ByteArray), .int .i64 0, .int .i64 0, .int .i64 0]) (t := 34) ?hr ?_; (case hd => rfl); (case hg => rfl); (case hr => first | (go_simp; done) | (go_simp; rfl)); intro gb122 hg w4 hbox hb; have n0_ := Aside0.mk (blk_below (g := gb120) (o := .cells #[.string a0_0, .int .i64 a0_1, .int .i64 a0_2, .int .i64 a0_3] 31 (0, 0)) (by (with_reducible repeat (first | refine blk_drewN ?_ _ | refine blk_drew ?_ | refine blk_alloc ?_ _)); exact BK120.out) hb); have n1_ := Aside0.mk (blk_below (g := gb121) (o := .cells #[.string (⟨#[]⟩ : ByteArray), .int .i64 0, .int .i64 0, .int .i64 0] 34 (0, 0)) (by (with_reducible repeat (first | refine blk_drewN ?_ _ | refine blk_drew ?_ | refine blk_alloc ?_ _)); exact BK121.out) hb); have n2_ := Aside0.mk (below_step (by repeat (first | (with_reducible first | exact HB.out | apply below_alloc | apply pw_below_drewN | apply below_drew1 | refine below_set ?_ GE120.out | refine below_set ?_ GE121.out) | exact HB.out)) hb); have n3_ := Aside0.mk (hbox); have n4_ := Aside0.mk ((by rw [hg]; exact (below_size (by repeat (first | (with_reducible first | exact HB.out | apply below_alloc | apply pw_below_drewN | apply below_drew1 | refine below_set ?_ GE120.out | refine below_set ?_ GE121.out) | exact HB.out))) : w.heap.size ≤ gb122)); have n5_ := Aside0.mk ((by rw [hg]; exact (below_size (by repeat (first | (with_reducible first | exact HB.out | apply below_alloc | apply pw_below_drewN | apply below_drew1 | refine below_set ?_ GE120.out | refine below_set ?_ GE121.out) | exact HB.out))) : w.heap.size ≤ gb122)); have n6_ := Aside0.mk ((by rw [hg]; exact Nat.ne_of_lt (blk_lt (g := gb120) (o := .cells #[.string a0_0, .int .i64 a0_1, .int .i64 a0_2, .int .i64 a0_3] 31 (0, 0)) (by (with_reducible repeat (first | refine blk_drewN ?_ _ | refine blk_drew ?_ | refine blk_alloc ?_ _)); exact BK120.out)) : gb120 ≠ gb122)); have n7_ := Aside0.mk ((by rw [hg]; exact Nat.ne_of_gt (blk_lt (g := gb120) (o := .cells #[.string a0_0, .int .i64 a0_1, .int .i64 a0_2, .int .i64 a0_3] 31 (0, 0)) (by (with_reducible repeat (first | refine blk_drewN ?_ _ | refine blk_drew ?_ | refine blk_alloc ?_ _)); exact BK120.out)) : gb122 ≠ gb120)); have n8_ := Aside0.mk ((by rw [hg]; exact Nat.ne_of_lt (blk_lt (g := gb121) (o := .cells #[.string (⟨#[]⟩ : ByteArray), .int .i64 0, .int .i64 0, .int .i64 0] 34 (0, 0)) (by (with_reducible repeat (first | refine blk_drewN ?_ _ | refine blk_drew ?_ | refine blk_alloc ?_ _)); exact BK121.out)) : gb121 ≠ gb122)); have n9_ := Aside0.mk ((by rw [hg]; exact Nat.ne_of_gt (blk_lt (g := gb121) (o := .cells #[.string (⟨#[]⟩ : ByteArray), .int .i64 0, .int .i64 0, .int .i64 0] 34 (0, 0)) (by (with_reducible repeat (first | refine blk_drewN ?_ _ | refine blk_drew ?_ | refine blk_alloc ?_ _)); exact BK121.out)) : gb122 ≠ gb121)); clear BK120; clear BK121; clear HB; have BK120 := n0_; have BK121 := n1_; have HB := n2_; have BK122 := n3_; have GW122 := n4_; have GE122 := n5_; have NB120_122 := n6_; have NB122_120 := n7_; have NB121_122 := n8_; have NB122_121 := n9_; clear n0_ n1_ n2_ n3_ n4_ n5_ n6_ n7_ n8_ n9_; clear hb hbox hg; have hnb5 := NB120_121.out; have hnc5 := NB121_120.out; have hnb6 := NB120_122.out; have hnc6 := NB122_120.out; have hcz7_0 : w4.cell? ⟨gb120, 0, none⟩ = some (.string a0_0) := (blk_cell BK120.out 0).trans rfl; have hcz7_1 : w4.cell? ⟨gb120, 1, none⟩ = some (.int .i64 a0_1) := (blk_cell BK120.out 1).trans rfl; have hcz7_2 : w4.cell? ⟨gb120, 2, none⟩ = some (.int .i64 a0_2) := (blk_cell BK120.out 2).trans rfl; have hcz7_3 : w4.cell? ⟨gb120, 3, none⟩ = some (.int .i64 a0_3) := (blk_cell BK120.out 3).trans rfl; have hfz7_0 := blk_frozen BK120.out 0; have hfz7_1 := blk_frozen BK120.out 1; have hfz7_2 := blk_frozen BK120.out 2; have hfz7_3 := blk_frozen BK120.out 3; have hnb8 := NB122_121.out; have hnc8 := NB121_122.out; have hcz9_0 : w4.cell? ⟨gb122, 0, none⟩ = some (.string (⟨#[]⟩ : ByteArray)) := (blk_cell BK122.out 0).trans rfl; have hcz9_1 : w4.cell? ⟨gb122, 1, none⟩ = some (.int .i64 0) := (blk_cell BK122.out 1).trans rfl; have hcz9_2 : w4.cell? ⟨gb122, 2, none⟩ = some (.int .i64 0) := (blk_cell BK122.out 2).trans rfl; have hcz9_3 : w4.cell? ⟨gb122, 3, none⟩ = some (.int .i64 0) := (blk_cell BK122.out 3).trans rfl; have hfz9_0 := blk_frozen BK122.out 0; have hfz9_1 := blk_frozen BK122.out 1; have hfz9_2 := blk_frozen BK122.out 2; have hfz9_3 := blk_frozen BK122.out 3; have hcz10_0 : w4.cell? ⟨gb121, 0, none⟩ = some (.string (⟨#[]⟩ : ByteArray)) := (blk_cell BK121.out 0).trans rfl; have hcz10_1 : w4.cell? ⟨gb121, 1, none⟩ = some (.int .i64 0) := (blk_cell BK121.out 1).trans rfl; have hcz10_2 : w4.cell? ⟨gb121, 2, none⟩ = some (.int .i64 0) := (blk_cell BK121.out 2).trans rfl; have hcz10_3 : w4.cell? ⟨gb121, 3, none⟩ = some (.int .i64 0) := (blk_cell BK121.out 3).trans rfl; have hfz10_0 := blk_frozen BK121.out 0; have hfz10_1 := blk_frozen BK121.out 1; have hfz10_2 := blk_frozen BK121.out 2; have hfz10_3 := blk_frozen BK121.out 3))
  refine bodyPost_ret (results_cell_row rfl _ _ gb121 34 #[.string a0_0, .int .i64 a0_1, .int .i64 a0_2, .int .i64 a0_3] (0, 0) _ rfl (by (with_reducible repeat (first | refine blk_drewN ?_ _ | refine blk_drew ?_ | refine blk_alloc ?_ _)); refine blk_put (cs := #[.string a0_0, .int .i64 a0_1, .int .i64 a0_2, .int .i64 0]) ?_ 3 _ rfl; (with_reducible repeat (first | refine blk_drewN ?_ _ | refine blk_drew ?_ | refine blk_alloc ?_ _)); refine blk_put (cs := #[.string a0_0, .int .i64 a0_1, .int .i64 0, .int .i64 0]) ?_ 2 _ rfl; (with_reducible repeat (first | refine blk_drewN ?_ _ | refine blk_drew ?_ | refine blk_alloc ?_ _)); refine blk_put (cs := #[.string a0_0, .int .i64 0, .int .i64 0, .int .i64 0]) ?_ 1 _ rfl; (with_reducible repeat (first | refine blk_drewN ?_ _ | refine blk_drew ?_ | refine blk_alloc ?_ _)); refine blk_put (cs := #[.string (⟨#[]⟩ : ByteArray), .int .i64 0, .int .i64 0, .int .i64 0]) ?_ 0 _ rfl; (with_reducible repeat (first | refine blk_drewN ?_ _ | refine blk_drew ?_ | refine blk_alloc ?_ _)); refine blk_far ?_ NB121_122.out _; (with_reducible repeat (first | refine blk_drewN ?_ _ | refine blk_drew ?_ | refine blk_alloc ?_ _)); refine blk_far ?_ NB121_122.out _; (with_reducible repeat (first | refine blk_drewN ?_ _ | refine blk_drew ?_ | refine blk_alloc ?_ _)); refine blk_far ?_ NB121_122.out _; (with_reducible repeat (first | refine blk_drewN ?_ _ | refine blk_drew ?_ | refine blk_alloc ?_ _)); refine blk_far ?_ NB121_122.out _; (with_reducible repeat (first | refine blk_drewN ?_ _ | refine blk_drew ?_ | refine blk_alloc ?_ _)); exact BK121.out) Tryd.underlying34 rfl (by kernel_rfl)) rfl ?_
  exact ⟨by first | rfl | (simp [errW_none, errW_some] <;> rfl) | (simp [*, errW_none, errW_some] <;> rfl), by repeat (first | (with_reducible first | exact HB.out | apply below_alloc | apply pw_below_drewN | apply below_drew1 | refine below_set ?_ GE120.out | refine below_set ?_ GE121.out | refine below_set ?_ GE122.out) | exact HB.out)⟩

/-! ### impl_isNumber: function 22 -/
def impl_isNumber.f (a0 : Int) : Option (Bool) := if a0 ≥ 0 then (some (decide (a0 ≤ 281474976710655))) else (some false)
set_option maxHeartbeats 8000000 in
set_option maxRecDepth 100000 in
theorem impl_isNumber.calls (a0 : Int) (r : Bool) (w : World) (h : impl_isNumber.f a0 = some r) :
    Calls Tryd.prog 22 #[.int .i64 a0] w fun e w' => e = .returned (.bool r) ∧ Drawn0 w w' := by
  have H : (if a0 ≥ 0 then (some (decide (a0 ≤ 281474976710655))) else (some false)) = some r := h
  clear h
  by_cases c2 : a0 ≥ 0
  · rw [if_pos c2] at H
    have c2b0 : decide (0 ≤ a0) = true := decide_eq_true c2
    clear c2
    obtain rfl := Option.some.inj H
    go_enter Tryd.func22, Tryd.ntmps22
    go_wp2
    go_ret
    exact ⟨by first | rfl | (simp; done) | (simp [*]; done), by repeat (first | exact Drawn0.refl _ | apply Drawn0.step)⟩
  · rw [if_neg c2] at H
    have c2b0 : decide (0 ≤ a0) = false := decide_eq_false c2
    clear c2
    obtain rfl := Option.some.inj H
    go_enter Tryd.func22, Tryd.ntmps22
    go_wp2
    go_ret
    exact ⟨by first | rfl | (simp; done) | (simp [*]; done), by repeat (first | exact Drawn0.refl _ | apply Drawn0.step)⟩

end Go.Proofs.YtkolndfgpplknaaDoor.G
