/- the functions -/
import Derived.Test.YthjiokbokncpoaaRfTe
set_option linter.unusedVariables false
namespace Go.Proofs.Ythjiokbokncpoaa.Rf
open Go Go.Proofs

/-! 108 impl.isFrameKind -/
abbrev ps108 : List PM := [.imm (.int .i64)]
abbrev rs108 : List RM := [.val .bool]
abbrev R108 := (Bool × Unit) × (Unit)
def an108 : An := ⟨[], []⟩
noncomputable def cfg108 (k : Nat) : Cfg := ⟨te, []⟩
noncomputable def fu108 (k : Nat) : Fu := fuOf an108 (cfg108 k) Try.f108 ps108
noncomputable def f108 (k : Nat) (a0 : Int) : Option R108 := evF an108 (cfg108 k) k Try.f108 ps108 rs108 (a0, ())
noncomputable def C108 (k : Nat) : FC := mkC 108 ps108 rs108 an108 (cfg108 k) k Try.f108
noncomputable def f108_u (a0 : Int) : Option R108 :=
  bif decide (a0 ≥ (1 : Int)) then
  (some ((decide (a0 ≤ (3 : Int)), ()), ()))
  else
  some ((false, ()), ())
theorem f108_eq (k : Nat) (a0 : Int) : f108 k a0 = f108_u a0 := by kernel_rfl
theorem s108 (k : Nat) : FSound Try.prog (C108 k) := by
  unfold C108
  exact mkC_sound follows_mixed te_ok AllSound.nil (by kernel_rfl) (by kernel_rfl) (by kernel_rfl) (by kernel_rfl)

/-! 107 impl.GetFix -/
abbrev ps107 : List PM := [.imm (.sl (.int .u8)), .imm (.int .i64)]
abbrev rs107 : List RM := [.val (.int .i64), .val .bool]
abbrev R107 := (Int × Bool × Unit) × (Unit)
def an107 : An := ⟨[(5, ⟨[0, 1, 0, 1, 1, 1], [], [6, 22, 23, 24]⟩)], []⟩
noncomputable def cfg107 (k : Nat) : Cfg := ⟨te, []⟩
noncomputable def fu107 (k : Nat) : Fu := fuOf an107 (cfg107 k) Try.f107 ps107
noncomputable def f107 (k : Nat) (a0 : List Int) (a1 : Int) : Option R107 := evF an107 (cfg107 k) k Try.f107 ps107 rs107 (a0, a1, ())
noncomputable def C107 (k : Nat) : FC := mkC 107 ps107 rs107 an107 (cfg107 k) k Try.f107
noncomputable def f107_l5 (k n : Nat) (a0 : List Int) (a1 : Int) (t6 : Int) (t22 : List Int) (t23 : Int) (t24 : Int) : Option R107 := orcN (fu107 k) (exitF te Try.f107 ps107 rs107 (a0, a1, ())) n 5 ([.c (.int .i64 t6), .c (.sl (.int .u8) t22), .c (.int .i64 t23), .c (.int .i64 t24)], [])
noncomputable def f107_u (a0 : List Int) (a1 : Int) (l5 : Int → List Int → Int → Int → Option R107) : Option R107 :=
  bif decide (a1 < (0 : Int)) then
  (some (((0 : Int), false, ()), ()))
  else
  bif decide (a1 > IntKind.wrap .i64 ((a0.length : Int) - (6 : Int))) then
  (some (((0 : Int), false, ()), ()))
  else
  bif decide (0 ≤ a1) then bif decide (a1 ≤ IntKind.wrap .i64 (a1 + (6 : Int))) then bif decide (IntKind.wrap .i64 (a1 + (6 : Int)) ≤ (a0.length : Int)) then l5 (0 : Int) ((a0.take ((IntKind.wrap .i64 (a1 + (6 : Int))).toNat)).drop a1.toNat) (((a0.take ((IntKind.wrap .i64 (a1 + (6 : Int))).toNat)).drop a1.toNat).length : Int) (0 : Int) else none else none else none
theorem f107_eq (k : Nat) (a0 : List Int) (a1 : Int) : f107 k a0 a1 = f107_u a0 a1 (f107_l5 k k a0 a1) := by kernel_rfl
noncomputable def f107_u5 (l5 : Int → List Int → Int → Int → Option R107) (t6 : Int) (t22 : List Int) (t23 : Int) (t24 : Int) : Option R107 :=
  bif decide (t24 < t23) then
  (bif decide (0 ≤ t24) then bif decide (t24 < (t22.length : Int)) then l5 (bitOp .or .i64 (shlv .i64 t6 (8 : Int)) (IntKind.wrap .i64 (rdI t22 t24.toNat))) t22 t23 (IntKind.wrap .i64 (t24 + (1 : Int))) else none else none)
  else
  some ((t6, true, ()), ())
theorem f107_l5_succ (k n : Nat) (a0 : List Int) (a1 : Int) (t6 : Int) (t22 : List Int) (t23 : Int) (t24 : Int) : f107_l5 k (n + 1) a0 a1 t6 t22 t23 t24 = f107_u5 (f107_l5 k n a0 a1) t6 t22 t23 t24 := by kernel_rfl
theorem s107 (k : Nat) : FSound Try.prog (C107 k) := by
  unfold C107
  exact mkC_sound follows_mixed te_ok AllSound.nil (by kernel_rfl) (by kernel_rfl) (by kernel_rfl) (by kernel_rfl)

/-! 109 impl.Crc -/
abbrev ps109 : List PM := [.imm (.sl (.int .u8))]
abbrev rs109 : List RM := [.val (.int .i64)]
abbrev R109 := (Int × Unit) × (Unit)
def an109 : An := ⟨[(3, ⟨[0, 1, 0, 1, 1], [], [3, 7, 8, 9]⟩), (7, ⟨[0, 1, 1, 1, 0, 0, 1, 1, 0, 0, 1, 0, 1, 1], [], [3, 7, 8, 9, 17]⟩)], []⟩
noncomputable def cfg109 (k : Nat) : Cfg := ⟨te, []⟩
noncomputable def fu109 (k : Nat) : Fu := fuOf an109 (cfg109 k) Try.f109 ps109
noncomputable def f109 (k : Nat) (a0 : List Int) : Option R109 := evF an109 (cfg109 k) k Try.f109 ps109 rs109 (a0, ())
noncomputable def C109 (k : Nat) : FC := mkC 109 ps109 rs109 an109 (cfg109 k) k Try.f109
noncomputable def f109_l3 (k n : Nat) (a0 : List Int) (t3 : Int) (t7 : List Int) (t8 : Int) (t9 : Int) : Option R109 := orcN (fu109 k) (exitF te Try.f109 ps109 rs109 (a0, ())) n 3 ([.c (.int .u32 t3), .c (.sl (.int .u8) t7), .c (.int .i64 t8), .c (.int .i64 t9)], [])
noncomputable def f109_l7 (k n : Nat) (a0 : List Int) (t3 : Int) (t7 : List Int) (t8 : Int) (t9 : Int) (t17 : Int) : Option R109 := orcN (fu109 k) (exitF te Try.f109 ps109 rs109 (a0, ())) n 7 ([.c (.int .u32 t3), .c (.sl (.int .u8) t7), .c (.int .i64 t8), .c (.int .i64 t9), .c (.int .i64 t17)], [])
noncomputable def f109_u (a0 : List Int) (l3 : Int → List Int → Int → Int → Option R109) : Option R109 :=
  l3 (4294967295 : Int) a0 (a0.length : Int) (0 : Int)
theorem f109_eq (k : Nat) (a0 : List Int) : f109 k a0 = f109_u a0 (f109_l3 k k a0) := by kernel_rfl
noncomputable def f109_u3 (l7 : Int → List Int → Int → Int → Int → Option R109) (t3 : Int) (t7 : List Int) (t8 : Int) (t9 : Int) : Option R109 :=
  bif decide (t9 < t8) then
  (bif decide (0 ≤ t9) then bif decide (t9 < (t7.length : Int)) then l7 (bitOp .xor .u32 t3 (IntKind.wrap .u32 (rdI t7 t9.toNat))) t7 t8 t9 (0 : Int) else none else none)
  else
  some ((IntKind.wrap .i64 (bitOp .xor .u32 IntKind.u32.max t3), ()), ())
theorem f109_l3_succ (k n : Nat) (a0 : List Int) (t3 : Int) (t7 : List Int) (t8 : Int) (t9 : Int) : f109_l3 k (n + 1) a0 t3 t7 t8 t9 = f109_u3 (f109_l7 k n a0) t3 t7 t8 t9 := by kernel_rfl
noncomputable def f109_u7 (l3 : Int → List Int → Int → Int → Option R109) (l7 : Int → List Int → Int → Int → Int → Option R109) (t3 : Int) (t7 : List Int) (t8 : Int) (t9 : Int) (t17 : Int) : Option R109 :=
  bif decide (t17 < (8 : Int)) then
  (bif (bitOp .and .u32 t3 (1 : Int)) == (1 : Int) then
  (l7 (bitOp .xor .u32 (shrv .u32 t3 (1 : Int)) (3988292384 : Int)) t7 t8 t9 (IntKind.wrap .i64 (t17 + (1 : Int))))
  else
  l7 (shrv .u32 t3 (1 : Int)) t7 t8 t9 (IntKind.wrap .i64 (t17 + (1 : Int))))
  else
  l3 t3 t7 t8 (IntKind.wrap .i64 (t9 + (1 : Int)))
theorem f109_l7_succ (k n : Nat) (a0 : List Int) (t3 : Int) (t7 : List Int) (t8 : Int) (t9 : Int) (t17 : Int) : f109_l7 k (n + 1) a0 t3 t7 t8 t9 t17 = f109_u7 (f109_l3 k n a0) (f109_l7 k n a0) t3 t7 t8 t9 t17 := by kernel_rfl
theorem s109 (k : Nat) : FSound Try.prog (C109 k) := by
  unfold C109
  exact mkC_sound follows_mixed te_ok AllSound.nil (by kernel_rfl) (by kernel_rfl) (by kernel_rfl) (by kernel_rfl)

/-! 110 impl.copyBytes -/
abbrev ps110 : List PM := [.imm (.sl (.int .u8))]
abbrev rs110 : List RM := [.val (.own (.int .u8))]
abbrev R110 := ((List Int) × Unit) × (Unit)
def an110 : An := ⟨[], []⟩
noncomputable def cfg110 (k : Nat) : Cfg := ⟨te, []⟩
noncomputable def fu110 (k : Nat) : Fu := fuOf an110 (cfg110 k) Try.f110 ps110
noncomputable def f110 (k : Nat) (a0 : List Int) : Option R110 := evF an110 (cfg110 k) k Try.f110 ps110 rs110 (a0, ())
noncomputable def C110 (k : Nat) : FC := mkC 110 ps110 rs110 an110 (cfg110 k) k Try.f110
noncomputable def f110_u (a0 : List Int) : Option R110 :=
  bif decide (a0.length * 1 ≤ 140737488355328) then some ((a0, ()), ()) else none
theorem f110_eq (k : Nat) (a0 : List Int) : f110 k a0 = f110_u a0 := by kernel_rfl
theorem s110 (k : Nat) : FSound Try.prog (C110 k) := by
  unfold C110
  exact mkC_sound follows_mixed te_ok AllSound.nil (by kernel_rfl) (by kernel_rfl) (by kernel_rfl) (by kernel_rfl)

/-! 148 impl.GetVar -/
abbrev ps148 : List PM := [.imm (.sl (.int .u8)), .imm (.int .i64)]
abbrev rs148 : List RM := [.val (.int .i64), .val (.int .i64), .val .bool]
abbrev R148 := (Int × Int × Bool × Unit) × (Unit)
def an148 : An := ⟨[(5, ⟨[0, 1, 0, 1, 1, 1], [], [0, 1, 7, 8]⟩)], []⟩
noncomputable def cfg148 (k : Nat) : Cfg := ⟨te, []⟩
noncomputable def fu148 (k : Nat) : Fu := fuOf an148 (cfg148 k) Try.f148 ps148
noncomputable def f148 (k : Nat) (a0 : List Int) (a1 : Int) : Option R148 := evF an148 (cfg148 k) k Try.f148 ps148 rs148 (a0, a1, ())
noncomputable def C148 (k : Nat) : FC := mkC 148 ps148 rs148 an148 (cfg148 k) k Try.f148
noncomputable def f148_l5 (k n : Nat) (a0 : List Int) (a1 : Int) (t0 : List Int) (t1 : Int) (t7 : Int) (t8 : Int) : Option R148 := orcN (fu148 k) (exitF te Try.f148 ps148 rs148 (a0, a1, ())) n 5 ([.c (.sl (.int .u8) t0), .c (.int .i64 t1), .c (.int .i64 t7), .c (.int .i64 t8)], [])
noncomputable def f148_u (a0 : List Int) (a1 : Int) (l5 : List Int → Int → Int → Int → Option R148) : Option R148 :=
  bif decide (a1 < (0 : Int)) then
  (some (((0 : Int), (0 : Int), false, ()), ()))
  else
  bif decide (a1 ≥ (a0.length : Int)) then
  (some (((0 : Int), (0 : Int), false, ()), ()))
  else
  l5 a0 a1 (0 : Int) (0 : Int)
theorem f148_eq (k : Nat) (a0 : List Int) (a1 : Int) : f148 k a0 a1 = f148_u a0 a1 (f148_l5 k k a0 a1) := by kernel_rfl
noncomputable def f148_u5 (l5 : List Int → Int → Int → Int → Option R148) (t0 : List Int) (t1 : Int) (t7 : Int) (t8 : Int) : Option R148 :=
  bif decide (t8 < (7 : Int)) then
  (bif decide (IntKind.wrap .i64 (t1 + t8) < (t0.length : Int)) then
  (bif decide (0 ≤ IntKind.wrap .i64 (t1 + t8)) then bif decide (IntKind.wrap .i64 (t1 + t8) < (t0.length : Int)) then bif decide (0 ≤ IntKind.wrap .i64 ((7 : Int) * t8)) then bif decide (IntKind.wrap .i64 (rdI t0 ((IntKind.wrap .i64 (t1 + t8)).toNat)) < (128 : Int)) then
  (bif (IntKind.wrap .i64 (rdI t0 ((IntKind.wrap .i64 (t1 + t8)).toNat))) == (0 : Int) then
  (bif decide (t8 > (0 : Int)) then
  (some (((0 : Int), (0 : Int), false, ()), ()))
  else
  bif decide (IntKind.wrap .i64 (t7 + (shlv .i64 ((IntKind.wrap .i64 (rdI t0 ((IntKind.wrap .i64 (t1 + t8)).toNat))).tmod (128 : Int)) (IntKind.wrap .i64 ((7 : Int) * t8)))) > (281474976710655 : Int)) then
  (some (((0 : Int), (0 : Int), false, ()), ()))
  else
  some ((IntKind.wrap .i64 (t7 + (shlv .i64 ((IntKind.wrap .i64 (rdI t0 ((IntKind.wrap .i64 (t1 + t8)).toNat))).tmod (128 : Int)) (IntKind.wrap .i64 ((7 : Int) * t8)))), IntKind.wrap .i64 ((IntKind.wrap .i64 (t1 + t8)) + (1 : Int)), true, ()), ()))
  else
  bif decide (IntKind.wrap .i64 (t7 + (shlv .i64 ((IntKind.wrap .i64 (rdI t0 ((IntKind.wrap .i64 (t1 + t8)).toNat))).tmod (128 : Int)) (IntKind.wrap .i64 ((7 : Int) * t8)))) > (281474976710655 : Int)) then
  (some (((0 : Int), (0 : Int), false, ()), ()))
  else
  some ((IntKind.wrap .i64 (t7 + (shlv .i64 ((IntKind.wrap .i64 (rdI t0 ((IntKind.wrap .i64 (t1 + t8)).toNat))).tmod (128 : Int)) (IntKind.wrap .i64 ((7 : Int) * t8)))), IntKind.wrap .i64 ((IntKind.wrap .i64 (t1 + t8)) + (1 : Int)), true, ()), ()))
  else
  l5 t0 t1 (IntKind.wrap .i64 (t7 + (shlv .i64 ((IntKind.wrap .i64 (rdI t0 ((IntKind.wrap .i64 (t1 + t8)).toNat))).tmod (128 : Int)) (IntKind.wrap .i64 ((7 : Int) * t8))))) (IntKind.wrap .i64 (t8 + (1 : Int))) else none else none else none)
  else
  some (((0 : Int), (0 : Int), false, ()), ()))
  else
  some (((0 : Int), (0 : Int), false, ()), ())
theorem f148_l5_succ (k n : Nat) (a0 : List Int) (a1 : Int) (t0 : List Int) (t1 : Int) (t7 : Int) (t8 : Int) : f148_l5 k (n + 1) a0 a1 t0 t1 t7 t8 = f148_u5 (f148_l5 k n a0 a1) t0 t1 t7 t8 := by kernel_rfl
theorem s148 (k : Nat) : FSound Try.prog (C148 k) := by
  unfold C148
  exact mkC_sound follows_mixed te_ok AllSound.nil (by kernel_rfl) (by kernel_rfl) (by kernel_rfl) (by kernel_rfl)

/-! 111 (*impl.reader).num -/
abbrev ps111 : List PM := [.ref T142]
abbrev rs111 : List RM := [.val (.int .i64)]
abbrev R111 := (Int × Unit) × (D142 × Unit)
def an111 : An := ⟨[], []⟩
noncomputable def cfg111 (k : Nat) : Cfg := ⟨te, [C148 k]⟩
noncomputable def fu111 (k : Nat) : Fu := fuOf an111 (cfg111 k) Try.f111 ps111
noncomputable def f111 (k : Nat) (a0 : D142) : Option R111 := evF an111 (cfg111 k) k Try.f111 ps111 rs111 (a0, ())
noncomputable def C111 (k : Nat) : FC := mkC 111 ps111 rs111 an111 (cfg111 k) k Try.f111
noncomputable def f111_u (k : Nat) (a0 : D142) : Option R111 :=
  (f148 k a0.1 a0.2.1).bind fun y1 =>
  bif !y1.1.2.2.1 then
  (some (((0 : Int), ()), ((a0.1, (a0.2.1, (false, ()))), ())))
  else
  some ((y1.1.1, ()), ((a0.1, (y1.1.2.1, a0.2.2)), ()))
theorem f111_eq (k : Nat) (a0 : D142) : f111 k a0 = f111_u k a0 := by kernel_rfl
theorem s111 (k : Nat) : FSound Try.prog (C111 k) := by
  unfold C111
  exact mkC_sound follows_mixed te_ok (AllSound.cons (s148 k) AllSound.nil) (by kernel_rfl) (by kernel_rfl) (by kernel_rfl) (by kernel_rfl)

/-! 55 impl.FrameRead -/
abbrev ps55 : List PM := [.imm (.sl (.int .u8)), .imm (.int .i64)]
abbrev rs55 : List RM := [.val (.pair (.int .i64) (.pair (.own (.int .u8)) .unit)), .val (.int .i64), .val (.int .i64)]
abbrev R55 := (D43 × Int × Int × Unit) × (Unit)
def an55 : An := ⟨[], []⟩
noncomputable def cfg55 (k : Nat) : Cfg := ⟨te, [C107 k, C108 k, C109 k, C110 k]⟩
noncomputable def fu55 (k : Nat) : Fu := fuOf an55 (cfg55 k) Try.f55 ps55
noncomputable def f55 (k : Nat) (a0 : List Int) (a1 : Int) : Option R55 := evF an55 (cfg55 k) k Try.f55 ps55 rs55 (a0, a1, ())
noncomputable def C55 (k : Nat) : FC := mkC 55 ps55 rs55 an55 (cfg55 k) k Try.f55
noncomputable def f55_u (k : Nat) (a0 : List Int) (a1 : Int) : Option R55 :=
  bif decide (a1 < (0 : Int)) then
  (some ((((0 : Int), (([] : List Int), ())), (0 : Int), (1 : Int), ()), ()))
  else
  bif decide (a1 > (a0.length : Int)) then
  (some ((((0 : Int), (([] : List Int), ())), (0 : Int), (1 : Int), ()), ()))
  else
  bif decide (0 ≤ a1) then bif decide (a1 ≤ (a0.length : Int)) then bif decide ((a0.length : Int) ≤ (a0.length : Int)) then bif decide ((((a0.take ((a0.length : Int).toNat)).drop a1.toNat).length : Int) < (14 : Int)) then
  (some ((((0 : Int), (([] : List Int), ())), (0 : Int), (2 : Int), ()), ()))
  else
  (f107 k ((a0.take ((a0.length : Int).toNat)).drop a1.toNat) (2 : Int)).bind fun y1 =>
  (f107 k ((a0.take ((a0.length : Int).toNat)).drop a1.toNat) (8 : Int)).bind fun y2 =>
  bif decide ((0 : Int) < (((a0.take ((a0.length : Int).toNat)).drop a1.toNat).length : Int)) then bif (rdI ((a0.take ((a0.length : Int).toNat)).drop a1.toNat) (0 : Nat)) != (71 : Int) then
  (some ((((0 : Int), (([] : List Int), ())), (0 : Int), (3 : Int), ()), ()))
  else
  bif decide ((1 : Int) < (((a0.take ((a0.length : Int).toNat)).drop a1.toNat).length : Int)) then (f108 k (IntKind.wrap .i64 (rdI ((a0.take ((a0.length : Int).toNat)).drop a1.toNat) (1 : Nat)))).bind fun y3 =>
  bif !y3.1.1 then
  (some ((((0 : Int), (([] : List Int), ())), (0 : Int), (3 : Int), ()), ()))
  else
  bif decide (y1.1.1 > (60000 : Int)) then
  (some ((((0 : Int), (([] : List Int), ())), (0 : Int), (3 : Int), ()), ()))
  else
  bif decide ((8 : Int) ≤ (((a0.take ((a0.length : Int).toNat)).drop a1.toNat).length : Int)) then (f109 k ((((a0.take ((a0.length : Int).toNat)).drop a1.toNat).take (8 : Nat)).drop (0 : Nat))).bind fun y4 =>
  bif y2.1.1 != y4.1.1 then
  (some ((((0 : Int), (([] : List Int), ())), (0 : Int), (3 : Int), ()), ()))
  else
  bif decide ((((a0.take ((a0.length : Int).toNat)).drop a1.toNat).length : Int) < IntKind.wrap .i64 ((20 : Int) + y1.1.1)) then
  (some ((((0 : Int), (([] : List Int), ())), (0 : Int), (4 : Int), ()), ()))
  else
  bif decide ((20 : Int) ≤ IntKind.wrap .i64 ((20 : Int) + y1.1.1)) then bif decide (IntKind.wrap .i64 ((20 : Int) + y1.1.1) ≤ (((a0.take ((a0.length : Int).toNat)).drop a1.toNat).length : Int)) then (f107 k ((a0.take ((a0.length : Int).toNat)).drop a1.toNat) (14 : Int)).bind fun y5 =>
  (f109 k ((((a0.take ((a0.length : Int).toNat)).drop a1.toNat).take ((IntKind.wrap .i64 ((20 : Int) + y1.1.1)).toNat)).drop (20 : Nat))).bind fun y6 =>
  bif y5.1.1 != y6.1.1 then
  (some ((((0 : Int), (([] : List Int), ())), (0 : Int), (5 : Int), ()), ()))
  else
  bif decide ((1 : Int) < (((a0.take ((a0.length : Int).toNat)).drop a1.toNat).length : Int)) then (f110 k ((((a0.take ((a0.length : Int).toNat)).drop a1.toNat).take ((IntKind.wrap .i64 ((20 : Int) + y1.1.1)).toNat)).drop (20 : Nat))).bind fun y7 =>
  some (((IntKind.wrap .i64 (rdI ((a0.take ((a0.length : Int).toNat)).drop a1.toNat) (1 : Nat)), (y7.1.1, ())), IntKind.wrap .i64 ((IntKind.wrap .i64 (a1 + (20 : Int))) + y1.1.1), (0 : Int), ()), ()) else none else none else none else none else none else none else none else none else none
theorem f55_eq (k : Nat) (a0 : List Int) (a1 : Int) : f55 k a0 a1 = f55_u k a0 a1 := by kernel_rfl
theorem s55 (k : Nat) : FSound Try.prog (C55 k) := by
  unfold C55
  exact mkC_sound follows_mixed te_ok (AllSound.cons (s107 k) (AllSound.cons (s108 k) (AllSound.cons (s109 k) (AllSound.cons (s110 k) AllSound.nil)))) (by kernel_rfl) (by kernel_rfl) (by kernel_rfl) (by kernel_rfl)

/-! 20 impl.CommitOk -/
abbrev ps20 : List PM := [.imm T36]
abbrev rs20 : List RM := [.val .bool]
abbrev R20 := (Bool × Unit) × (Unit)
def an20 : An := ⟨[], []⟩
noncomputable def cfg20 (k : Nat) : Cfg := ⟨te, []⟩
noncomputable def fu20 (k : Nat) : Fu := fuOf an20 (cfg20 k) Try.f20 ps20
noncomputable def f20 (k : Nat) (a0 : D36) : Option R20 := evF an20 (cfg20 k) k Try.f20 ps20 rs20 (a0, ())
noncomputable def C20 (k : Nat) : FC := mkC 20 ps20 rs20 an20 (cfg20 k) k Try.f20
noncomputable def f20_u (a0 : D36) : Option R20 :=
  bif decide (a0.1 < (1 : Int)) then
  (some ((false, ()), ()))
  else
  bif decide (a0.1 > (1000000 : Int)) then
  (some ((false, ()), ()))
  else
  bif decide (a0.2.1 < (1 : Int)) then
  (some ((false, ()), ()))
  else
  bif decide (a0.2.1 > a0.1) then
  (some ((false, ()), ()))
  else
  bif decide (a0.2.2.1 < (0 : Int)) then
  (some ((false, ()), ()))
  else
  bif decide (a0.2.2.1 > (4294967295 : Int)) then
  (some ((false, ()), ()))
  else
  bif decide (a0.2.2.2.2.1 < (0 : Int)) then
  (some ((false, ()), ()))
  else
  bif decide (a0.2.2.2.2.1 > (4294967295 : Int)) then
  (some ((false, ()), ()))
  else
  bif a0.2.2.2.1 then
  (some ((true, ()), ()))
  else
  some ((a0.2.2.2.2.1 == (0 : Int), ()), ())
theorem f20_eq (k : Nat) (a0 : D36) : f20 k a0 = f20_u a0 := by kernel_rfl
theorem s20 (k : Nat) : FSound Try.prog (C20 k) := by
  unfold C20
  exact mkC_sound follows_mixed te_ok AllSound.nil (by kernel_rfl) (by kernel_rfl) (by kernel_rfl) (by kernel_rfl)

/-! 56 impl.CommitRead -/
abbrev ps56 : List PM := [.imm (.sl (.int .u8))]
abbrev rs56 : List RM := [.val T36, .val .bool]
abbrev R56 := (D36 × Bool × Unit) × (Unit)
def an56 : An := ⟨[], []⟩
noncomputable def cfg56 (k : Nat) : Cfg := ⟨te, [C111 k, C20 k]⟩
noncomputable def fu56 (k : Nat) : Fu := fuOf an56 (cfg56 k) Try.f56 ps56
noncomputable def f56 (k : Nat) (a0 : List Int) : Option R56 := evF an56 (cfg56 k) k Try.f56 ps56 rs56 (a0, ())
noncomputable def C56 (k : Nat) : FC := mkC 56 ps56 rs56 an56 (cfg56 k) k Try.f56
noncomputable def f56_u (k : Nat) (a0 : List Int) : Option R56 :=
  (f111 k (a0, ((0 : Int), (true, ())))).bind fun y1 =>
  (f111 k y1.2.1).bind fun y2 =>
  (f111 k y2.2.1).bind fun y3 =>
  (f111 k y3.2.1).bind fun y4 =>
  (f111 k y4.2.1).bind fun y5 =>
  bif !y5.2.1.2.2.1 then
  (some ((((0 : Int), ((0 : Int), ((0 : Int), (false, ((0 : Int), ()))))), false, ()), ()))
  else
  bif y5.2.1.2.1 != (a0.length : Int) then
  (some ((((0 : Int), ((0 : Int), ((0 : Int), (false, ((0 : Int), ()))))), false, ()), ()))
  else
  bif decide (y4.1.1 > (1 : Int)) then
  (some ((((0 : Int), ((0 : Int), ((0 : Int), (false, ((0 : Int), ()))))), false, ()), ()))
  else
  (f20 k (y1.1.1, (y2.1.1, (y3.1.1, (y4.1.1 == (1 : Int), (y5.1.1, ())))))).bind fun y6 =>
  bif !y6.1.1 then
  (some ((((0 : Int), ((0 : Int), ((0 : Int), (false, ((0 : Int), ()))))), false, ()), ()))
  else
  some (((y1.1.1, (y2.1.1, (y3.1.1, (y4.1.1 == (1 : Int), (y5.1.1, ()))))), true, ()), ())
theorem f56_eq (k : Nat) (a0 : List Int) : f56 k a0 = f56_u k a0 := by kernel_rfl
theorem s56 (k : Nat) : FSound Try.prog (C56 k) := by
  unfold C56
  exact mkC_sound follows_mixed te_ok (AllSound.cons (s111 k) (AllSound.cons (s20 k) AllSound.nil)) (by kernel_rfl) (by kernel_rfl) (by kernel_rfl) (by kernel_rfl)

/-! 12 impl.LogRead -/
abbrev ps12 : List PM := [.imm (.sl (.int .u8))]
abbrev rs12 : List RM := [.val (.own T36), .val (.int .i64), .val (.int .i64)]
abbrev R12 := ((List D36) × Int × Int × Unit) × (Unit)
def an12 : An := ⟨[(3, ⟨[0, 1, 1, 1], [⟨5, false, [.own T36]⟩], [0, 5, 6]⟩)], []⟩
noncomputable def cfg12 (k : Nat) : Cfg := ⟨te, [C55 k, C56 k]⟩
noncomputable def fu12 (k : Nat) : Fu := fuOf an12 (cfg12 k) Try.f12 ps12
noncomputable def f12 (k : Nat) (a0 : List Int) : Option R12 := evF an12 (cfg12 k) k Try.f12 ps12 rs12 (a0, ())
noncomputable def C12 (k : Nat) : FC := mkC 12 ps12 rs12 an12 (cfg12 k) k Try.f12
noncomputable def f12_l3 (k n : Nat) (a0 : List Int) (t0 : List Int) (t6 : Int) (r0 : List D36) : Option R12 := orcN (fu12 k) (exitF te Try.f12 ps12 rs12 (a0, ())) n 3 ([.c (.sl (.int .u8) t0), .c (.ref 0), .c (.int .i64 t6)], [some (.row T36 r0)])
noncomputable def f12_u (a0 : List Int) (l3 : List Int → Int → List D36 → Option R12) : Option R12 :=
  l3 a0 (0 : Int) ([] : List D36)
theorem f12_eq (k : Nat) (a0 : List Int) : f12 k a0 = f12_u a0 (f12_l3 k k a0) := by kernel_rfl
noncomputable def f12_u3 (k : Nat) (l3 : List Int → Int → List D36 → Option R12) (t0 : List Int) (t6 : Int) (r0 : List D36) : Option R12 :=
  (f55 k t0 t6).bind fun y1 =>
  bif t6 == (t0.length : Int) then
  (some ((r0, t6, (0 : Int), ()), ()))
  else
  bif y1.1.2.2.1 == (2 : Int) then
  (some ((r0, t6, (1 : Int), ()), ()))
  else
  bif y1.1.2.2.1 == (4 : Int) then
  (some ((r0, t6, (1 : Int), ()), ()))
  else
  bif y1.1.2.2.1 != (0 : Int) then
  (some ((r0, t6, (2 : Int), ()), ()))
  else
  bif y1.1.1.1 != (3 : Int) then
  (some ((r0, t6, (2 : Int), ()), ()))
  else
  (f56 k y1.1.1.2.1).bind fun y2 =>
  bif !y2.1.2.1 then
  (some ((r0, t6, (2 : Int), ()), ()))
  else
  bif decide ((r0.length : Int) > (0 : Int)) then
  (bif decide (0 ≤ IntKind.wrap .i64 ((r0.length : Int) - (1 : Int))) then bif decide (IntKind.wrap .i64 ((r0.length : Int) - (1 : Int)) < (r0.length : Int)) then bif decide ((rd36 r0 ((IntKind.wrap .i64 ((r0.length : Int) - (1 : Int))).toNat)).1 ≥ y2.1.1.1) then
  (some ((r0, t6, (2 : Int), ()), ()))
  else
  bif decide ((r0.length + [y2.1.1].length) * 40 ≤ 140737488355328) then l3 t0 y1.1.2.1 (r0 ++ [y2.1.1]) else none else none else none)
  else
  bif decide ((r0.length + [y2.1.1].length) * 40 ≤ 140737488355328) then l3 t0 y1.1.2.1 (r0 ++ [y2.1.1]) else none
theorem f12_l3_succ (k n : Nat) (a0 : List Int) (t0 : List Int) (t6 : Int) (r0 : List D36) : f12_l3 k (n + 1) a0 t0 t6 r0 = f12_u3 k (f12_l3 k n a0) t0 t6 r0 := by kernel_rfl
theorem s12 (k : Nat) : FSound Try.prog (C12 k) := by
  unfold C12
  exact mkC_sound follows_mixed te_ok (AllSound.cons (s55 k) (AllSound.cons (s56 k) AllSound.nil)) (by kernel_rfl) (by kernel_rfl) (by kernel_rfl) (by kernel_rfl)

/-! 101 spec.GetFix -/
abbrev ps101 : List PM := [.imm (.sl (.int .u8)), .imm (.int .i64)]
abbrev rs101 : List RM := [.val (.int .i64), .val .bool]
abbrev R101 := (Int × Bool × Unit) × (Unit)
def an101 : An := ⟨[(5, ⟨[0, 1, 0, 1, 1, 1], [], [0, 1, 6, 7]⟩)], []⟩
noncomputable def cfg101 (k : Nat) : Cfg := ⟨te, []⟩
noncomputable def fu101 (k : Nat) : Fu := fuOf an101 (cfg101 k) Try.f101 ps101
noncomputable def f101 (k : Nat) (a0 : List Int) (a1 : Int) : Option R101 := evF an101 (cfg101 k) k Try.f101 ps101 rs101 (a0, a1, ())
noncomputable def C101 (k : Nat) : FC := mkC 101 ps101 rs101 an101 (cfg101 k) k Try.f101
noncomputable def f101_l5 (k n : Nat) (a0 : List Int) (a1 : Int) (t0 : List Int) (t1 : Int) (t6 : Int) (t7 : Int) : Option R101 := orcN (fu101 k) (exitF te Try.f101 ps101 rs101 (a0, a1, ())) n 5 ([.c (.sl (.int .u8) t0), .c (.int .i64 t1), .c (.int .i64 t6), .c (.int .i64 t7)], [])
noncomputable def f101_u (a0 : List Int) (a1 : Int) (l5 : List Int → Int → Int → Int → Option R101) : Option R101 :=
  bif decide (a1 < (0 : Int)) then
  (some (((0 : Int), false, ()), ()))
  else
  bif decide (a1 > IntKind.wrap .i64 ((a0.length : Int) - (6 : Int))) then
  (some (((0 : Int), false, ()), ()))
  else
  l5 a0 a1 (0 : Int) a1
theorem f101_eq (k : Nat) (a0 : List Int) (a1 : Int) : f101 k a0 a1 = f101_u a0 a1 (f101_l5 k k a0 a1) := by kernel_rfl
noncomputable def f101_u5 (l5 : List Int → Int → Int → Int → Option R101) (t0 : List Int) (t1 : Int) (t6 : Int) (t7 : Int) : Option R101 :=
  bif decide (t7 < IntKind.wrap .i64 (t1 + (6 : Int))) then
  (bif decide (0 ≤ t7) then bif decide (t7 < (t0.length : Int)) then l5 t0 t1 (IntKind.wrap .i64 ((IntKind.wrap .i64 (t6 * (256 : Int))) + (IntKind.wrap .i64 (rdI t0 t7.toNat)))) (IntKind.wrap .i64 (t7 + (1 : Int))) else none else none)
  else
  some ((t6, true, ()), ())
theorem f101_l5_succ (k n : Nat) (a0 : List Int) (a1 : Int) (t0 : List Int) (t1 : Int) (t6 : Int) (t7 : Int) : f101_l5 k (n + 1) a0 a1 t0 t1 t6 t7 = f101_u5 (f101_l5 k n a0 a1) t0 t1 t6 t7 := by kernel_rfl
theorem s101 (k : Nat) : FSound Try.prog (C101 k) := by
  unfold C101
  exact mkC_sound follows_mixed te_ok AllSound.nil (by kernel_rfl) (by kernel_rfl) (by kernel_rfl) (by kernel_rfl)

/-! 102 spec.Crc -/
abbrev ps102 : List PM := [.imm (.sl (.int .u8))]
abbrev rs102 : List RM := [.val (.int .i64)]
abbrev R102 := (Int × Unit) × (Unit)
def an102 : An := ⟨[(3, ⟨[0, 1, 0, 1, 1], [], [0, 3, 4]⟩), (7, ⟨[0, 1, 1, 0, 0, 1, 0, 0, 1, 0, 1, 1], [], [0, 3, 4, 5]⟩)], [(8, ⟨[1, 1, 0, 0, 1, 1, 0, 0, 1, 0, 0, 1, 0, 1, 1], [], [0, 3, 4, 5]⟩)]⟩
noncomputable def cfg102 (k : Nat) : Cfg := ⟨te, []⟩
noncomputable def fu102 (k : Nat) : Fu := fuOf an102 (cfg102 k) Try.f102 ps102
noncomputable def f102 (k : Nat) (a0 : List Int) : Option R102 := evF an102 (cfg102 k) k Try.f102 ps102 rs102 (a0, ())
noncomputable def C102 (k : Nat) : FC := mkC 102 ps102 rs102 an102 (cfg102 k) k Try.f102
noncomputable def f102_l3 (k n : Nat) (a0 : List Int) (t0 : List Int) (t3 : Int) (t4 : Int) : Option R102 := orcN (fu102 k) (exitF te Try.f102 ps102 rs102 (a0, ())) n 3 ([.c (.sl (.int .u8) t0), .c (.int .i64 t3), .c (.int .i64 t4)], [])
noncomputable def f102_l7 (k n : Nat) (a0 : List Int) (t0 : List Int) (t3 : Int) (t4 : Int) (t5 : Int) : Option R102 := orcN (fu102 k) (exitF te Try.f102 ps102 rs102 (a0, ())) n 7 ([.c (.sl (.int .u8) t0), .c (.int .i64 t3), .c (.int .i64 t4), .c (.int .i64 t5)], [])
noncomputable def f102_l8 (k n : Nat) (a0 : List Int) (t0 : List Int) (t3 : Int) (t4 : Int) (t5 : Int) : Option R102 := orcN (fu102 k) (exitF te Try.f102 ps102 rs102 (a0, ())) n 8 ([.c (.sl (.int .u8) t0), .c (.int .i64 t3), .c (.int .i64 t4), .c (.int .i64 t5)], [])
noncomputable def f102_u (a0 : List Int) (l3 : List Int → Int → Int → Option R102) : Option R102 :=
  l3 a0 (4294967295 : Int) (0 : Int)
theorem f102_eq (k : Nat) (a0 : List Int) : f102 k a0 = f102_u a0 (f102_l3 k k a0) := by kernel_rfl
noncomputable def f102_u3 (l7 : List Int → Int → Int → Int → Option R102) (t0 : List Int) (t3 : Int) (t4 : Int) : Option R102 :=
  bif decide (t4 < (t0.length : Int)) then
  (bif decide (0 ≤ t4) then bif decide (t4 < (t0.length : Int)) then l7 t0 (bitOp .xor .i64 t3 (IntKind.wrap .i64 (rdI t0 t4.toNat))) t4 (0 : Int) else none else none)
  else
  some ((bitOp .xor .i64 t3 (4294967295 : Int), ()), ())
theorem f102_l3_succ (k n : Nat) (a0 : List Int) (t0 : List Int) (t3 : Int) (t4 : Int) : f102_l3 k (n + 1) a0 t0 t3 t4 = f102_u3 (f102_l7 k n a0) t0 t3 t4 := by kernel_rfl
noncomputable def f102_u7 (l3 : List Int → Int → Int → Option R102) (l8 : List Int → Int → Int → Int → Option R102) (t0 : List Int) (t3 : Int) (t4 : Int) (t5 : Int) : Option R102 :=
  bif decide (t5 < (8 : Int)) then
  (bif (t3.tmod (2 : Int)) == (1 : Int) then
  (l8 t0 (bitOp .xor .i64 (IntKind.wrap .i64 (t3.tdiv (2 : Int))) (3988292384 : Int)) t4 t5)
  else
  l8 t0 (IntKind.wrap .i64 (t3.tdiv (2 : Int))) t4 t5)
  else
  l3 t0 t3 (IntKind.wrap .i64 (t4 + (1 : Int)))
theorem f102_l7_succ (k n : Nat) (a0 : List Int) (t0 : List Int) (t3 : Int) (t4 : Int) (t5 : Int) : f102_l7 k (n + 1) a0 t0 t3 t4 t5 = f102_u7 (f102_l3 k n a0) (f102_l8 k n a0) t0 t3 t4 t5 := by kernel_rfl
noncomputable def f102_u8 (l7 : List Int → Int → Int → Int → Option R102) (t0 : List Int) (t3 : Int) (t4 : Int) (t5 : Int) : Option R102 :=
  l7 t0 t3 t4 (IntKind.wrap .i64 (t5 + (1 : Int)))
theorem f102_l8_succ (k n : Nat) (a0 : List Int) (t0 : List Int) (t3 : Int) (t4 : Int) (t5 : Int) : f102_l8 k (n + 1) a0 t0 t3 t4 t5 = f102_u8 (f102_l7 k n a0) t0 t3 t4 t5 := by kernel_rfl
theorem s102 (k : Nat) : FSound Try.prog (C102 k) := by
  unfold C102
  exact mkC_sound follows_mixed te_ok AllSound.nil (by kernel_rfl) (by kernel_rfl) (by kernel_rfl) (by kernel_rfl)

/-! 142 spec.FrameOk -/
abbrev ps142 : List PM := [.imm T43]
abbrev rs142 : List RM := [.val .bool]
abbrev R142 := (Bool × Unit) × (Unit)
def an142 : An := ⟨[], []⟩
noncomputable def cfg142 (k : Nat) : Cfg := ⟨te, []⟩
noncomputable def fu142 (k : Nat) : Fu := fuOf an142 (cfg142 k) Try.f142 ps142
noncomputable def f142 (k : Nat) (a0 : D43) : Option R142 := evF an142 (cfg142 k) k Try.f142 ps142 rs142 (a0, ())
noncomputable def C142 (k : Nat) : FC := mkC 142 ps142 rs142 an142 (cfg142 k) k Try.f142
noncomputable def f142_u (a0 : D43) : Option R142 :=
  bif decide (a0.1 ≥ (1 : Int)) then
  (bif decide (a0.1 ≤ (3 : Int)) then
  (some ((decide ((a0.2.1.length : Int) ≤ (60000 : Int)), ()), ()))
  else
  some ((false, ()), ()))
  else
  some ((false, ()), ())
theorem f142_eq (k : Nat) (a0 : D43) : f142 k a0 = f142_u a0 := by kernel_rfl
theorem s142 (k : Nat) : FSound Try.prog (C142 k) := by
  unfold C142
  exact mkC_sound follows_mixed te_ok AllSound.nil (by kernel_rfl) (by kernel_rfl) (by kernel_rfl) (by kernel_rfl)

/-! 178 spec.l01Num -/
abbrev ps178 : List PM := [.imm (.int .i64)]
abbrev rs178 : List RM := [.val .bool]
abbrev R178 := (Bool × Unit) × (Unit)
def an178 : An := ⟨[], []⟩
noncomputable def cfg178 (k : Nat) : Cfg := ⟨te, []⟩
noncomputable def fu178 (k : Nat) : Fu := fuOf an178 (cfg178 k) Try.f178 ps178
noncomputable def f178 (k : Nat) (a0 : Int) : Option R178 := evF an178 (cfg178 k) k Try.f178 ps178 rs178 (a0, ())
noncomputable def C178 (k : Nat) : FC := mkC 178 ps178 rs178 an178 (cfg178 k) k Try.f178
noncomputable def f178_u (a0 : Int) : Option R178 :=
  bif decide (a0 ≥ (0 : Int)) then
  (some ((decide (a0 ≤ (281474976710655 : Int)), ()), ()))
  else
  some ((false, ()), ())
theorem f178_eq (k : Nat) (a0 : Int) : f178 k a0 = f178_u a0 := by kernel_rfl
theorem s178 (k : Nat) : FSound Try.prog (C178 k) := by
  unfold C178
  exact mkC_sound follows_mixed te_ok AllSound.nil (by kernel_rfl) (by kernel_rfl) (by kernel_rfl) (by kernel_rfl)

/-! 143 spec.PutFix -/
abbrev ps143 : List PM := [.imm (.sl (.int .u8)), .imm (.int .i64)]
abbrev rs143 : List RM := [.val (.own (.int .u8)), .val .bool]
abbrev R143 := ((List Int) × Bool × Unit) × (Unit)
def an143 : An := ⟨[(5, ⟨[0, 1, 0, 1, 1, 1], [], [1, 6, 7]⟩), (9, ⟨[0, 1, 0, 1, 0, 0, 1, 0, 0, 1, 0, 1, 1, 1], [], [1, 6, 7, 8, 9]⟩)], []⟩
noncomputable def cfg143 (k : Nat) : Cfg := ⟨te, [C178 k]⟩
noncomputable def fu143 (k : Nat) : Fu := fuOf an143 (cfg143 k) Try.f143 ps143
noncomputable def f143 (k : Nat) (a0 : List Int) (a1 : Int) : Option R143 := evF an143 (cfg143 k) k Try.f143 ps143 rs143 (a0, a1, ())
noncomputable def C143 (k : Nat) : FC := mkC 143 ps143 rs143 an143 (cfg143 k) k Try.f143
noncomputable def f143_l5 (k n : Nat) (a0 : List Int) (a1 : Int) (t1 : Int) (t7 : Int) (r0 : List Int) : Option R143 := orcN (fu143 k) (exitF te Try.f143 ps143 rs143 (a0, a1, ())) n 5 ([.c (.int .i64 t1), .c (.ref 0), .c (.int .i64 t7)], [some (.row (.int .u8) r0)])
noncomputable def f143_l9 (k n : Nat) (a0 : List Int) (a1 : Int) (t1 : Int) (t7 : Int) (t8 : Int) (t9 : Int) (r0 : List Int) : Option R143 := orcN (fu143 k) (exitF te Try.f143 ps143 rs143 (a0, a1, ())) n 9 ([.c (.int .i64 t1), .c (.ref 0), .c (.int .i64 t7), .c (.int .i64 t8), .c (.int .i64 t9)], [some (.row (.int .u8) r0)])
noncomputable def f143_u (k : Nat) (a0 : List Int) (a1 : Int) (l5 : Int → Int → List Int → Option R143) : Option R143 :=
  (f178 k a1).bind fun y1 =>
  bif !y1.1.1 then
  (some ((([] : List Int), false, ()), ()))
  else
  bif decide ((([] : List Int).length + a0.length) * 1 ≤ 140737488355328) then l5 a1 (5 : Int) (([] : List Int) ++ a0) else none
theorem f143_eq (k : Nat) (a0 : List Int) (a1 : Int) : f143 k a0 a1 = f143_u k a0 a1 (f143_l5 k k a0 a1) := by kernel_rfl
noncomputable def f143_u5 (l9 : Int → Int → Int → Int → List Int → Option R143) (t1 : Int) (t7 : Int) (r0 : List Int) : Option R143 :=
  bif decide (t7 ≥ (0 : Int)) then
  (l9 t1 t7 t1 (0 : Int) r0)
  else
  some ((r0, true, ()), ())
theorem f143_l5_succ (k n : Nat) (a0 : List Int) (a1 : Int) (t1 : Int) (t7 : Int) (r0 : List Int) : f143_l5 k (n + 1) a0 a1 t1 t7 r0 = f143_u5 (f143_l9 k n a0 a1) t1 t7 r0 := by kernel_rfl
noncomputable def f143_u9 (l5 : Int → Int → List Int → Option R143) (l9 : Int → Int → Int → Int → List Int → Option R143) (t1 : Int) (t7 : Int) (t8 : Int) (t9 : Int) (r0 : List Int) : Option R143 :=
  bif decide (t9 < t7) then
  (l9 t1 t7 (IntKind.wrap .i64 (t8.tdiv (256 : Int))) (IntKind.wrap .i64 (t9 + (1 : Int))) r0)
  else
  bif decide ((r0.length + [IntKind.wrap .u8 (t8.tmod (256 : Int))].length) * 1 ≤ 140737488355328) then l5 t1 (IntKind.wrap .i64 (t7 - (1 : Int))) (r0 ++ [IntKind.wrap .u8 (t8.tmod (256 : Int))]) else none
theorem f143_l9_succ (k n : Nat) (a0 : List Int) (a1 : Int) (t1 : Int) (t7 : Int) (t8 : Int) (t9 : Int) (r0 : List Int) : f143_l9 k (n + 1) a0 a1 t1 t7 t8 t9 r0 = f143_u9 (f143_l5 k n a0 a1) (f143_l9 k n a0 a1) t1 t7 t8 t9 r0 := by kernel_rfl
theorem s143 (k : Nat) : FSound Try.prog (C143 k) := by
  unfold C143
  exact mkC_sound follows_mixed te_ok (AllSound.cons (s178 k) AllSound.nil) (by kernel_rfl) (by kernel_rfl) (by kernel_rfl) (by kernel_rfl)

/-! 103 spec.FrameBytes -/
abbrev ps103 : List PM := [.imm T43]
abbrev rs103 : List RM := [.val (.own (.int .u8)), .val .bool]
abbrev R103 := ((List Int) × Bool × Unit) × (Unit)
def an103 : An := ⟨[], []⟩
noncomputable def cfg103 (k : Nat) : Cfg := ⟨te, [C142 k, C143 k, C102 k]⟩
noncomputable def fu103 (k : Nat) : Fu := fuOf an103 (cfg103 k) Try.f103 ps103
noncomputable def f103 (k : Nat) (a0 : D43) : Option R103 := evF an103 (cfg103 k) k Try.f103 ps103 rs103 (a0, ())
noncomputable def C103 (k : Nat) : FC := mkC 103 ps103 rs103 an103 (cfg103 k) k Try.f103
noncomputable def f103_u (k : Nat) (a0 : D43) : Option R103 :=
  (f142 k a0).bind fun y1 =>
  bif !y1.1.1 then
  (some ((([] : List Int), false, ()), ()))
  else
  (f143 k [(71 : Int), IntKind.wrap .u8 (a0.1)] (a0.2.1.length : Int)).bind fun y2 =>
  (f102 k y2.1.1).bind fun y3 =>
  (f143 k y2.1.1 y3.1.1).bind fun y4 =>
  (f102 k a0.2.1).bind fun y5 =>
  (f143 k y4.1.1 y5.1.1).bind fun y6 =>
  bif decide ((y6.1.1.length + a0.2.1.length) * 1 ≤ 140737488355328) then some ((y6.1.1 ++ a0.2.1, true, ()), ()) else none
theorem f103_eq (k : Nat) (a0 : D43) : f103 k a0 = f103_u k a0 := by kernel_rfl
theorem s103 (k : Nat) : FSound Try.prog (C103 k) := by
  unfold C103
  exact mkC_sound follows_mixed te_ok (AllSound.cons (s142 k) (AllSound.cons (s143 k) (AllSound.cons (s102 k) AllSound.nil))) (by kernel_rfl) (by kernel_rfl) (by kernel_rfl) (by kernel_rfl)

/-! 53 spec.FrameRead -/
abbrev ps53 : List PM := [.imm (.sl (.int .u8)), .imm (.int .i64)]
abbrev rs53 : List RM := [.val (.pair (.int .i64) (.pair (.own (.int .u8)) .unit)), .val (.int .i64), .val (.int .i64)]
abbrev R53 := (D43 × Int × Int × Unit) × (Unit)
def an53 : An := ⟨[], []⟩
noncomputable def cfg53 (k : Nat) : Cfg := ⟨te, [C101 k, C102 k, C103 k]⟩
noncomputable def fu53 (k : Nat) : Fu := fuOf an53 (cfg53 k) Try.f53 ps53
noncomputable def f53 (k : Nat) (a0 : List Int) (a1 : Int) : Option R53 := evF an53 (cfg53 k) k Try.f53 ps53 rs53 (a0, a1, ())
noncomputable def C53 (k : Nat) : FC := mkC 53 ps53 rs53 an53 (cfg53 k) k Try.f53
noncomputable def f53_u (k : Nat) (a0 : List Int) (a1 : Int) : Option R53 :=
  bif decide (a1 < (0 : Int)) then
  (some ((((0 : Int), (([] : List Int), ())), (0 : Int), (1 : Int), ()), ()))
  else
  bif decide (a1 > (a0.length : Int)) then
  (some ((((0 : Int), (([] : List Int), ())), (0 : Int), (1 : Int), ()), ()))
  else
  bif decide (IntKind.wrap .i64 ((a0.length : Int) - a1) < (14 : Int)) then
  (some ((((0 : Int), (([] : List Int), ())), (0 : Int), (2 : Int), ()), ()))
  else
  (f101 k a0 (IntKind.wrap .i64 (a1 + (2 : Int)))).bind fun y1 =>
  (f101 k a0 (IntKind.wrap .i64 (a1 + (8 : Int)))).bind fun y2 =>
  bif decide (0 ≤ IntKind.wrap .i64 (a1 + (1 : Int))) then bif decide (IntKind.wrap .i64 (a1 + (1 : Int)) < (a0.length : Int)) then bif decide (0 ≤ a1) then bif decide (a1 < (a0.length : Int)) then bif (rdI a0 a1.toNat) != (71 : Int) then
  (some ((((0 : Int), (([] : List Int), ())), (0 : Int), (3 : Int), ()), ()))
  else
  bif decide (IntKind.wrap .i64 (rdI a0 ((IntKind.wrap .i64 (a1 + (1 : Int))).toNat)) < (1 : Int)) then
  (some ((((0 : Int), (([] : List Int), ())), (0 : Int), (3 : Int), ()), ()))
  else
  bif decide (IntKind.wrap .i64 (rdI a0 ((IntKind.wrap .i64 (a1 + (1 : Int))).toNat)) > (3 : Int)) then
  (some ((((0 : Int), (([] : List Int), ())), (0 : Int), (3 : Int), ()), ()))
  else
  bif decide (y1.1.1 > (60000 : Int)) then
  (some ((((0 : Int), (([] : List Int), ())), (0 : Int), (3 : Int), ()), ()))
  else
  bif decide (0 ≤ a1) then bif decide (a1 ≤ IntKind.wrap .i64 (a1 + (8 : Int))) then bif decide (IntKind.wrap .i64 (a1 + (8 : Int)) ≤ (a0.length : Int)) then (f102 k ((a0.take ((IntKind.wrap .i64 (a1 + (8 : Int))).toNat)).drop a1.toNat)).bind fun y3 =>
  bif y2.1.1 != y3.1.1 then
  (some ((((0 : Int), (([] : List Int), ())), (0 : Int), (3 : Int), ()), ()))
  else
  bif decide (y1.1.1 > IntKind.wrap .i64 ((IntKind.wrap .i64 ((a0.length : Int) - a1)) - (20 : Int))) then
  (some ((((0 : Int), (([] : List Int), ())), (0 : Int), (4 : Int), ()), ()))
  else
  bif decide (0 ≤ IntKind.wrap .i64 (a1 + (20 : Int))) then bif decide (IntKind.wrap .i64 (a1 + (20 : Int)) ≤ IntKind.wrap .i64 ((IntKind.wrap .i64 (a1 + (20 : Int))) + y1.1.1)) then bif decide (IntKind.wrap .i64 ((IntKind.wrap .i64 (a1 + (20 : Int))) + y1.1.1) ≤ (a0.length : Int)) then bif decide ((([] : List Int).length + ((a0.take ((IntKind.wrap .i64 ((IntKind.wrap .i64 (a1 + (20 : Int))) + y1.1.1)).toNat)).drop ((IntKind.wrap .i64 (a1 + (20 : Int))).toNat)).length) * 1 ≤ 140737488355328) then let z4 : List Int := ([] : List Int) ++ ((a0.take ((IntKind.wrap .i64 ((IntKind.wrap .i64 (a1 + (20 : Int))) + y1.1.1)).toNat)).drop ((IntKind.wrap .i64 (a1 + (20 : Int))).toNat))
  (f103 k (IntKind.wrap .i64 (rdI a0 ((IntKind.wrap .i64 (a1 + (1 : Int))).toNat)), (z4, ()))).bind fun y5 =>
  bif decide (0 ≤ a1) then bif decide (a1 ≤ IntKind.wrap .i64 ((IntKind.wrap .i64 (a1 + (20 : Int))) + y1.1.1)) then bif decide (IntKind.wrap .i64 ((IntKind.wrap .i64 (a1 + (20 : Int))) + y1.1.1) ≤ (a0.length : Int)) then bif !sEq (bytesOf y5.1.1) (bytesOf ((a0.take ((IntKind.wrap .i64 ((IntKind.wrap .i64 (a1 + (20 : Int))) + y1.1.1)).toNat)).drop a1.toNat)) then
  (some ((((0 : Int), (([] : List Int), ())), (0 : Int), (5 : Int), ()), ()))
  else
  some (((IntKind.wrap .i64 (rdI a0 ((IntKind.wrap .i64 (a1 + (1 : Int))).toNat)), (z4, ())), IntKind.wrap .i64 ((IntKind.wrap .i64 (a1 + (20 : Int))) + y1.1.1), (0 : Int), ()), ()) else none else none else none else none else none else none else none else none else none else none else none else none else none else none
theorem f53_eq (k : Nat) (a0 : List Int) (a1 : Int) : f53 k a0 a1 = f53_u k a0 a1 := by kernel_rfl
theorem s53 (k : Nat) : FSound Try.prog (C53 k) := by
  unfold C53
  exact mkC_sound follows_mixed te_ok (AllSound.cons (s101 k) (AllSound.cons (s102 k) (AllSound.cons (s103 k) AllSound.nil))) (by kernel_rfl) (by kernel_rfl) (by kernel_rfl) (by kernel_rfl)

/-! 147 spec.PutVar -/
abbrev ps147 : List PM := [.imm (.sl (.int .u8)), .imm (.int .i64)]
abbrev rs147 : List RM := [.val (.own (.int .u8)), .val .bool]
abbrev R147 := ((List Int) × Bool × Unit) × (Unit)
def an147 : An := ⟨[(4, ⟨[0, 0, 1, 1, 1], [], [1, 6]⟩)], []⟩
noncomputable def cfg147 (k : Nat) : Cfg := ⟨te, [C178 k]⟩
noncomputable def fu147 (k : Nat) : Fu := fuOf an147 (cfg147 k) Try.f147 ps147
noncomputable def f147 (k : Nat) (a0 : List Int) (a1 : Int) : Option R147 := evF an147 (cfg147 k) k Try.f147 ps147 rs147 (a0, a1, ())
noncomputable def C147 (k : Nat) : FC := mkC 147 ps147 rs147 an147 (cfg147 k) k Try.f147
noncomputable def f147_l4 (k n : Nat) (a0 : List Int) (a1 : Int) (t1 : Int) (r0 : List Int) : Option R147 := orcN (fu147 k) (exitF te Try.f147 ps147 rs147 (a0, a1, ())) n 4 ([.c (.int .i64 t1), .c (.ref 0)], [some (.row (.int .u8) r0)])
noncomputable def f147_u (k : Nat) (a0 : List Int) (a1 : Int) (l4 : Int → List Int → Option R147) : Option R147 :=
  (f178 k a1).bind fun y1 =>
  bif !y1.1.1 then
  (some ((([] : List Int), false, ()), ()))
  else
  bif decide ((([] : List Int).length + a0.length) * 1 ≤ 140737488355328) then l4 a1 (([] : List Int) ++ a0) else none
theorem f147_eq (k : Nat) (a0 : List Int) (a1 : Int) : f147 k a0 a1 = f147_u k a0 a1 (f147_l4 k k a0 a1) := by kernel_rfl
noncomputable def f147_u4 (l4 : Int → List Int → Option R147) (t1 : Int) (r0 : List Int) : Option R147 :=
  bif decide (t1 ≥ (128 : Int)) then
  (bif decide ((r0.length + [IntKind.wrap .u8 (IntKind.wrap .i64 ((t1.tmod (128 : Int)) + (128 : Int)))].length) * 1 ≤ 140737488355328) then l4 (IntKind.wrap .i64 (t1.tdiv (128 : Int))) (r0 ++ [IntKind.wrap .u8 (IntKind.wrap .i64 ((t1.tmod (128 : Int)) + (128 : Int)))]) else none)
  else
  bif decide ((r0.length + [IntKind.wrap .u8 (t1)].length) * 1 ≤ 140737488355328) then some ((r0 ++ [IntKind.wrap .u8 (t1)], true, ()), ()) else none
theorem f147_l4_succ (k n : Nat) (a0 : List Int) (a1 : Int) (t1 : Int) (r0 : List Int) : f147_l4 k (n + 1) a0 a1 t1 r0 = f147_u4 (f147_l4 k n a0 a1) t1 r0 := by kernel_rfl
theorem s147 (k : Nat) : FSound Try.prog (C147 k) := by
  unfold C147
  exact mkC_sound follows_mixed te_ok (AllSound.cons (s178 k) AllSound.nil) (by kernel_rfl) (by kernel_rfl) (by kernel_rfl) (by kernel_rfl)

/-! 144 spec.GetVar -/
abbrev ps144 : List PM := [.imm (.sl (.int .u8)), .imm (.int .i64)]
abbrev rs144 : List RM := [.val (.int .i64), .val (.int .i64), .val .bool]
abbrev R144 := (Int × Int × Bool × Unit) × (Unit)
def an144 : An := ⟨[(4, ⟨[0, 0, 1, 1, 1], [], [0, 1, 7]⟩), (10, ⟨[0, 1, 0, 1, 1, 1, 1, 1, 1], [], [0, 1, 7, 8, 9]⟩)], []⟩
noncomputable def cfg144 (k : Nat) : Cfg := ⟨te, [C147 k]⟩
noncomputable def fu144 (k : Nat) : Fu := fuOf an144 (cfg144 k) Try.f144 ps144
noncomputable def f144 (k : Nat) (a0 : List Int) (a1 : Int) : Option R144 := evF an144 (cfg144 k) k Try.f144 ps144 rs144 (a0, a1, ())
noncomputable def C144 (k : Nat) : FC := mkC 144 ps144 rs144 an144 (cfg144 k) k Try.f144
noncomputable def f144_l4 (k n : Nat) (a0 : List Int) (a1 : Int) (t0 : List Int) (t1 : Int) (t7 : Int) : Option R144 := orcN (fu144 k) (exitF te Try.f144 ps144 rs144 (a0, a1, ())) n 4 ([.c (.sl (.int .u8) t0), .c (.int .i64 t1), .c (.int .i64 t7)], [])
noncomputable def f144_l10 (k n : Nat) (a0 : List Int) (a1 : Int) (t0 : List Int) (t1 : Int) (t7 : Int) (t8 : Int) (t9 : Int) : Option R144 := orcN (fu144 k) (exitF te Try.f144 ps144 rs144 (a0, a1, ())) n 10 ([.c (.sl (.int .u8) t0), .c (.int .i64 t1), .c (.int .i64 t7), .c (.int .i64 t8), .c (.int .i64 t9)], [])
noncomputable def f144_u (a0 : List Int) (a1 : Int) (l4 : List Int → Int → Int → Option R144) : Option R144 :=
  bif decide (a1 < (0 : Int)) then
  (some (((0 : Int), (0 : Int), false, ()), ()))
  else
  bif decide (a1 ≥ (a0.length : Int)) then
  (some (((0 : Int), (0 : Int), false, ()), ()))
  else
  l4 a0 a1 a1
theorem f144_eq (k : Nat) (a0 : List Int) (a1 : Int) : f144 k a0 a1 = f144_u a0 a1 (f144_l4 k k a0 a1) := by kernel_rfl
noncomputable def f144_u4 (l4 : List Int → Int → Int → Option R144) (l10 : List Int → Int → Int → Int → Int → Option R144) (t0 : List Int) (t1 : Int) (t7 : Int) : Option R144 :=
  bif decide (t7 < (t0.length : Int)) then
  (bif decide (t7 < IntKind.wrap .i64 (t1 + (7 : Int))) then
  (bif decide (0 ≤ t7) then bif decide (t7 < (t0.length : Int)) then bif decide (rdI t0 t7.toNat ≥ (128 : Int)) then
  (l4 t0 t1 (IntKind.wrap .i64 (t7 + (1 : Int))))
  else
  bif t7 == (t0.length : Int) then
  (some (((0 : Int), (0 : Int), false, ()), ()))
  else
  bif t7 == (IntKind.wrap .i64 (t1 + (7 : Int))) then
  (some (((0 : Int), (0 : Int), false, ()), ()))
  else
  l10 t0 t1 t7 (0 : Int) t7 else none else none)
  else
  bif t7 == (t0.length : Int) then
  (some (((0 : Int), (0 : Int), false, ()), ()))
  else
  bif t7 == (IntKind.wrap .i64 (t1 + (7 : Int))) then
  (some (((0 : Int), (0 : Int), false, ()), ()))
  else
  l10 t0 t1 t7 (0 : Int) t7)
  else
  bif t7 == (t0.length : Int) then
  (some (((0 : Int), (0 : Int), false, ()), ()))
  else
  bif t7 == (IntKind.wrap .i64 (t1 + (7 : Int))) then
  (some (((0 : Int), (0 : Int), false, ()), ()))
  else
  l10 t0 t1 t7 (0 : Int) t7
theorem f144_l4_succ (k n : Nat) (a0 : List Int) (a1 : Int) (t0 : List Int) (t1 : Int) (t7 : Int) : f144_l4 k (n + 1) a0 a1 t0 t1 t7 = f144_u4 (f144_l4 k n a0 a1) (f144_l10 k n a0 a1) t0 t1 t7 := by kernel_rfl
noncomputable def f144_u10 (k : Nat) (l10 : List Int → Int → Int → Int → Int → Option R144) (t0 : List Int) (t1 : Int) (t7 : Int) (t8 : Int) (t9 : Int) : Option R144 :=
  bif decide (t9 ≥ t1) then
  (bif decide (0 ≤ t9) then bif decide (t9 < (t0.length : Int)) then l10 t0 t1 t7 (IntKind.wrap .i64 ((IntKind.wrap .i64 (t8 * (128 : Int))) + ((IntKind.wrap .i64 (rdI t0 t9.toNat)).tmod (128 : Int)))) (IntKind.wrap .i64 (t9 - (1 : Int))) else none else none)
  else
  (f147 k ([] : List Int) t8).bind fun y1 =>
  bif !y1.1.2.1 then
  (some (((0 : Int), (0 : Int), false, ()), ()))
  else
  bif decide (0 ≤ t1) then bif decide (t1 ≤ IntKind.wrap .i64 (t7 + (1 : Int))) then bif decide (IntKind.wrap .i64 (t7 + (1 : Int)) ≤ (t0.length : Int)) then bif !sEq (bytesOf y1.1.1) (bytesOf ((t0.take ((IntKind.wrap .i64 (t7 + (1 : Int))).toNat)).drop t1.toNat)) then
  (some (((0 : Int), (0 : Int), false, ()), ()))
  else
  some ((t8, IntKind.wrap .i64 (t7 + (1 : Int)), true, ()), ()) else none else none else none
theorem f144_l10_succ (k n : Nat) (a0 : List Int) (a1 : Int) (t0 : List Int) (t1 : Int) (t7 : Int) (t8 : Int) (t9 : Int) : f144_l10 k (n + 1) a0 a1 t0 t1 t7 t8 t9 = f144_u10 k (f144_l10 k n a0 a1) t0 t1 t7 t8 t9 := by kernel_rfl
theorem s144 (k : Nat) : FSound Try.prog (C144 k) := by
  unfold C144
  exact mkC_sound follows_mixed te_ok (AllSound.cons (s147 k) AllSound.nil) (by kernel_rfl) (by kernel_rfl) (by kernel_rfl) (by kernel_rfl)

/-! 104 spec.l08Var -/
abbrev ps104 : List PM := [.ref T142]
abbrev rs104 : List RM := [.val (.int .i64)]
abbrev R104 := (Int × Unit) × (D142 × Unit)
def an104 : An := ⟨[], []⟩
noncomputable def cfg104 (k : Nat) : Cfg := ⟨te, [C144 k]⟩
noncomputable def fu104 (k : Nat) : Fu := fuOf an104 (cfg104 k) Try.f104 ps104
noncomputable def f104 (k : Nat) (a0 : D142) : Option R104 := evF an104 (cfg104 k) k Try.f104 ps104 rs104 (a0, ())
noncomputable def C104 (k : Nat) : FC := mkC 104 ps104 rs104 an104 (cfg104 k) k Try.f104
noncomputable def f104_u (k : Nat) (a0 : D142) : Option R104 :=
  (f144 k a0.1 a0.2.1).bind fun y1 =>
  bif !y1.1.2.2.1 then
  (some (((0 : Int), ()), ((a0.1, (a0.2.1, (true, ()))), ())))
  else
  bif a0.2.2.1 then
  (some (((0 : Int), ()), ((a0.1, (a0.2.1, (true, ()))), ())))
  else
  some ((y1.1.1, ()), ((a0.1, (y1.1.2.1, a0.2.2)), ()))
theorem f104_eq (k : Nat) (a0 : D142) : f104 k a0 = f104_u k a0 := by kernel_rfl
theorem s104 (k : Nat) : FSound Try.prog (C104 k) := by
  unfold C104
  exact mkC_sound follows_mixed te_ok (AllSound.cons (s144 k) AllSound.nil) (by kernel_rfl) (by kernel_rfl) (by kernel_rfl) (by kernel_rfl)

/-! 145 spec.l15Sum -/
abbrev ps145 : List PM := [.imm (.int .i64)]
abbrev rs145 : List RM := [.val .bool]
abbrev R145 := (Bool × Unit) × (Unit)
def an145 : An := ⟨[], []⟩
noncomputable def cfg145 (k : Nat) : Cfg := ⟨te, []⟩
noncomputable def fu145 (k : Nat) : Fu := fuOf an145 (cfg145 k) Try.f145 ps145
noncomputable def f145 (k : Nat) (a0 : Int) : Option R145 := evF an145 (cfg145 k) k Try.f145 ps145 rs145 (a0, ())
noncomputable def C145 (k : Nat) : FC := mkC 145 ps145 rs145 an145 (cfg145 k) k Try.f145
noncomputable def f145_u (a0 : Int) : Option R145 :=
  bif decide (a0 ≥ (0 : Int)) then
  (some ((decide (a0 ≤ (4294967295 : Int)), ()), ()))
  else
  some ((false, ()), ())
theorem f145_eq (k : Nat) (a0 : Int) : f145 k a0 = f145_u a0 := by kernel_rfl
theorem s145 (k : Nat) : FSound Try.prog (C145 k) := by
  unfold C145
  exact mkC_sound follows_mixed te_ok AllSound.nil (by kernel_rfl) (by kernel_rfl) (by kernel_rfl) (by kernel_rfl)

/-! 105 spec.CommitOk -/
abbrev ps105 : List PM := [.imm T36]
abbrev rs105 : List RM := [.val .bool]
abbrev R105 := (Bool × Unit) × (Unit)
def an105 : An := ⟨[], []⟩
noncomputable def cfg105 (k : Nat) : Cfg := ⟨te, [C145 k]⟩
noncomputable def fu105 (k : Nat) : Fu := fuOf an105 (cfg105 k) Try.f105 ps105
noncomputable def f105 (k : Nat) (a0 : D36) : Option R105 := evF an105 (cfg105 k) k Try.f105 ps105 rs105 (a0, ())
noncomputable def C105 (k : Nat) : FC := mkC 105 ps105 rs105 an105 (cfg105 k) k Try.f105
noncomputable def f105_u (k : Nat) (a0 : D36) : Option R105 :=
  bif decide (a0.1 ≥ (1 : Int)) then
  (bif decide (a0.1 ≤ (1000000 : Int)) then
  (bif decide (a0.2.1 ≥ (1 : Int)) then
  (bif decide (a0.2.1 ≤ a0.1) then
  ((f145 k a0.2.2.1).bind fun y1 =>
  bif y1.1.1 then
  ((f145 k a0.2.2.2.2.1).bind fun y2 =>
  bif y2.1.1 then
  (bif a0.2.2.2.1 then
  (some ((true, ()), ()))
  else
  some ((a0.2.2.2.2.1 == (0 : Int), ()), ()))
  else
  some ((false, ()), ()))
  else
  some ((false, ()), ()))
  else
  some ((false, ()), ()))
  else
  some ((false, ()), ()))
  else
  some ((false, ()), ()))
  else
  some ((false, ()), ())
theorem f105_eq (k : Nat) (a0 : D36) : f105 k a0 = f105_u k a0 := by kernel_rfl
theorem s105 (k : Nat) : FSound Try.prog (C105 k) := by
  unfold C105
  exact mkC_sound follows_mixed te_ok (AllSound.cons (s145 k) AllSound.nil) (by kernel_rfl) (by kernel_rfl) (by kernel_rfl) (by kernel_rfl)

/-! 146 spec.l15Bit -/
abbrev ps146 : List PM := [.imm .bool]
abbrev rs146 : List RM := [.val (.int .i64)]
abbrev R146 := (Int × Unit) × (Unit)
def an146 : An := ⟨[], []⟩
noncomputable def cfg146 (k : Nat) : Cfg := ⟨te, []⟩
noncomputable def fu146 (k : Nat) : Fu := fuOf an146 (cfg146 k) Try.f146 ps146
noncomputable def f146 (k : Nat) (a0 : Bool) : Option R146 := evF an146 (cfg146 k) k Try.f146 ps146 rs146 (a0, ())
noncomputable def C146 (k : Nat) : FC := mkC 146 ps146 rs146 an146 (cfg146 k) k Try.f146
noncomputable def f146_u (a0 : Bool) : Option R146 :=
  bif a0 then
  (some (((1 : Int), ()), ()))
  else
  some (((0 : Int), ()), ())
theorem f146_eq (k : Nat) (a0 : Bool) : f146 k a0 = f146_u a0 := by kernel_rfl
theorem s146 (k : Nat) : FSound Try.prog (C146 k) := by
  unfold C146
  exact mkC_sound follows_mixed te_ok AllSound.nil (by kernel_rfl) (by kernel_rfl) (by kernel_rfl) (by kernel_rfl)

/-! 106 spec.l15Data -/
abbrev ps106 : List PM := [.imm T36]
abbrev rs106 : List RM := [.val (.own (.int .u8))]
abbrev R106 := ((List Int) × Unit) × (Unit)
def an106 : An := ⟨[(3, ⟨[0, 1, 0, 1, 1], [], [3, 18, 19, 20]⟩)], []⟩
noncomputable def cfg106 (k : Nat) : Cfg := ⟨te, [C146 k, C147 k]⟩
noncomputable def fu106 (k : Nat) : Fu := fuOf an106 (cfg106 k) Try.f106 ps106
noncomputable def f106 (k : Nat) (a0 : D36) : Option R106 := evF an106 (cfg106 k) k Try.f106 ps106 rs106 (a0, ())
noncomputable def C106 (k : Nat) : FC := mkC 106 ps106 rs106 an106 (cfg106 k) k Try.f106
noncomputable def f106_l3 (k n : Nat) (a0 : D36) (t19 : Int) (t20 : Int) (r0 : List Int) (r1 : List Int) : Option R106 := orcN (fu106 k) (exitF te Try.f106 ps106 rs106 (a0, ())) n 3 ([.c (.ref 0), .c (.ref 1), .c (.int .i64 t19), .c (.int .i64 t20)], [some (.row (.int .u8) r0), some (.row (.int .i64) r1)])
noncomputable def f106_u (k : Nat) (a0 : D36) (l3 : Int → Int → List Int → List Int → Option R106) : Option R106 :=
  (f146 k a0.2.2.2.1).bind fun y1 =>
  l3 ([a0.1, a0.2.1, a0.2.2.1, y1.1.1, a0.2.2.2.2.1].length : Int) (0 : Int) ([] : List Int) [a0.1, a0.2.1, a0.2.2.1, y1.1.1, a0.2.2.2.2.1]
theorem f106_eq (k : Nat) (a0 : D36) : f106 k a0 = f106_u k a0 (f106_l3 k k a0) := by kernel_rfl
noncomputable def f106_u3 (k : Nat) (l3 : Int → Int → List Int → List Int → Option R106) (t19 : Int) (t20 : Int) (r0 : List Int) (r1 : List Int) : Option R106 :=
  bif decide (t20 < t19) then
  (bif decide (0 ≤ t20) then bif decide (t20 < (r1.length : Int)) then (f147 k r0 (rdI r1 t20.toNat)).bind fun y2 =>
  l3 t19 (IntKind.wrap .i64 (t20 + (1 : Int))) y2.1.1 r1 else none else none)
  else
  some ((r0, ()), ())
theorem f106_l3_succ (k n : Nat) (a0 : D36) (t19 : Int) (t20 : Int) (r0 : List Int) (r1 : List Int) : f106_l3 k (n + 1) a0 t19 t20 r0 r1 = f106_u3 k (f106_l3 k n a0) t19 t20 r0 r1 := by kernel_rfl
theorem s106 (k : Nat) : FSound Try.prog (C106 k) := by
  unfold C106
  exact mkC_sound follows_mixed te_ok (AllSound.cons (s146 k) (AllSound.cons (s147 k) AllSound.nil)) (by kernel_rfl) (by kernel_rfl) (by kernel_rfl) (by kernel_rfl)

/-! 54 spec.CommitRead -/
abbrev ps54 : List PM := [.imm (.sl (.int .u8))]
abbrev rs54 : List RM := [.val T36, .val .bool]
abbrev R54 := (D36 × Bool × Unit) × (Unit)
def an54 : An := ⟨[], []⟩
noncomputable def cfg54 (k : Nat) : Cfg := ⟨te, [C104 k, C105 k, C106 k]⟩
noncomputable def fu54 (k : Nat) : Fu := fuOf an54 (cfg54 k) Try.f54 ps54
noncomputable def f54 (k : Nat) (a0 : List Int) : Option R54 := evF an54 (cfg54 k) k Try.f54 ps54 rs54 (a0, ())
noncomputable def C54 (k : Nat) : FC := mkC 54 ps54 rs54 an54 (cfg54 k) k Try.f54
noncomputable def f54_u (k : Nat) (a0 : List Int) : Option R54 :=
  (f104 k (a0, ((0 : Int), (false, ())))).bind fun y1 =>
  (f104 k y1.2.1).bind fun y2 =>
  (f104 k y2.2.1).bind fun y3 =>
  (f104 k y3.2.1).bind fun y4 =>
  (f104 k y4.2.1).bind fun y5 =>
  bif y5.2.1.2.2.1 then
  (some ((((0 : Int), ((0 : Int), ((0 : Int), (false, ((0 : Int), ()))))), false, ()), ()))
  else
  (f105 k (y1.1.1, (y2.1.1, (y3.1.1, (y4.1.1 == (1 : Int), (y5.1.1, ())))))).bind fun y6 =>
  bif !y6.1.1 then
  (some ((((0 : Int), ((0 : Int), ((0 : Int), (false, ((0 : Int), ()))))), false, ()), ()))
  else
  (f106 k (y1.1.1, (y2.1.1, (y3.1.1, (y4.1.1 == (1 : Int), (y5.1.1, ())))))).bind fun y7 =>
  bif !sEq (bytesOf y7.1.1) (bytesOf a0) then
  (some ((((0 : Int), ((0 : Int), ((0 : Int), (false, ((0 : Int), ()))))), false, ()), ()))
  else
  some (((y1.1.1, (y2.1.1, (y3.1.1, (y4.1.1 == (1 : Int), (y5.1.1, ()))))), true, ()), ())
theorem f54_eq (k : Nat) (a0 : List Int) : f54 k a0 = f54_u k a0 := by kernel_rfl
theorem s54 (k : Nat) : FSound Try.prog (C54 k) := by
  unfold C54
  exact mkC_sound follows_mixed te_ok (AllSound.cons (s104 k) (AllSound.cons (s105 k) (AllSound.cons (s106 k) AllSound.nil))) (by kernel_rfl) (by kernel_rfl) (by kernel_rfl) (by kernel_rfl)

/-! 10 spec.LogRead -/
abbrev ps10 : List PM := [.imm (.sl (.int .u8))]
abbrev rs10 : List RM := [.val (.own T36), .val (.int .i64), .val (.int .i64)]
abbrev R10 := ((List D36) × Int × Int × Unit) × (Unit)
def an10 : An := ⟨[(4, ⟨[0, 0, 1, 1, 1, 1], [], [0, 5, 6, 7]⟩)], []⟩
noncomputable def cfg10 (k : Nat) : Cfg := ⟨te, [C53 k, C54 k]⟩
noncomputable def fu10 (k : Nat) : Fu := fuOf an10 (cfg10 k) Try.f10 ps10
noncomputable def f10 (k : Nat) (a0 : List Int) : Option R10 := evF an10 (cfg10 k) k Try.f10 ps10 rs10 (a0, ())
noncomputable def C10 (k : Nat) : FC := mkC 10 ps10 rs10 an10 (cfg10 k) k Try.f10
noncomputable def f10_l4 (k n : Nat) (a0 : List Int) (t0 : List Int) (t6 : Int) (t7 : Int) (r0 : List D36) : Option R10 := orcN (fu10 k) (exitF te Try.f10 ps10 rs10 (a0, ())) n 4 ([.c (.sl (.int .u8) t0), .c (.ref 0), .c (.int .i64 t6), .c (.int .i64 t7)], [some (.row T36 r0)])
noncomputable def f10_u (a0 : List Int) (l4 : List Int → Int → Int → List D36 → Option R10) : Option R10 :=
  l4 a0 (0 : Int) (0 : Int) ([] : List D36)
theorem f10_eq (k : Nat) (a0 : List Int) : f10 k a0 = f10_u a0 (f10_l4 k k a0) := by kernel_rfl
noncomputable def f10_u4 (k : Nat) (l4 : List Int → Int → Int → List D36 → Option R10) (t0 : List Int) (t6 : Int) (t7 : Int) (r0 : List D36) : Option R10 :=
  bif decide (t6 < (t0.length : Int)) then
  ((f53 k t0 t6).bind fun y1 =>
  bif y1.1.2.2.1 == (2 : Int) then
  (some ((r0, t6, (1 : Int), ()), ()))
  else
  bif y1.1.2.2.1 == (4 : Int) then
  (some ((r0, t6, (1 : Int), ()), ()))
  else
  (f54 k y1.1.1.2.1).bind fun y2 =>
  bif y1.1.2.2.1 != (0 : Int) then
  (some ((r0, t6, (2 : Int), ()), ()))
  else
  bif y1.1.1.1 != (3 : Int) then
  (some ((r0, t6, (2 : Int), ()), ()))
  else
  bif !y2.1.2.1 then
  (some ((r0, t6, (2 : Int), ()), ()))
  else
  bif decide (y2.1.1.1 ≤ t7) then
  (some ((r0, t6, (2 : Int), ()), ()))
  else
  bif decide ((r0.length + [y2.1.1].length) * 40 ≤ 140737488355328) then l4 t0 y1.1.2.1 y2.1.1.1 (r0 ++ [y2.1.1]) else none)
  else
  some ((r0, t6, (0 : Int), ()), ())
theorem f10_l4_succ (k n : Nat) (a0 : List Int) (t0 : List Int) (t6 : Int) (t7 : Int) (r0 : List D36) : f10_l4 k (n + 1) a0 t0 t6 t7 r0 = f10_u4 k (f10_l4 k n a0) t0 t6 t7 r0 := by kernel_rfl
theorem s10 (k : Nat) : FSound Try.prog (C10 k) := by
  unfold C10
  exact mkC_sound follows_mixed te_ok (AllSound.cons (s53 k) (AllSound.cons (s54 k) AllSound.nil)) (by kernel_rfl) (by kernel_rfl) (by kernel_rfl) (by kernel_rfl)

/-! 11 laws.toByteS -/
abbrev ps11 : List PM := [.imm (.sl (.int .u8))]
abbrev rs11 : List RM := [.val (.own (.int .u8))]
abbrev R11 := ((List Int) × Unit) × (Unit)
def an11 : An := ⟨[(3, ⟨[0, 1, 0, 1, 1], [], [0, 3, 4]⟩)], []⟩
noncomputable def cfg11 (k : Nat) : Cfg := ⟨te, []⟩
noncomputable def fu11 (k : Nat) : Fu := fuOf an11 (cfg11 k) Try.f11 ps11
noncomputable def f11 (k : Nat) (a0 : List Int) : Option R11 := evF an11 (cfg11 k) k Try.f11 ps11 rs11 (a0, ())
noncomputable def C11 (k : Nat) : FC := mkC 11 ps11 rs11 an11 (cfg11 k) k Try.f11
noncomputable def f11_l3 (k n : Nat) (a0 : List Int) (t0 : List Int) (t4 : Int) (r0 : List Int) : Option R11 := orcN (fu11 k) (exitF te Try.f11 ps11 rs11 (a0, ())) n 3 ([.c (.sl (.int .u8) t0), .c (.ref 0), .c (.int .i64 t4)], [some (.row (.int .u8) r0)])
noncomputable def f11_u (a0 : List Int) (l3 : List Int → Int → List Int → Option R11) : Option R11 :=
  bif decide (0 ≤ (a0.length : Int)) then bif decide ((a0.length : Int) * (1 : Int) ≤ 140737488355328) then l3 a0 (0 : Int) (List.replicate ((a0.length : Int).toNat) (0 : Int)) else none else none
theorem f11_eq (k : Nat) (a0 : List Int) : f11 k a0 = f11_u a0 (f11_l3 k k a0) := by kernel_rfl
noncomputable def f11_u3 (l3 : List Int → Int → List Int → Option R11) (t0 : List Int) (t4 : Int) (r0 : List Int) : Option R11 :=
  bif decide (t4 < (t0.length : Int)) then
  (bif decide (0 ≤ t4) then bif decide (t4 < (t0.length : Int)) then bif decide (0 ≤ t4) then bif decide (t4 < (r0.length : Int)) then l3 t0 (IntKind.wrap .i64 (t4 + (1 : Int))) (r0.set t4.toNat (rdI t0 t4.toNat)) else none else none else none else none)
  else
  some ((r0, ()), ())
theorem f11_l3_succ (k n : Nat) (a0 : List Int) (t0 : List Int) (t4 : Int) (r0 : List Int) : f11_l3 k (n + 1) a0 t0 t4 r0 = f11_u3 (f11_l3 k n a0) t0 t4 r0 := by kernel_rfl
theorem s11 (k : Nat) : FSound Try.prog (C11 k) := by
  unfold C11
  exact mkC_sound follows_mixed te_ok AllSound.nil (by kernel_rfl) (by kernel_rfl) (by kernel_rfl) (by kernel_rfl)

/-! 57 laws.eqCommit -/
abbrev ps57 : List PM := [.imm T36, .imm T36]
abbrev rs57 : List RM := [.val .bool]
abbrev R57 := (Bool × Unit) × (Unit)
def an57 : An := ⟨[], []⟩
noncomputable def cfg57 (k : Nat) : Cfg := ⟨te, []⟩
noncomputable def fu57 (k : Nat) : Fu := fuOf an57 (cfg57 k) Try.f57 ps57
noncomputable def f57 (k : Nat) (a0 : D36) (a1 : D36) : Option R57 := evF an57 (cfg57 k) k Try.f57 ps57 rs57 (a0, a1, ())
noncomputable def C57 (k : Nat) : FC := mkC 57 ps57 rs57 an57 (cfg57 k) k Try.f57
noncomputable def f57_u (a0 : D36) (a1 : D36) : Option R57 :=
  bif a0.1 != a1.1 then
  (some ((false, ()), ()))
  else
  bif a0.2.1 != a1.2.1 then
  (some ((false, ()), ()))
  else
  bif a0.2.2.1 != a1.2.2.1 then
  (some ((false, ()), ()))
  else
  bif !(a0.2.2.2.1 == a1.2.2.2.1) then
  (some ((false, ()), ()))
  else
  bif a0.2.2.2.2.1 != a1.2.2.2.2.1 then
  (some ((false, ()), ()))
  else
  some ((true, ()), ())
theorem f57_eq (k : Nat) (a0 : D36) (a1 : D36) : f57 k a0 a1 = f57_u a0 a1 := by kernel_rfl
theorem s57 (k : Nat) : FSound Try.prog (C57 k) := by
  unfold C57
  exact mkC_sound follows_mixed te_ok AllSound.nil (by kernel_rfl) (by kernel_rfl) (by kernel_rfl) (by kernel_rfl)

/-! 13 laws.eqCommitS -/
abbrev ps13 : List PM := [.imm (.sl T36), .imm (.sl T36)]
abbrev rs13 : List RM := [.val .bool]
abbrev R13 := (Bool × Unit) × (Unit)
def an13 : An := ⟨[(4, ⟨[0, 1, 0, 1, 1], [], [0, 1, 5]⟩)], []⟩
noncomputable def cfg13 (k : Nat) : Cfg := ⟨te, [C57 k]⟩
noncomputable def fu13 (k : Nat) : Fu := fuOf an13 (cfg13 k) Try.f13 ps13
noncomputable def f13 (k : Nat) (a0 : List D36) (a1 : List D36) : Option R13 := evF an13 (cfg13 k) k Try.f13 ps13 rs13 (a0, a1, ())
noncomputable def C13 (k : Nat) : FC := mkC 13 ps13 rs13 an13 (cfg13 k) k Try.f13
noncomputable def f13_l4 (k n : Nat) (a0 : List D36) (a1 : List D36) (t0 : List D36) (t1 : List D36) (t5 : Int) : Option R13 := orcN (fu13 k) (exitF te Try.f13 ps13 rs13 (a0, a1, ())) n 4 ([.c (.sl T36 t0), .c (.sl T36 t1), .c (.int .i64 t5)], [])
noncomputable def f13_u (a0 : List D36) (a1 : List D36) (l4 : List D36 → List D36 → Int → Option R13) : Option R13 :=
  bif (a0.length : Int) != (a1.length : Int) then
  (some ((false, ()), ()))
  else
  l4 a0 a1 (0 : Int)
theorem f13_eq (k : Nat) (a0 : List D36) (a1 : List D36) : f13 k a0 a1 = f13_u a0 a1 (f13_l4 k k a0 a1) := by kernel_rfl
noncomputable def f13_u4 (k : Nat) (l4 : List D36 → List D36 → Int → Option R13) (t0 : List D36) (t1 : List D36) (t5 : Int) : Option R13 :=
  bif decide (t5 < (t0.length : Int)) then
  (bif decide (0 ≤ t5) then bif decide (t5 < (t0.length : Int)) then bif decide (0 ≤ t5) then bif decide (t5 < (t1.length : Int)) then (f57 k (rd36 t0 t5.toNat) (rd36 t1 t5.toNat)).bind fun y1 =>
  bif !y1.1.1 then
  (some ((false, ()), ()))
  else
  l4 t0 t1 (IntKind.wrap .i64 (t5 + (1 : Int))) else none else none else none else none)
  else
  some ((true, ()), ())
theorem f13_l4_succ (k n : Nat) (a0 : List D36) (a1 : List D36) (t0 : List D36) (t1 : List D36) (t5 : Int) : f13_l4 k (n + 1) a0 a1 t0 t1 t5 = f13_u4 k (f13_l4 k n a0 a1) t0 t1 t5 := by kernel_rfl
theorem s13 (k : Nat) : FSound Try.prog (C13 k) := by
  unfold C13
  exact mkC_sound follows_mixed te_ok (AllSound.cons (s57 k) AllSound.nil) (by kernel_rfl) (by kernel_rfl) (by kernel_rfl) (by kernel_rfl)

/-! 14 laws.eqByteS -/
abbrev ps14 : List PM := [.imm (.sl (.int .u8)), .imm (.sl (.int .u8))]
abbrev rs14 : List RM := [.val .bool]
abbrev R14 := (Bool × Unit) × (Unit)
def an14 : An := ⟨[(4, ⟨[0, 1, 0, 1, 1], [], [0, 1, 5]⟩)], []⟩
noncomputable def cfg14 (k : Nat) : Cfg := ⟨te, []⟩
noncomputable def fu14 (k : Nat) : Fu := fuOf an14 (cfg14 k) Try.f14 ps14
noncomputable def f14 (k : Nat) (a0 : List Int) (a1 : List Int) : Option R14 := evF an14 (cfg14 k) k Try.f14 ps14 rs14 (a0, a1, ())
noncomputable def C14 (k : Nat) : FC := mkC 14 ps14 rs14 an14 (cfg14 k) k Try.f14
noncomputable def f14_l4 (k n : Nat) (a0 : List Int) (a1 : List Int) (t0 : List Int) (t1 : List Int) (t5 : Int) : Option R14 := orcN (fu14 k) (exitF te Try.f14 ps14 rs14 (a0, a1, ())) n 4 ([.c (.sl (.int .u8) t0), .c (.sl (.int .u8) t1), .c (.int .i64 t5)], [])
noncomputable def f14_u (a0 : List Int) (a1 : List Int) (l4 : List Int → List Int → Int → Option R14) : Option R14 :=
  bif (a0.length : Int) != (a1.length : Int) then
  (some ((false, ()), ()))
  else
  l4 a0 a1 (0 : Int)
theorem f14_eq (k : Nat) (a0 : List Int) (a1 : List Int) : f14 k a0 a1 = f14_u a0 a1 (f14_l4 k k a0 a1) := by kernel_rfl
noncomputable def f14_u4 (l4 : List Int → List Int → Int → Option R14) (t0 : List Int) (t1 : List Int) (t5 : Int) : Option R14 :=
  bif decide (t5 < (t0.length : Int)) then
  (bif decide (0 ≤ t5) then bif decide (t5 < (t0.length : Int)) then bif decide (0 ≤ t5) then bif decide (t5 < (t1.length : Int)) then bif (rdI t0 t5.toNat) != (rdI t1 t5.toNat) then
  (some ((false, ()), ()))
  else
  l4 t0 t1 (IntKind.wrap .i64 (t5 + (1 : Int))) else none else none else none else none)
  else
  some ((true, ()), ())
theorem f14_l4_succ (k n : Nat) (a0 : List Int) (a1 : List Int) (t0 : List Int) (t1 : List Int) (t5 : Int) : f14_l4 k (n + 1) a0 a1 t0 t1 t5 = f14_u4 (f14_l4 k n a0 a1) t0 t1 t5 := by kernel_rfl
theorem s14 (k : Nat) : FSound Try.prog (C14 k) := by
  unfold C14
  exact mkC_sound follows_mixed te_ok AllSound.nil (by kernel_rfl) (by kernel_rfl) (by kernel_rfl) (by kernel_rfl)

/-! 15 laws.markByteS -/
abbrev ps15 : List PM := [.lent (.own (.int .u8)), .imm (.int .i64)]
abbrev rs15 : List RM := [.val (.int .i64)]
abbrev R15 := (Int × Unit) × ((List Int) × Unit)
def an15 : An := ⟨[(2, ⟨[0, 1, 0, 1], [], [0, 1, 5]⟩)], []⟩
noncomputable def cfg15 (k : Nat) : Cfg := ⟨te, []⟩
noncomputable def fu15 (k : Nat) : Fu := fuOf an15 (cfg15 k) Try.f15 ps15
noncomputable def f15 (k : Nat) (a0 : List Int) (a1 : Int) : Option R15 := evF an15 (cfg15 k) k Try.f15 ps15 rs15 (a0, a1, ())
noncomputable def C15 (k : Nat) : FC := mkC 15 ps15 rs15 an15 (cfg15 k) k Try.f15
noncomputable def f15_l2 (k n : Nat) (a0 : List Int) (a1 : Int) (t1 : Int) (t5 : Int) (r0 : List Int) : Option R15 := orcN (fu15 k) (exitF te Try.f15 ps15 rs15 (a0, a1, ())) n 2 ([.c (.ref 0), .c (.int .i64 t1), .c (.int .i64 t5)], [some (.row (.int .u8) r0)])
noncomputable def f15_u (a0 : List Int) (a1 : Int) (l2 : Int → Int → List Int → Option R15) : Option R15 :=
  l2 a1 (0 : Int) a0
theorem f15_eq (k : Nat) (a0 : List Int) (a1 : Int) : f15 k a0 a1 = f15_u a0 a1 (f15_l2 k k a0 a1) := by kernel_rfl
noncomputable def f15_u2 (l2 : Int → Int → List Int → Option R15) (t1 : Int) (t5 : Int) (r0 : List Int) : Option R15 :=
  bif decide (t5 < (r0.length : Int)) then
  (bif decide (0 ≤ t5) then bif decide (t5 < (r0.length : Int)) then l2 (IntKind.wrap .i64 (t1 + (1 : Int))) (IntKind.wrap .i64 (t5 + (1 : Int))) (r0.set t5.toNat (IntKind.wrap .u8 (t1))) else none else none)
  else
  some ((t1, ()), (r0, ()))
theorem f15_l2_succ (k n : Nat) (a0 : List Int) (a1 : Int) (t1 : Int) (t5 : Int) (r0 : List Int) : f15_l2 k (n + 1) a0 a1 t1 t5 r0 = f15_u2 (f15_l2 k n a0 a1) t1 t5 r0 := by kernel_rfl
theorem s15 (k : Nat) : FSound Try.prog (C15 k) := by
  unfold C15
  exact mkC_sound follows_mixed te_ok AllSound.nil (by kernel_rfl) (by kernel_rfl) (by kernel_rfl) (by kernel_rfl)

/-! 16 laws.markCommitS -/
abbrev ps16 : List PM := [.lent (.own T36), .imm (.int .i64)]
abbrev rs16 : List RM := [.val (.int .i64)]
abbrev R16 := (Int × Unit) × ((List D36) × Unit)
def an16 : An := ⟨[(2, ⟨[0, 1, 0, 1], [], [0, 1, 5]⟩)], []⟩
noncomputable def cfg16 (k : Nat) : Cfg := ⟨te, []⟩
noncomputable def fu16 (k : Nat) : Fu := fuOf an16 (cfg16 k) Try.f16 ps16
noncomputable def f16 (k : Nat) (a0 : List D36) (a1 : Int) : Option R16 := evF an16 (cfg16 k) k Try.f16 ps16 rs16 (a0, a1, ())
noncomputable def C16 (k : Nat) : FC := mkC 16 ps16 rs16 an16 (cfg16 k) k Try.f16
noncomputable def f16_l2 (k n : Nat) (a0 : List D36) (a1 : Int) (t1 : Int) (t5 : Int) (r0 : List D36) : Option R16 := orcN (fu16 k) (exitF te Try.f16 ps16 rs16 (a0, a1, ())) n 2 ([.c (.ref 0), .c (.int .i64 t1), .c (.int .i64 t5)], [some (.row T36 r0)])
noncomputable def f16_u (a0 : List D36) (a1 : Int) (l2 : Int → Int → List D36 → Option R16) : Option R16 :=
  l2 a1 (0 : Int) a0
theorem f16_eq (k : Nat) (a0 : List D36) (a1 : Int) : f16 k a0 a1 = f16_u a0 a1 (f16_l2 k k a0 a1) := by kernel_rfl
noncomputable def f16_u2 (l2 : Int → Int → List D36 → Option R16) (t1 : Int) (t5 : Int) (r0 : List D36) : Option R16 :=
  bif decide (t5 < (r0.length : Int)) then
  (bif decide (0 ≤ t5) then bif decide (t5 < (r0.length : Int)) then bif decide (0 ≤ t5) then bif decide (t5 < ((r0.set t5.toNat (t1, (rd36 r0 t5.toNat).2)).length : Int)) then let z1 : List D36 := (r0.set t5.toNat (t1, (rd36 r0 t5.toNat).2)).set t5.toNat ((rd36 (r0.set t5.toNat (t1, (rd36 r0 t5.toNat).2)) t5.toNat).1, (IntKind.wrap .i64 (t1 + (1 : Int)), ((rd36 (r0.set t5.toNat (t1, (rd36 r0 t5.toNat).2)) t5.toNat).2).2))
  bif decide (0 ≤ t5) then bif decide (t5 < (z1.length : Int)) then let z2 : List D36 := z1.set t5.toNat ((rd36 z1 t5.toNat).1, (((rd36 z1 t5.toNat).2).1, (IntKind.wrap .i64 ((IntKind.wrap .i64 (t1 + (1 : Int))) + (1 : Int)), (((rd36 z1 t5.toNat).2).2).2)))
  bif decide (0 ≤ t5) then bif decide (t5 < (z2.length : Int)) then let z3 : List D36 := z2.set t5.toNat ((rd36 z2 t5.toNat).1, (((rd36 z2 t5.toNat).2).1, ((((rd36 z2 t5.toNat).2).2).1, (((IntKind.wrap .i64 ((IntKind.wrap .i64 ((IntKind.wrap .i64 (t1 + (1 : Int))) + (1 : Int))) + (1 : Int))).tmod (3 : Int)) == (0 : Int), ((((rd36 z2 t5.toNat).2).2).2).2))))
  bif decide (0 ≤ t5) then bif decide (t5 < (z3.length : Int)) then let z4 : List D36 := z3.set t5.toNat ((rd36 z3 t5.toNat).1, (((rd36 z3 t5.toNat).2).1, ((((rd36 z3 t5.toNat).2).2).1, (((((rd36 z3 t5.toNat).2).2).2).1, (IntKind.wrap .i64 ((IntKind.wrap .i64 ((IntKind.wrap .i64 ((IntKind.wrap .i64 (t1 + (1 : Int))) + (1 : Int))) + (1 : Int))) + (1 : Int)), ())))))
  l2 (IntKind.wrap .i64 ((IntKind.wrap .i64 ((IntKind.wrap .i64 ((IntKind.wrap .i64 ((IntKind.wrap .i64 (t1 + (1 : Int))) + (1 : Int))) + (1 : Int))) + (1 : Int))) + (1 : Int))) (IntKind.wrap .i64 (t5 + (1 : Int))) z4 else none else none else none else none else none else none else none else none else none else none)
  else
  some ((t1, ()), (r0, ()))
theorem f16_l2_succ (k n : Nat) (a0 : List D36) (a1 : Int) (t1 : Int) (t5 : Int) (r0 : List D36) : f16_l2 k (n + 1) a0 a1 t1 t5 r0 = f16_u2 (f16_l2 k n a0 a1) t1 t5 r0 := by kernel_rfl
theorem s16 (k : Nat) : FSound Try.prog (C16 k) := by
  unfold C16
  exact mkC_sound follows_mixed te_ok AllSound.nil (by kernel_rfl) (by kernel_rfl) (by kernel_rfl) (by kernel_rfl)

/-! 17 laws.heldCommitS -/
abbrev ps17 : List PM := [.imm (.sl T36), .imm (.int .i64)]
abbrev rs17 : List RM := [.val (.int .i64)]
abbrev R17 := (Int × Unit) × (Unit)
def an17 : An := ⟨[(2, ⟨[0, 1, 0, 1], [], [0, 1, 5]⟩)], []⟩
noncomputable def cfg17 (k : Nat) : Cfg := ⟨te, []⟩
noncomputable def fu17 (k : Nat) : Fu := fuOf an17 (cfg17 k) Try.f17 ps17
noncomputable def f17 (k : Nat) (a0 : List D36) (a1 : Int) : Option R17 := evF an17 (cfg17 k) k Try.f17 ps17 rs17 (a0, a1, ())
noncomputable def C17 (k : Nat) : FC := mkC 17 ps17 rs17 an17 (cfg17 k) k Try.f17
noncomputable def f17_l2 (k n : Nat) (a0 : List D36) (a1 : Int) (t0 : List D36) (t1 : Int) (t5 : Int) : Option R17 := orcN (fu17 k) (exitF te Try.f17 ps17 rs17 (a0, a1, ())) n 2 ([.c (.sl T36 t0), .c (.int .i64 t1), .c (.int .i64 t5)], [])
noncomputable def f17_u (a0 : List D36) (a1 : Int) (l2 : List D36 → Int → Int → Option R17) : Option R17 :=
  l2 a0 a1 (0 : Int)
theorem f17_eq (k : Nat) (a0 : List D36) (a1 : Int) : f17 k a0 a1 = f17_u a0 a1 (f17_l2 k k a0 a1) := by kernel_rfl
noncomputable def f17_u2 (l2 : List D36 → Int → Int → Option R17) (t0 : List D36) (t1 : Int) (t5 : Int) : Option R17 :=
  bif decide (t5 < (t0.length : Int)) then
  (bif decide (0 ≤ t5) then bif decide (t5 < (t0.length : Int)) then bif ((rd36 t0 t5.toNat).1) != t1 then
  (some (((-1 : Int), ()), ()))
  else
  bif decide (0 ≤ t5) then bif decide (t5 < (t0.length : Int)) then bif (((rd36 t0 t5.toNat).2).1) != (IntKind.wrap .i64 (t1 + (1 : Int))) then
  (some (((-1 : Int), ()), ()))
  else
  bif decide (0 ≤ t5) then bif decide (t5 < (t0.length : Int)) then bif ((((rd36 t0 t5.toNat).2).2).1) != (IntKind.wrap .i64 ((IntKind.wrap .i64 (t1 + (1 : Int))) + (1 : Int))) then
  (some (((-1 : Int), ()), ()))
  else
  bif decide (0 ≤ t5) then bif decide (t5 < (t0.length : Int)) then bif !((((((rd36 t0 t5.toNat).2).2).2).1) == (((IntKind.wrap .i64 ((IntKind.wrap .i64 ((IntKind.wrap .i64 (t1 + (1 : Int))) + (1 : Int))) + (1 : Int))).tmod (3 : Int)) == (0 : Int))) then
  (some (((-1 : Int), ()), ()))
  else
  bif decide (0 ≤ t5) then bif decide (t5 < (t0.length : Int)) then bif ((((((rd36 t0 t5.toNat).2).2).2).2).1) != (IntKind.wrap .i64 ((IntKind.wrap .i64 ((IntKind.wrap .i64 ((IntKind.wrap .i64 (t1 + (1 : Int))) + (1 : Int))) + (1 : Int))) + (1 : Int))) then
  (some (((-1 : Int), ()), ()))
  else
  l2 t0 (IntKind.wrap .i64 ((IntKind.wrap .i64 ((IntKind.wrap .i64 ((IntKind.wrap .i64 ((IntKind.wrap .i64 (t1 + (1 : Int))) + (1 : Int))) + (1 : Int))) + (1 : Int))) + (1 : Int))) (IntKind.wrap .i64 (t5 + (1 : Int))) else none else none else none else none else none else none else none else none else none else none)
  else
  some ((t1, ()), ())
theorem f17_l2_succ (k n : Nat) (a0 : List D36) (a1 : Int) (t0 : List D36) (t1 : Int) (t5 : Int) : f17_l2 k (n + 1) a0 a1 t0 t1 t5 = f17_u2 (f17_l2 k n a0 a1) t0 t1 t5 := by kernel_rfl
theorem s17 (k : Nat) : FSound Try.prog (C17 k) := by
  unfold C17
  exact mkC_sound follows_mixed te_ok AllSound.nil (by kernel_rfl) (by kernel_rfl) (by kernel_rfl) (by kernel_rfl)

/-! 3 laws.FnExactLogRead -/
abbrev ps3 : List PM := [.imm (.sl (.int .u8))]
abbrev rs3 : List RM := [.val .bool]
abbrev R3 := (Bool × Unit) × (Unit)
def an3 : An := ⟨[], []⟩
noncomputable def cfg3 (k : Nat) : Cfg := ⟨te, [C11 k, C10 k, C12 k, C13 k, C14 k, C15 k, C16 k, C17 k]⟩
noncomputable def fu3 (k : Nat) : Fu := fuOf an3 (cfg3 k) Try.f3 ps3
noncomputable def f3 (k : Nat) (a0 : List Int) : Option R3 := evF an3 (cfg3 k) k Try.f3 ps3 rs3 (a0, ())
noncomputable def C3 (k : Nat) : FC := mkC 3 ps3 rs3 an3 (cfg3 k) k Try.f3
noncomputable def f3_u (k : Nat) (a0 : List Int) : Option R3 :=
  bif decide ((a0.length : Int) > (1048576 : Int)) then
  (some ((true, ()), ()))
  else
  (f11 k a0).bind fun y1 =>
  (f10 k y1.1.1).bind fun y2 =>
  (f11 k a0).bind fun y3 =>
  (f12 k y3.1.1).bind fun y4 =>
  (f13 k y4.1.1 y2.1.1).bind fun y5 =>
  bif !y5.1.1 then
  (some ((false, ()), ()))
  else
  bif y4.1.2.1 != y2.1.2.1 then
  (some ((false, ()), ()))
  else
  bif y4.1.2.2.1 != y2.1.2.2.1 then
  (some ((false, ()), ()))
  else
  (f11 k a0).bind fun y6 =>
  (f14 k y3.1.1 y6.1.1).bind fun y7 =>
  bif !y7.1.1 then
  (some ((false, ()), ()))
  else
  (f15 k y3.1.1 (1 : Int)).bind fun y8 =>
  bif decide (y8.1.1 < (0 : Int)) then
  (some ((false, ()), ()))
  else
  (f13 k y4.1.1 y2.1.1).bind fun y9 =>
  bif !y9.1.1 then
  (some ((false, ()), ()))
  else
  bif y4.1.2.1 != y2.1.2.1 then
  (some ((false, ()), ()))
  else
  bif y4.1.2.2.1 != y2.1.2.2.1 then
  (some ((false, ()), ()))
  else
  (f16 k y4.1.1 (1 : Int)).bind fun y10 =>
  (f17 k y10.2.1 (1 : Int)).bind fun y11 =>
  bif decide (y11.1.1 < (0 : Int)) then
  (some ((false, ()), ()))
  else
  bif y11.1.1 != y10.1.1 then
  (some ((false, ()), ()))
  else
  (f11 k a0).bind fun y12 =>
  (f12 k y12.1.1).bind fun y13 =>
  (f13 k y13.1.1 y2.1.1).bind fun y14 =>
  bif !y14.1.1 then
  (some ((false, ()), ()))
  else
  bif y13.1.2.1 != y2.1.2.1 then
  (some ((false, ()), ()))
  else
  bif y13.1.2.2.1 != y2.1.2.2.1 then
  (some ((false, ()), ()))
  else
  (f17 k y10.2.1 (1 : Int)).bind fun y15 =>
  bif decide (y15.1.1 < (0 : Int)) then
  (some ((false, ()), ()))
  else
  bif y15.1.1 != y10.1.1 then
  (some ((false, ()), ()))
  else
  some ((true, ()), ())
theorem f3_eq (k : Nat) (a0 : List Int) : f3 k a0 = f3_u k a0 := by kernel_rfl
theorem s3 (k : Nat) : FSound Try.prog (C3 k) := by
  unfold C3
  exact mkC_sound follows_mixed te_ok (AllSound.cons (s11 k) (AllSound.cons (s10 k) (AllSound.cons (s12 k) (AllSound.cons (s13 k) (AllSound.cons (s14 k) (AllSound.cons (s15 k) (AllSound.cons (s16 k) (AllSound.cons (s17 k) AllSound.nil)))))))) (by kernel_rfl) (by kernel_rfl) (by kernel_rfl) (by kernel_rfl)

end Go.Proofs.Ythjiokbokncpoaa.Rf
