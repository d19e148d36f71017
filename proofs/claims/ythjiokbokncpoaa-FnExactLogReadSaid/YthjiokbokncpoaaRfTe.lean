/- the types that are read -/
import Derived.Test.YthjiokbokncpoaaRfOb
import Derived.Test.YthjiokbokncpoaaProg
set_option linter.unusedVariables false
namespace Go.Proofs.Ythjiokbokncpoaa.Rf
open Go Go.Proofs
abbrev T8 : Ty := .pair (.int .i64) (.pair (.int .i64) (.pair .bool (.pair (.int .u8) .unit)))
abbrev D8 : Type := (Int × (Int × (Bool × (Int × Unit))))
abbrev rd8 (l : List D8) (i : Nat) : D8 := rdN (e := T8) l i
abbrev T14 : Ty := .pair .str (.pair (.int .u64) .unit)
abbrev D14 : Type := (ByteArray × (Int × Unit))
abbrev rd14 (l : List D14) (i : Nat) : D14 := rdN (e := T14) l i
abbrev T36 : Ty := .pair (.int .i64) (.pair (.int .i64) (.pair (.int .i64) (.pair .bool (.pair (.int .i64) .unit))))
abbrev D36 : Type := (Int × (Int × (Int × (Bool × (Int × Unit)))))
abbrev rd36 (l : List D36) (i : Nat) : D36 := rdN (e := T36) l i
abbrev T71 : Ty := .pair (.int .i64) (.pair (.int .i64) .unit)
abbrev D71 : Type := (Int × (Int × Unit))
abbrev rd71 (l : List D71) (i : Nat) : D71 := rdN (e := T71) l i
abbrev T112 : Ty := .pair (.int .i64) T71
abbrev D112 : Type := (Int × D71)
abbrev rd112 (l : List D112) (i : Nat) : D112 := rdN (e := T112) l i
abbrev T40 : Ty := .pair (.int .i64) (.pair (.sl T112) .unit)
abbrev D40 : Type := (Int × (List D112 × Unit))
abbrev rd40 (l : List D40) (i : Nat) : D40 := rdN (e := T40) l i
abbrev T43 : Ty := .pair (.int .i64) (.pair (.sl (.int .u8)) .unit)
abbrev D43 : Type := (Int × (List Int × Unit))
abbrev rd43 (l : List D43) (i : Nat) : D43 := rdN (e := T43) l i
abbrev T192 : Ty := .pair .str (.pair (.sl (.int .u8)) .unit)
abbrev D192 : Type := (ByteArray × (List Int × Unit))
abbrev rd192 (l : List D192) (i : Nat) : D192 := rdN (e := T192) l i
abbrev T195 : Ty := .pair (.int .i64) (.pair .str T192)
abbrev D195 : Type := (Int × (ByteArray × D192))
abbrev rd195 (l : List D195) (i : Nat) : D195 := rdN (e := T195) l i
abbrev T66 : Ty := .pair (.int .i64) (.pair (.int .i64) (.pair (.sl T192) (.pair (.sl T195) .unit)))
abbrev D66 : Type := (Int × (Int × (List D192 × (List D195 × Unit))))
abbrev rd66 (l : List D66) (i : Nat) : D66 := rdN (e := T66) l i
abbrev T212 : Ty := .pair (.int .i64) (.pair (.int .i64) T112)
abbrev D212 : Type := (Int × (Int × D112))
abbrev rd212 (l : List D212) (i : Nat) : D212 := rdN (e := T212) l i
abbrev T199 : Ty := .pair (.int .i64) (.pair (.int .i64) (.pair (.sl T212) .unit))
abbrev D199 : Type := (Int × (Int × (List D212 × Unit)))
abbrev rd199 (l : List D199) (i : Nat) : D199 := rdN (e := T199) l i
abbrev T69 : Ty := .pair (.int .i64) (.pair (.sl (.int .i64)) (.pair (.sl T199) .unit))
abbrev D69 : Type := (Int × (List Int × (List D199 × Unit)))
abbrev rd69 (l : List D69) (i : Nat) : D69 := rdN (e := T69) l i
abbrev T73 : Ty := .pair T71 (.pair (.int .i64) (.pair .bool (.pair (.sl (.int .i64)) (.pair (.sl (.int .i64)) (.pair T43 .unit)))))
abbrev D73 : Type := (D71 × (Int × (Bool × (List Int × (List Int × (D43 × Unit))))))
abbrev rd73 (l : List D73) (i : Nat) : D73 := rdN (e := T73) l i
abbrev T75 : Ty := .pair .bool (.pair T66 (.pair (.int .i64) (.pair (.int .i64) (.pair (.int .i64) (.pair T69 (.pair T73 (.pair (.int .i64) .unit)))))))
abbrev D75 : Type := (Bool × (D66 × (Int × (Int × (Int × (D69 × (D73 × (Int × Unit))))))))
abbrev rd75 (l : List D75) (i : Nat) : D75 := rdN (e := T75) l i
abbrev T100 : Ty := .pair (.sl (.int .u8)) T71
abbrev D100 : Type := (List Int × D71)
abbrev rd100 (l : List D100) (i : Nat) : D100 := rdN (e := T100) l i
abbrev T142 : Ty := .pair (.sl (.int .u8)) (.pair (.int .i64) (.pair .bool .unit))
abbrev D142 : Type := (List Int × (Int × (Bool × Unit)))
abbrev rd142 (l : List D142) (i : Nat) : D142 := rdN (e := T142) l i
abbrev T214 : Ty := .pair .bool (.pair .bool T71)
abbrev D214 : Type := (Bool × (Bool × D71))
abbrev rd214 (l : List D214) (i : Nat) : D214 := rdN (e := T214) l i
abbrev T235 : Ty := .pair .str (.pair (.int .u8) .unit)
abbrev D235 : Type := (ByteArray × (Int × Unit))
abbrev rd235 (l : List D235) (i : Nat) : D235 := rdN (e := T235) l i
def te : TE := [(3, ⟨(.int .i64), 8, 0⟩), (4, ⟨.bool, 1, 0⟩), (5, ⟨(.int .u8), 1, 0⟩), (9, ⟨.str, 16, 0⟩), (22, ⟨(.sl (.int .u8)), 24, 1⟩), (23, ⟨(.sl T36), 24, 40⟩), (36, ⟨T36, 40, 0⟩), (54, ⟨(.sl (.int .i64)), 24, 8⟩), (89, ⟨T43, 32, 0⟩), (142, ⟨T142, 40, 0⟩), (146, ⟨T142, 40, 0⟩), (183, ⟨(.int .u32), 4, 0⟩)]
theorem te_ok : teB Try.prog te = true := by kernel_rfl
theorem follows_mixed : Try.prog.follows .mixedOrders = true := by kernel_rfl
theorem AllSound.nil {P : Program} : AllSound P [] := fun _ h => by cases h
theorem AllSound.cons {P : Program} {c : FC} {cs : List FC} (h : FSound P c) (t : AllSound P cs) : AllSound P (c :: cs) := fun d hd => by
  rcases List.mem_cons.1 hd with rfl | hd
  · exact h
  · exact t d hd
end Go.Proofs.Ythjiokbokncpoaa.Rf
