/- Functions of the program as plain Lean functions, and for each a proof that the Go code comes to just these answers; under no condition but those that each theorem states. -/
import Derived.Test.YtkolndfgpplknaaDoorGiven
import Derived.Test.YtkolndfgpplknaaDoorOpens
import Derived.Test.YtkolndfgpplknaaDoorProg
import Derived.Below
import Derived.Deep.Draws
import Derived.Deep.AppendLies
import Derived.Maps.AppendAt
import Derived.OwnWalk
import Derived.Laws.BytesArg
import Derived.Laws.MakeOwn
import Derived.Laws.OwnMore
import Derived.Deep.OwnRows
import Derived.Tactics
import Derived.Lib.ConvBytes
import Derived.Laws.Slices
import Derived.WalkKit
import Derived.KernelRfl
import Derived.RowKit3
import Derived.Deep.LoopGhost
import Derived.Deep.QuietTactic
import Derived.BigQuiet
import Derived.WideLaws
import Derived.Deep.DeepCutAuto
import Derived.Deep.CutBlock
import Derived.Deep.RegionHeld3
import Derived.Laws.Rows
import Derived.Lib.AppendStr
import Derived.ArgAppend
import Derived.Laws.IdiomCopy
import Derived.OrdersHeld
import Derived.Laws.BitsLemmas
import Derived.RowKit
import Derived.Test.YtkolndfgpplknaaDoorWWords
import Derived.Test.YtkolndfgpplknaaDoorWLast
import Derived.Test.YtkolndfgpplknaaDoorWTab
import Derived.Test.YtkolndfgpplknaaDoorWFour
import Derived.Test.YtkolndfgpplknaaDoorWQPut
import Derived.Test.YtkolndfgpplknaaDoorWApart
import Derived.Test.YtkolndfgpplknaaDoorWArr
import Derived.Test.YtkolndfgpplknaaDoorWZeros
import Derived.Test.YtkolndfgpplknaaDoorWFoot
import Derived.Test.YtkolndfgpplknaaDoorWKept
import Derived.Test.YtkolndfgpplknaaDoorWShare
import Derived.Test.YtkolndfgpplknaaDoorWN
import Derived.Test.YtkolndfgpplknaaDoorWFootNe
import Derived.Test.YtkolndfgpplknaaDoorWAt
import Derived.Test.YtkolndfgpplknaaDoorWEqStruct
import Derived.Test.YtkolndfgpplknaaDoorWRepsOne
import Derived.Test.YtkolndfgpplknaaDoorWInv
import Derived.Test.YtkolndfgpplknaaDoorWInvWords
import Derived.Test.YtkolndfgpplknaaDoorWGuard
import Derived.Test.YtkolndfgpplknaaDoorWNEv
import Derived.Test.YtkolndfgpplknaaDoorWMore
namespace Go.Proofs.YtkolndfgpplknaaDoor.G
open Go.Proofs.YtkolndfgpplknaaDoor.Open
open Go.RowKit Go.Proofs.YtkolndfgpplknaaDoorW.PrintWords Go.Proofs.YtkolndfgpplknaaDoorW.PrintLast Go.Proofs.YtkolndfgpplknaaDoorW.PrintMore
attribute [local go_sem] max2_int min2_int max_two min_two max_three min_three max_four min_four   -- for this text's walks alone
set_option linter.unusedVariables false
set_option linter.unusedSimpArgs false



def errW : Option Int → Value
  | none => .nilIface
  | some c => .iface 0 (.int .i64 c)
theorem errW_none : errW none = .nilIface := rfl
theorem errW_some (c : Int) : errW (some c) = .iface 0 (.int .i64 c) := rfl

theorem info5 : (Tryd.prog.info? 5).map (fun i => (i.zero, i.size, i.bytes)) = some (some (.int .u8 0), 1, 1) := by kernel_rfl
theorem info9 : (Tryd.prog.info? 9).map (fun i => (i.zero, i.size, i.bytes)) = some (some (.string ⟨#[]⟩), 1, 16) := by kernel_rfl
-- the values' own types

end Go.Proofs.YtkolndfgpplknaaDoor.G
