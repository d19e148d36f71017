/-
  No cell of these rows narrows 'for every input' (looked for: loops, veiled, ifaces, maps, wideKeys, modest, calm, conditions, laid).
  DERIVED. THE GIVEN ROWS OF THIS SEAT. 7 by the template 'for every input the law returns true; each argument reads behind the call as it read before'; 0 by the template 'total and deterministic' (their statements: YthjiokbokncpoaaTotals.lean).
  GIVEN WITH THE SEED: the statements are not yours to turn. If you find one false, say at which input.
  Laid BY PROGRAM, IN A SANDBOX (cutbox-rows.mjs): the forced cells as the released guide's own fill.sh prints them over the translation 926084878816c139… (all of the seat's roots in one cut). By AI agents, Wed Nov 11 2026. No macro, syntax, notation, axiom, sorry.
-/
import Derived.Test.YthjiokbokncpoaaChecked
import GoSem.Claim
import GoSem.ClaimJoined
import GoSem.ClaimMapViews
import Derived.JoinedTies
import Derived.KernelRfl
namespace Go.Proofs.Ythjiokbokncpoaa
/- THE CELL 'sum', in the pinned program and in every row, IS THE sha256 OF THE DUMP (.gsa) THAT YthjiokbokncpoaaProg.lean LOADS. Nothing in Lean hashes anything: it is a label: what it is worth is what the hold of that sum in a sandbox is worth. -/
noncomputable def Try.pinned : Pinned := { name := "ythjiokbokncpoaa", sum := "926084878816c139021da631e43b8613e556281e856e185b130a14c9005b58cc", checked := Try.checked }
namespace Rows
def none {H : Type} : Left H := { results := [], args := [] }

/-- 'laws.FnExactLogRead': WHATEVER THE INPUT: true; the input reads as it did. -/
def fnExactLogReadSpec : ChangeSpec := { name := "fnExactLogRead", fn := fun _ => fun
  | [d] => { results := [.lit (.bool true)], args := [d] }
  | _ => none }
def fnExactLogReadRow : OpenClaim := { program := "ythjiokbokncpoaa", sum := "926084878816c139021da631e43b8613e556281e856e185b130a14c9005b58cc", func := "loop.example/g00671/laws.FnExactLogRead", spec := "fnExactLogRead", apart := false }
def FnExactLogReadSaid : Prop := fnExactLogReadRow.holds Try.pinned (OpenSpec.ofChange fnExactLogReadSpec)

/-- ITS FALSE NEIGHBOUR: 'it returns false'. Refute it at one input. -/
def fnExactLogReadWrong : ChangeSpec := { name := "fnExactLogRead", fn := fun _ => fun
  | [d] => { results := [.lit (.bool false)], args := [d] }
  | _ => none }
def FnExactLogReadWrongFalsely : Prop := fnExactLogReadRow.holds Try.pinned (OpenSpec.ofChange fnExactLogReadWrong)

/-- 'laws.FnLog': WHATEVER THE INPUT: true; the input reads as it did. -/
def fnLogSpec : ChangeSpec := { name := "fnLog", fn := fun _ => fun
  | [d] => { results := [.lit (.bool true)], args := [d] }
  | _ => none }
def fnLogRow : OpenClaim := { program := "ythjiokbokncpoaa", sum := "926084878816c139021da631e43b8613e556281e856e185b130a14c9005b58cc", func := "loop.example/g00671/laws.FnLog", spec := "fnLog", apart := false }
def FnLogSaid : Prop := fnLogRow.holds Try.pinned (OpenSpec.ofChange fnLogSpec)

/-- ITS FALSE NEIGHBOUR: 'it returns false'. Refute it at one input. -/
def fnLogWrong : ChangeSpec := { name := "fnLog", fn := fun _ => fun
  | [d] => { results := [.lit (.bool false)], args := [d] }
  | _ => none }
def FnLogWrongFalsely : Prop := fnLogRow.holds Try.pinned (OpenSpec.ofChange fnLogWrong)

/-- 'laws.FnExactReached': WHATEVER THE INPUT: true; the input reads as it did. -/
def fnExactReachedSpec : ChangeSpec := { name := "fnExactReached", fn := fun _ => fun
  | [d1, d2] => { results := [.lit (.bool true)], args := [d1, d2] }
  | _ => none }
def fnExactReachedRow : OpenClaim := { program := "ythjiokbokncpoaa", sum := "926084878816c139021da631e43b8613e556281e856e185b130a14c9005b58cc", func := "loop.example/g00671/laws.FnExactReached", spec := "fnExactReached", apart := false }
def FnExactReachedSaid : Prop := fnExactReachedRow.holds Try.pinned (OpenSpec.ofChange fnExactReachedSpec)

/-- ITS FALSE NEIGHBOUR: 'it returns false'. Refute it at one input. -/
def fnExactReachedWrong : ChangeSpec := { name := "fnExactReached", fn := fun _ => fun
  | [d1, d2] => { results := [.lit (.bool false)], args := [d1, d2] }
  | _ => none }
def FnExactReachedWrongFalsely : Prop := fnExactReachedRow.holds Try.pinned (OpenSpec.ofChange fnExactReachedWrong)

/-- 'laws.FnExactTop': WHATEVER THE INPUT: true; the input reads as it did. -/
def fnExactTopSpec : ChangeSpec := { name := "fnExactTop", fn := fun _ => fun
  | [d1, d2] => { results := [.lit (.bool true)], args := [d1, d2] }
  | _ => none }
def fnExactTopRow : OpenClaim := { program := "ythjiokbokncpoaa", sum := "926084878816c139021da631e43b8613e556281e856e185b130a14c9005b58cc", func := "loop.example/g00671/laws.FnExactTop", spec := "fnExactTop", inPlace := ["internal/reflectlite.ValueOf", "internal/reflectlite.Swapper", "(internal/reflectlite.Value).Len"], unfollowed := true, recurses := true, apart := false }
def FnExactTopSaid : Prop := fnExactTopRow.holds Try.pinned (OpenSpec.ofChange fnExactTopSpec)

/-- ITS FALSE NEIGHBOUR: 'it returns false'. Refute it at one input. -/
def fnExactTopWrong : ChangeSpec := { name := "fnExactTop", fn := fun _ => fun
  | [d1, d2] => { results := [.lit (.bool false)], args := [d1, d2] }
  | _ => none }
def FnExactTopWrongFalsely : Prop := fnExactTopRow.holds Try.pinned (OpenSpec.ofChange fnExactTopWrong)

/-- 'laws.FnExactEngNew': WHATEVER THE INPUT: true; the input reads as it did. -/
def fnExactEngNewSpec : ChangeSpec := { name := "fnExactEngNew", fn := fun _ => fun
  | [d] => { results := [.lit (.bool true)], args := [d] }
  | _ => none }
def fnExactEngNewRow : OpenClaim := { program := "ythjiokbokncpoaa", sum := "926084878816c139021da631e43b8613e556281e856e185b130a14c9005b58cc", func := "loop.example/g00671/laws.FnExactEngNew", spec := "fnExactEngNew", apart := false }
def FnExactEngNewSaid : Prop := fnExactEngNewRow.holds Try.pinned (OpenSpec.ofChange fnExactEngNewSpec)

/-- ITS FALSE NEIGHBOUR: 'it returns false'. Refute it at one input. -/
def fnExactEngNewWrong : ChangeSpec := { name := "fnExactEngNew", fn := fun _ => fun
  | [d] => { results := [.lit (.bool false)], args := [d] }
  | _ => none }
def FnExactEngNewWrongFalsely : Prop := fnExactEngNewRow.holds Try.pinned (OpenSpec.ofChange fnExactEngNewWrong)

/-- 'laws.FnConn': WHATEVER THE INPUT: true; the input reads as it did. -/
def fnConnSpec : ChangeSpec := { name := "fnConn", fn := fun _ => fun
  | [d] => { results := [.lit (.bool true)], args := [d] }
  | _ => none }
def fnConnRow : OpenClaim := { program := "ythjiokbokncpoaa", sum := "926084878816c139021da631e43b8613e556281e856e185b130a14c9005b58cc", func := "loop.example/g00671/laws.FnConn", spec := "fnConn", apart := false }
def FnConnSaid : Prop := fnConnRow.holds Try.pinned (OpenSpec.ofChange fnConnSpec)

/-- ITS FALSE NEIGHBOUR: 'it returns false'. Refute it at one input. -/
def fnConnWrong : ChangeSpec := { name := "fnConn", fn := fun _ => fun
  | [d] => { results := [.lit (.bool false)], args := [d] }
  | _ => none }
def FnConnWrongFalsely : Prop := fnConnRow.holds Try.pinned (OpenSpec.ofChange fnConnWrong)

/-- 'laws.FnPath': WHATEVER THE INPUT: true; the input reads as it did. -/
def fnPathSpec : ChangeSpec := { name := "fnPath", fn := fun _ => fun
  | [d] => { results := [.lit (.bool true)], args := [d] }
  | _ => none }
def fnPathRow : OpenClaim := { program := "ythjiokbokncpoaa", sum := "926084878816c139021da631e43b8613e556281e856e185b130a14c9005b58cc", func := "loop.example/g00671/laws.FnPath", spec := "fnPath", apart := false }
def FnPathSaid : Prop := fnPathRow.holds Try.pinned (OpenSpec.ofChange fnPathSpec)

/-- ITS FALSE NEIGHBOUR: 'it returns false'. Refute it at one input. -/
def fnPathWrong : ChangeSpec := { name := "fnPath", fn := fun _ => fun
  | [d] => { results := [.lit (.bool false)], args := [d] }
  | _ => none }
def FnPathWrongFalsely : Prop := fnPathRow.holds Try.pinned (OpenSpec.ofChange fnPathWrong)

/- THE SECOND FORM. 'bulk': how many values and letters a reading holds, each counted each time it is reached (what is shared counts as often as it is met; a slice's spare places count too). A statement '..UptoSaid' is the law's where the arguments, and the package variables that the reading takes, are together of bulk at most 1048576: NARROWER than '..Said'. Prove '..Said' where nothing that the law and all that it calls make is longer than what came in: it says more and counts as full. Else prove '..UptoSaid'. A law counts once. -/
mutual
def uptoBulk {H : Type} : DataW H → Nat
  | .lit (.string bytes) => bytes.length + 1
  | .lit _ => 1
  | .nil => 1
  | .ptr d => uptoBulk d + 1
  | .slice elems spare => uptoBulkAll elems + uptoBulkAll spare + 1
  | .agg parts => uptoBulkAll parts + 1
  | .iface _ d => uptoBulk d + 1
  | .map entries => uptoBulkEntries entries + 1
  | .held _ => 1
def uptoBulkAll {H : Type} : List (DataW H) → Nat
  | [] => 0
  | d :: r => uptoBulk d + uptoBulkAll r
def uptoBulkEntries {H : Type} : List (Lit × DataW H) → Nat
  | [] => 0
  | x :: r => uptoBulkEntry x + uptoBulkEntries r
def uptoBulkEntry {H : Type} : Lit × DataW H → Nat
  | (.string bytes, d) => bytes.length + uptoBulk d + 1
  | (_, d) => uptoBulk d + 1
 end
def uptoSmall : (H : Type) → List (DataW H) → Bool := fun _ ds => decide (uptoBulkAll ds ≤ 1048576)
def OpenSpec.upto (s : _root_.Go.ChangeSpec) : _root_.Go.OpenSpec := { _root_.Go.OpenSpec.ofChange s with cond := some uptoSmall }

/-- 'laws.FnExactLogRead', WHERE WHAT IT READS IS OF BULK AT MOST 1048576: true; the input reads as it did. -/
def fnExactLogReadUptoRow : OpenClaim := { program := "ythjiokbokncpoaa", sum := "926084878816c139021da631e43b8613e556281e856e185b130a14c9005b58cc", func := "loop.example/g00671/laws.FnExactLogRead", spec := "fnExactLogRead", apart := false, narrowed := true }
def FnExactLogReadUptoSaid : Prop := fnExactLogReadUptoRow.holds Try.pinned (OpenSpec.upto fnExactLogReadSpec)

/-- 'laws.FnLog', WHERE WHAT IT READS IS OF BULK AT MOST 1048576: true; the input reads as it did. -/
def fnLogUptoRow : OpenClaim := { program := "ythjiokbokncpoaa", sum := "926084878816c139021da631e43b8613e556281e856e185b130a14c9005b58cc", func := "loop.example/g00671/laws.FnLog", spec := "fnLog", apart := false, narrowed := true }
def FnLogUptoSaid : Prop := fnLogUptoRow.holds Try.pinned (OpenSpec.upto fnLogSpec)

/-- 'laws.FnExactReached', WHERE WHAT IT READS IS OF BULK AT MOST 1048576: true; the input reads as it did. -/
def fnExactReachedUptoRow : OpenClaim := { program := "ythjiokbokncpoaa", sum := "926084878816c139021da631e43b8613e556281e856e185b130a14c9005b58cc", func := "loop.example/g00671/laws.FnExactReached", spec := "fnExactReached", apart := false, narrowed := true }
def FnExactReachedUptoSaid : Prop := fnExactReachedUptoRow.holds Try.pinned (OpenSpec.upto fnExactReachedSpec)

/-- 'laws.FnExactTop', WHERE WHAT IT READS IS OF BULK AT MOST 1048576: true; the input reads as it did. -/
def fnExactTopUptoRow : OpenClaim := { program := "ythjiokbokncpoaa", sum := "926084878816c139021da631e43b8613e556281e856e185b130a14c9005b58cc", func := "loop.example/g00671/laws.FnExactTop", spec := "fnExactTop", inPlace := ["internal/reflectlite.ValueOf", "internal/reflectlite.Swapper", "(internal/reflectlite.Value).Len"], unfollowed := true, recurses := true, apart := false, narrowed := true }
def FnExactTopUptoSaid : Prop := fnExactTopUptoRow.holds Try.pinned (OpenSpec.upto fnExactTopSpec)

/-- 'laws.FnExactEngNew', WHERE WHAT IT READS IS OF BULK AT MOST 1048576: true; the input reads as it did. -/
def fnExactEngNewUptoRow : OpenClaim := { program := "ythjiokbokncpoaa", sum := "926084878816c139021da631e43b8613e556281e856e185b130a14c9005b58cc", func := "loop.example/g00671/laws.FnExactEngNew", spec := "fnExactEngNew", apart := false, narrowed := true }
def FnExactEngNewUptoSaid : Prop := fnExactEngNewUptoRow.holds Try.pinned (OpenSpec.upto fnExactEngNewSpec)

/-- 'laws.FnConn', WHERE WHAT IT READS IS OF BULK AT MOST 1048576: true; the input reads as it did. -/
def fnConnUptoRow : OpenClaim := { program := "ythjiokbokncpoaa", sum := "926084878816c139021da631e43b8613e556281e856e185b130a14c9005b58cc", func := "loop.example/g00671/laws.FnConn", spec := "fnConn", apart := false, narrowed := true }
def FnConnUptoSaid : Prop := fnConnUptoRow.holds Try.pinned (OpenSpec.upto fnConnSpec)

/-- 'laws.FnPath', WHERE WHAT IT READS IS OF BULK AT MOST 1048576: true; the input reads as it did. -/
def fnPathUptoRow : OpenClaim := { program := "ythjiokbokncpoaa", sum := "926084878816c139021da631e43b8613e556281e856e185b130a14c9005b58cc", func := "loop.example/g00671/laws.FnPath", spec := "fnPath", apart := false, narrowed := true }
def FnPathUptoSaid : Prop := fnPathUptoRow.holds Try.pinned (OpenSpec.upto fnPathSpec)

end Rows
end Go.Proofs.Ythjiokbokncpoaa
