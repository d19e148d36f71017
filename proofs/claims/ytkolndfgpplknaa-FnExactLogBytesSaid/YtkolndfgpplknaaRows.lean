/-
  No cell of these rows narrows 'for every input' (looked for: loops, veiled, ifaces, maps, wideKeys, modest, calm, conditions, laid).
  DERIVED. THE GIVEN ROWS OF THIS SEAT. 8 by the template 'for every input the law returns true; each argument reads behind the call as it read before'; 0 by the template 'total and deterministic' (their statements: YtkolndfgpplknaaTotals.lean).
  GIVEN WITH THE SEED: the statements are not yours to turn. If you find one false, say at which input.
  Laid BY PROGRAM, IN A SANDBOX (cutbox-rows.mjs): the forced cells as the released guide's own fill.sh prints them over the translation df54064656387bfd… (all of the seat's roots in one cut). By AI agents, Wed Nov 11 2026. No macro, syntax, notation, axiom, sorry.
-/
import Derived.Test.YtkolndfgpplknaaChecked
import GoSem.Claim
import GoSem.ClaimJoined
import GoSem.ClaimMapViews
import Derived.JoinedTies
import Derived.KernelRfl
namespace Go.Proofs.Ytkolndfgpplknaa
/- THE CELL 'sum', in the pinned program and in every row, IS THE sha256 OF THE DUMP (.gsa) THAT YtkolndfgpplknaaProg.lean LOADS. Nothing in Lean hashes anything: it is a label: what it is worth is what the hold of that sum in a sandbox is worth. -/
noncomputable def Try.pinned : Pinned := { name := "ytkolndfgpplknaa", sum := "df54064656387bfdfe9a188b8b7afc13708dd0a7dbf302f04840e2879168f3b5", checked := Try.checked }
namespace Rows
def none {H : Type} : Left H := { results := [], args := [] }

/-- 'laws.FnExactCommitBytes': WHATEVER THE INPUT: true; the input reads as it did. -/
def fnExactCommitBytesSpec : ChangeSpec := { name := "fnExactCommitBytes", fn := fun _ => fun
  | [d] => { results := [.lit (.bool true)], args := [d] }
  | _ => none }
def fnExactCommitBytesRow : OpenClaim := { program := "ytkolndfgpplknaa", sum := "df54064656387bfdfe9a188b8b7afc13708dd0a7dbf302f04840e2879168f3b5", func := "loop.example/g00671/laws.FnExactCommitBytes", spec := "fnExactCommitBytes", apart := false }
def FnExactCommitBytesSaid : Prop := fnExactCommitBytesRow.holds Try.pinned (OpenSpec.ofChange fnExactCommitBytesSpec)

/-- ITS FALSE NEIGHBOUR: 'it returns false'. Refute it at one input. -/
def fnExactCommitBytesWrong : ChangeSpec := { name := "fnExactCommitBytes", fn := fun _ => fun
  | [d] => { results := [.lit (.bool false)], args := [d] }
  | _ => none }
def FnExactCommitBytesWrongFalsely : Prop := fnExactCommitBytesRow.holds Try.pinned (OpenSpec.ofChange fnExactCommitBytesWrong)

/-- 'laws.FnExactLabels': WHATEVER THE INPUT: true; the input reads as it did. -/
def fnExactLabelsSpec : ChangeSpec := { name := "fnExactLabels", fn := fun _ => fun
  | [d] => { results := [.lit (.bool true)], args := [d] }
  | _ => none }
def fnExactLabelsRow : OpenClaim := { program := "ytkolndfgpplknaa", sum := "df54064656387bfdfe9a188b8b7afc13708dd0a7dbf302f04840e2879168f3b5", func := "loop.example/g00671/laws.FnExactLabels", spec := "fnExactLabels", apart := false }
def FnExactLabelsSaid : Prop := fnExactLabelsRow.holds Try.pinned (OpenSpec.ofChange fnExactLabelsSpec)

/-- ITS FALSE NEIGHBOUR: 'it returns false'. Refute it at one input. -/
def fnExactLabelsWrong : ChangeSpec := { name := "fnExactLabels", fn := fun _ => fun
  | [d] => { results := [.lit (.bool false)], args := [d] }
  | _ => none }
def FnExactLabelsWrongFalsely : Prop := fnExactLabelsRow.holds Try.pinned (OpenSpec.ofChange fnExactLabelsWrong)

/-- 'laws.FnExactPaths': WHATEVER THE INPUT: true; the input reads as it did. -/
def fnExactPathsSpec : ChangeSpec := { name := "fnExactPaths", fn := fun _ => fun
  | [d1, d2] => { results := [.lit (.bool true)], args := [d1, d2] }
  | _ => none }
def fnExactPathsRow : OpenClaim := { program := "ytkolndfgpplknaa", sum := "df54064656387bfdfe9a188b8b7afc13708dd0a7dbf302f04840e2879168f3b5", func := "loop.example/g00671/laws.FnExactPaths", spec := "fnExactPaths", apart := false }
def FnExactPathsSaid : Prop := fnExactPathsRow.holds Try.pinned (OpenSpec.ofChange fnExactPathsSpec)

/-- ITS FALSE NEIGHBOUR: 'it returns false'. Refute it at one input. -/
def fnExactPathsWrong : ChangeSpec := { name := "fnExactPaths", fn := fun _ => fun
  | [d1, d2] => { results := [.lit (.bool false)], args := [d1, d2] }
  | _ => none }
def FnExactPathsWrongFalsely : Prop := fnExactPathsRow.holds Try.pinned (OpenSpec.ofChange fnExactPathsWrong)

/-- 'laws.FnLog': WHATEVER THE INPUT: true; the input reads as it did. -/
def fnLogSpec : ChangeSpec := { name := "fnLog", fn := fun _ => fun
  | [d] => { results := [.lit (.bool true)], args := [d] }
  | _ => none }
def fnLogRow : OpenClaim := { program := "ytkolndfgpplknaa", sum := "df54064656387bfdfe9a188b8b7afc13708dd0a7dbf302f04840e2879168f3b5", func := "loop.example/g00671/laws.FnLog", spec := "fnLog", apart := false }
def FnLogSaid : Prop := fnLogRow.holds Try.pinned (OpenSpec.ofChange fnLogSpec)

/-- ITS FALSE NEIGHBOUR: 'it returns false'. Refute it at one input. -/
def fnLogWrong : ChangeSpec := { name := "fnLog", fn := fun _ => fun
  | [d] => { results := [.lit (.bool false)], args := [d] }
  | _ => none }
def FnLogWrongFalsely : Prop := fnLogRow.holds Try.pinned (OpenSpec.ofChange fnLogWrong)

/-- 'laws.FnExactLogBytes': WHATEVER THE INPUT: true; the input reads as it did. -/
def fnExactLogBytesSpec : ChangeSpec := { name := "fnExactLogBytes", fn := fun _ => fun
  | [d] => { results := [.lit (.bool true)], args := [d] }
  | _ => none }
def fnExactLogBytesRow : OpenClaim := { program := "ytkolndfgpplknaa", sum := "df54064656387bfdfe9a188b8b7afc13708dd0a7dbf302f04840e2879168f3b5", func := "loop.example/g00671/laws.FnExactLogBytes", spec := "fnExactLogBytes", apart := false }
def FnExactLogBytesSaid : Prop := fnExactLogBytesRow.holds Try.pinned (OpenSpec.ofChange fnExactLogBytesSpec)

/-- ITS FALSE NEIGHBOUR: 'it returns false'. Refute it at one input. -/
def fnExactLogBytesWrong : ChangeSpec := { name := "fnExactLogBytes", fn := fun _ => fun
  | [d] => { results := [.lit (.bool false)], args := [d] }
  | _ => none }
def FnExactLogBytesWrongFalsely : Prop := fnExactLogBytesRow.holds Try.pinned (OpenSpec.ofChange fnExactLogBytesWrong)

/-- 'laws.FnExactReached': WHATEVER THE INPUT: true; the input reads as it did. -/
def fnExactReachedSpec : ChangeSpec := { name := "fnExactReached", fn := fun _ => fun
  | [d1, d2] => { results := [.lit (.bool true)], args := [d1, d2] }
  | _ => none }
def fnExactReachedRow : OpenClaim := { program := "ytkolndfgpplknaa", sum := "df54064656387bfdfe9a188b8b7afc13708dd0a7dbf302f04840e2879168f3b5", func := "loop.example/g00671/laws.FnExactReached", spec := "fnExactReached", apart := false }
def FnExactReachedSaid : Prop := fnExactReachedRow.holds Try.pinned (OpenSpec.ofChange fnExactReachedSpec)

/-- ITS FALSE NEIGHBOUR: 'it returns false'. Refute it at one input. -/
def fnExactReachedWrong : ChangeSpec := { name := "fnExactReached", fn := fun _ => fun
  | [d1, d2] => { results := [.lit (.bool false)], args := [d1, d2] }
  | _ => none }
def FnExactReachedWrongFalsely : Prop := fnExactReachedRow.holds Try.pinned (OpenSpec.ofChange fnExactReachedWrong)

/-- 'laws.FnExactTop': WHATEVER THE INPUT: true; the input reads as it did. -/
def fnExactTopSpec : ChangeSpec := { name := "fnExactTop", fn := fun _ => fun
  | [d1, d2] => { results := [.lit (.bool true)], args := [d1, d2] }
  | _ => none }
def fnExactTopRow : OpenClaim := { program := "ytkolndfgpplknaa", sum := "df54064656387bfdfe9a188b8b7afc13708dd0a7dbf302f04840e2879168f3b5", func := "loop.example/g00671/laws.FnExactTop", spec := "fnExactTop", inPlace := ["internal/reflectlite.ValueOf", "internal/reflectlite.Swapper", "(internal/reflectlite.Value).Len"], unfollowed := true, recurses := true, apart := false }
def FnExactTopSaid : Prop := fnExactTopRow.holds Try.pinned (OpenSpec.ofChange fnExactTopSpec)

/-- ITS FALSE NEIGHBOUR: 'it returns false'. Refute it at one input. -/
def fnExactTopWrong : ChangeSpec := { name := "fnExactTop", fn := fun _ => fun
  | [d1, d2] => { results := [.lit (.bool false)], args := [d1, d2] }
  | _ => none }
def FnExactTopWrongFalsely : Prop := fnExactTopRow.holds Try.pinned (OpenSpec.ofChange fnExactTopWrong)

/-- 'laws.FnExactLogRead': WHATEVER THE INPUT: true; the input reads as it did. -/
def fnExactLogReadSpec : ChangeSpec := { name := "fnExactLogRead", fn := fun _ => fun
  | [d] => { results := [.lit (.bool true)], args := [d] }
  | _ => none }
def fnExactLogReadRow : OpenClaim := { program := "ytkolndfgpplknaa", sum := "df54064656387bfdfe9a188b8b7afc13708dd0a7dbf302f04840e2879168f3b5", func := "loop.example/g00671/laws.FnExactLogRead", spec := "fnExactLogRead", apart := false }
def FnExactLogReadSaid : Prop := fnExactLogReadRow.holds Try.pinned (OpenSpec.ofChange fnExactLogReadSpec)

/-- ITS FALSE NEIGHBOUR: 'it returns false'. Refute it at one input. -/
def fnExactLogReadWrong : ChangeSpec := { name := "fnExactLogRead", fn := fun _ => fun
  | [d] => { results := [.lit (.bool false)], args := [d] }
  | _ => none }
def FnExactLogReadWrongFalsely : Prop := fnExactLogReadRow.holds Try.pinned (OpenSpec.ofChange fnExactLogReadWrong)

/- THE SECOND FORM. 'bulk': how many values and letters a reading holds, each counted each time it is reached (what is shared counts as often as it is met; a slice's spare places count too). A statement '..UptoSaid' is the law's where the arguments, and the package variables that the reading takes, are together of bulk at most 1048576: NARROWER than '..Said'. Prove '..Said' where nothing that the law and all that it calls make is longer than what came in: it says more and counts as full. Else prove '..UptoSaid'. A law counts once. -/
mutual
def uptoBulk {H : Type} : DataW H → Nat
  | .lit (.string bytes) => bytes.length + 1
  | .lit _ => 1
  | .nil => 1
  | .ptr d => uptoBulk d + 1
  | .slice elems spare => uptoBulkAll elems + uptoBulkAll spare + 1
  | .agg parts => uptoBulkAll parts + 1
  | .iface _ d => uptoBulk d + 1
  | .map entries => uptoBulkEntries entries + 1
  | .held _ => 1
def uptoBulkAll {H : Type} : List (DataW H) → Nat
  | [] => 0
  | d :: r => uptoBulk d + uptoBulkAll r
def uptoBulkEntries {H : Type} : List (Lit × DataW H) → Nat
  | [] => 0
  | x :: r => uptoBulkEntry x + uptoBulkEntries r
def uptoBulkEntry {H : Type} : Lit × DataW H → Nat
  | (.string bytes, d) => bytes.length + uptoBulk d + 1
  | (_, d) => uptoBulk d + 1
 end
def uptoSmall : (H : Type) → List (DataW H) → Bool := fun _ ds => decide (uptoBulkAll ds ≤ 1048576)
def OpenSpec.upto (s : _root_.Go.ChangeSpec) : _root_.Go.OpenSpec := { _root_.Go.OpenSpec.ofChange s with cond := some uptoSmall }

/-- 'laws.FnExactCommitBytes', WHERE WHAT IT READS IS OF BULK AT MOST 1048576: true; the input reads as it did. -/
def fnExactCommitBytesUptoRow : OpenClaim := { program := "ytkolndfgpplknaa", sum := "df54064656387bfdfe9a188b8b7afc13708dd0a7dbf302f04840e2879168f3b5", func := "loop.example/g00671/laws.FnExactCommitBytes", spec := "fnExactCommitBytes", apart := false, narrowed := true }
def FnExactCommitBytesUptoSaid : Prop := fnExactCommitBytesUptoRow.holds Try.pinned (OpenSpec.upto fnExactCommitBytesSpec)

/-- 'laws.FnExactLabels', WHERE WHAT IT READS IS OF BULK AT MOST 1048576: true; the input reads as it did. -/
def fnExactLabelsUptoRow : OpenClaim := { program := "ytkolndfgpplknaa", sum := "df54064656387bfdfe9a188b8b7afc13708dd0a7dbf302f04840e2879168f3b5", func := "loop.example/g00671/laws.FnExactLabels", spec := "fnExactLabels", apart := false, narrowed := true }
def FnExactLabelsUptoSaid : Prop := fnExactLabelsUptoRow.holds Try.pinned (OpenSpec.upto fnExactLabelsSpec)

/-- 'laws.FnExactPaths', WHERE WHAT IT READS IS OF BULK AT MOST 1048576: true; the input reads as it did. -/
def fnExactPathsUptoRow : OpenClaim := { program := "ytkolndfgpplknaa", sum := "df54064656387bfdfe9a188b8b7afc13708dd0a7dbf302f04840e2879168f3b5", func := "loop.example/g00671/laws.FnExactPaths", spec := "fnExactPaths", apart := false, narrowed := true }
def FnExactPathsUptoSaid : Prop := fnExactPathsUptoRow.holds Try.pinned (OpenSpec.upto fnExactPathsSpec)

/-- 'laws.FnLog', WHERE WHAT IT READS IS OF BULK AT MOST 1048576: true; the input reads as it did. -/
def fnLogUptoRow : OpenClaim := { program := "ytkolndfgpplknaa", sum := "df54064656387bfdfe9a188b8b7afc13708dd0a7dbf302f04840e2879168f3b5", func := "loop.example/g00671/laws.FnLog", spec := "fnLog", apart := false, narrowed := true }
def FnLogUptoSaid : Prop := fnLogUptoRow.holds Try.pinned (OpenSpec.upto fnLogSpec)

/-- 'laws.FnExactLogBytes', WHERE WHAT IT READS IS OF BULK AT MOST 1048576: true; the input reads as it did. -/
def fnExactLogBytesUptoRow : OpenClaim := { program := "ytkolndfgpplknaa", sum := "df54064656387bfdfe9a188b8b7afc13708dd0a7dbf302f04840e2879168f3b5", func := "loop.example/g00671/laws.FnExactLogBytes", spec := "fnExactLogBytes", apart := false, narrowed := true }
def FnExactLogBytesUptoSaid : Prop := fnExactLogBytesUptoRow.holds Try.pinned (OpenSpec.upto fnExactLogBytesSpec)

/-- 'laws.FnExactReached', WHERE WHAT IT READS IS OF BULK AT MOST 1048576: true; the input reads as it did. -/
def fnExactReachedUptoRow : OpenClaim := { program := "ytkolndfgpplknaa", sum := "df54064656387bfdfe9a188b8b7afc13708dd0a7dbf302f04840e2879168f3b5", func := "loop.example/g00671/laws.FnExactReached", spec := "fnExactReached", apart := false, narrowed := true }
def FnExactReachedUptoSaid : Prop := fnExactReachedUptoRow.holds Try.pinned (OpenSpec.upto fnExactReachedSpec)

/-- 'laws.FnExactTop', WHERE WHAT IT READS IS OF BULK AT MOST 1048576: true; the input reads as it did. -/
def fnExactTopUptoRow : OpenClaim := { program := "ytkolndfgpplknaa", sum := "df54064656387bfdfe9a188b8b7afc13708dd0a7dbf302f04840e2879168f3b5", func := "loop.example/g00671/laws.FnExactTop", spec := "fnExactTop", inPlace := ["internal/reflectlite.ValueOf", "internal/reflectlite.Swapper", "(internal/reflectlite.Value).Len"], unfollowed := true, recurses := true, apart := false, narrowed := true }
def FnExactTopUptoSaid : Prop := fnExactTopUptoRow.holds Try.pinned (OpenSpec.upto fnExactTopSpec)

/-- 'laws.FnExactLogRead', WHERE WHAT IT READS IS OF BULK AT MOST 1048576: true; the input reads as it did. -/
def fnExactLogReadUptoRow : OpenClaim := { program := "ytkolndfgpplknaa", sum := "df54064656387bfdfe9a188b8b7afc13708dd0a7dbf302f04840e2879168f3b5", func := "loop.example/g00671/laws.FnExactLogRead", spec := "fnExactLogRead", apart := false, narrowed := true }
def FnExactLogReadUptoSaid : Prop := fnExactLogReadUptoRow.holds Try.pinned (OpenSpec.upto fnExactLogReadSpec)

end Rows
end Go.Proofs.Ytkolndfgpplknaa
