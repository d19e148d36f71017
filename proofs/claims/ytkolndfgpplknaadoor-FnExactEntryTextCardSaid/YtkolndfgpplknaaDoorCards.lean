/-
  DERIVED. GIVEN WITH THE SEED: THE CARDS: each row of YtkolndfgpplknaaDoorRows.lean that lists a variable, with what it lists TIED to the program's text (the seventh form; the later family's looks); each row that meets fmt, with fmt's text TOLD by the authors' own Lean function (tested against real Go, not proved from fmt's source: count such statements apart). THE CARD IS WHAT COUNTS. Prove the row's statement (the work); the ties are given (YtkolndfgpplknaaDoorTie.lean); close each card by the builder's one call (the guide's Derived/Test/ToyasCard.lean, 'card_holds'). Laid BY PROGRAM, IN A SANDBOX (cutbox-door.mjs). By AI agents, Wed Nov 11 2026. No macro, syntax, notation, axiom, sorry.
-/
import Derived.Test.YtkolndfgpplknaaDoorRows
import GoSem.ClaimSeven
namespace Go.Proofs.YtkolndfgpplknaaDoor
namespace Rows

/-- THE TIED CARD OF 'laws.FnExactGName'. -/
def fnExactGNameCard : Claim7 := { stood := { row := fnExactGNameRow, standIns := [], harness := (true, "5f14a1492c21ca35cec061be0b5c6f2b641e77f30c5cda5d59c3be37988ea9a4"), looks := false }, kinds := [], alts := [], laidByText := true, laidKinds := [.data, .data, .data], laidTests := true, laidLooks := .later }
def FnExactGNameCardSaid : Prop := Claim7.holds Tryd.pinned (.plain (OpenSpec.ofChange fnExactGNameSpec)) fnExactGNameCard

/-- THE TIED CARD OF 'laws.FnExactVName'. -/
def fnExactVNameCard : Claim7 := { stood := { row := fnExactVNameRow, standIns := [], harness := (true, "5f14a1492c21ca35cec061be0b5c6f2b641e77f30c5cda5d59c3be37988ea9a4"), looks := false }, kinds := [], alts := [], laidByText := true, laidKinds := [.data, .data, .data], laidTests := true, laidLooks := .later }
def FnExactVNameCardSaid : Prop := Claim7.holds Tryd.pinned (.plain (OpenSpec.ofChange fnExactVNameSpec)) fnExactVNameCard

/-- THE TIED CARD OF 'laws.FnExactStatsText'. -/
def fnExactStatsTextCard : Claim7 := { stood := { row := fnExactStatsTextRow, standIns := [], harness := (true, "5f14a1492c21ca35cec061be0b5c6f2b641e77f30c5cda5d59c3be37988ea9a4"), looks := false }, kinds := [], alts := [], laidByText := true, laidKinds := [.data, .data, .data], laidTests := true, laidLooks := .later }
def FnExactStatsTextCardSaid : Prop := Claim7.holds Tryd.pinned (.plain (OpenSpec.ofChange fnExactStatsTextSpec)) fnExactStatsTextCard

/-- THE TIED CARD OF 'laws.FnExactEntryText'. -/
def fnExactEntryTextCard : Claim7 := { stood := { row := fnExactEntryTextRow, standIns := [], harness := (true, "5f14a1492c21ca35cec061be0b5c6f2b641e77f30c5cda5d59c3be37988ea9a4"), looks := false }, kinds := [], alts := [], laidByText := true, laidKinds := [.data, .data, .data], laidTests := true, laidLooks := .later }
def FnExactEntryTextCardSaid : Prop := Claim7.holds Tryd.pinned (.plain (OpenSpec.ofChange fnExactEntryTextSpec)) fnExactEntryTextCard

/-- THE SECOND FORM's CARD OF 'laws.FnExactGName'. -/
def fnExactGNameUptoCard : Claim7 := { stood := { row := fnExactGNameUptoRow, standIns := [], harness := (true, "5f14a1492c21ca35cec061be0b5c6f2b641e77f30c5cda5d59c3be37988ea9a4"), looks := false }, kinds := [], alts := [], laidByText := true, laidKinds := [.data, .data, .data], laidTests := true, laidLooks := .later }
def FnExactGNameUptoCardSaid : Prop := Claim7.holds Tryd.pinned (.plain (OpenSpec.upto fnExactGNameSpec)) fnExactGNameUptoCard

/-- THE SECOND FORM's CARD OF 'laws.FnExactVName'. -/
def fnExactVNameUptoCard : Claim7 := { stood := { row := fnExactVNameUptoRow, standIns := [], harness := (true, "5f14a1492c21ca35cec061be0b5c6f2b641e77f30c5cda5d59c3be37988ea9a4"), looks := false }, kinds := [], alts := [], laidByText := true, laidKinds := [.data, .data, .data], laidTests := true, laidLooks := .later }
def FnExactVNameUptoCardSaid : Prop := Claim7.holds Tryd.pinned (.plain (OpenSpec.upto fnExactVNameSpec)) fnExactVNameUptoCard

/-- THE SECOND FORM's CARD OF 'laws.FnExactStatsText'. -/
def fnExactStatsTextUptoCard : Claim7 := { stood := { row := fnExactStatsTextUptoRow, standIns := [], harness := (true, "5f14a1492c21ca35cec061be0b5c6f2b641e77f30c5cda5d59c3be37988ea9a4"), looks := false }, kinds := [], alts := [], laidByText := true, laidKinds := [.data, .data, .data], laidTests := true, laidLooks := .later }
def FnExactStatsTextUptoCardSaid : Prop := Claim7.holds Tryd.pinned (.plain (OpenSpec.upto fnExactStatsTextSpec)) fnExactStatsTextUptoCard

/-- THE SECOND FORM's CARD OF 'laws.FnExactEntryText'. -/
def fnExactEntryTextUptoCard : Claim7 := { stood := { row := fnExactEntryTextUptoRow, standIns := [], harness := (true, "5f14a1492c21ca35cec061be0b5c6f2b641e77f30c5cda5d59c3be37988ea9a4"), looks := false }, kinds := [], alts := [], laidByText := true, laidKinds := [.data, .data, .data], laidTests := true, laidLooks := .later }
def FnExactEntryTextUptoCardSaid : Prop := Claim7.holds Tryd.pinned (.plain (OpenSpec.upto fnExactEntryTextSpec)) fnExactEntryTextUptoCard
end Rows
end Go.Proofs.YtkolndfgpplknaaDoor
