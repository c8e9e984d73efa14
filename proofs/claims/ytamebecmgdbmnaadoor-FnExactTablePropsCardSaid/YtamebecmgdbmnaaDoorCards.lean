/-
  DERIVED. GIVEN WITH THE SEED: THE CARDS: each row of YtamebecmgdbmnaaDoorRows.lean that lists a variable, with what it lists TIED to the program's text (the seventh form; the later family's looks); each row that meets fmt, with fmt's text TOLD by the authors' own Lean function (tested against real Go, not proved from fmt's source: count such statements apart). THE CARD IS WHAT COUNTS. Prove the row's statement (the work); the ties are given (YtamebecmgdbmnaaDoorTie.lean); close each card by the builder's one call (the guide's Derived/Test/ToyasCard.lean, 'card_holds'). Laid BY PROGRAM, IN A SANDBOX (cutbox-door.mjs). By AI agents, Wed Nov 11 2026. No macro, syntax, notation, axiom, sorry.
-/
import Derived.Test.YtamebecmgdbmnaaDoorRows
import GoSem.ClaimSeven
namespace Go.Proofs.YtamebecmgdbmnaaDoor
namespace Rows

/-- THE TIED CARD OF 'laws.FnExactTableOf'. -/
def fnExactTableOfCard : Claim7 := { stood := { row := fnExactTableOfRow, standIns := [], harness := (true, "e63c0cbeb08c540e994c8aeb4417232743ae7dceadf26fdddd6d3fd552786e19"), looks := false }, kinds := [], alts := [], laidByText := true, laidKinds := [.data], laidTests := true, laidLooks := .later }
def FnExactTableOfCardSaid : Prop := Claim7.holds Tryd.pinned (.plain (OpenSpec.ofChange fnExactTableOfSpec)) fnExactTableOfCard

/-- THE TIED CARD OF 'laws.FnExactTableGet'. -/
def fnExactTableGetCard : Claim7 := { stood := { row := fnExactTableGetRow, standIns := [], harness := (true, "e63c0cbeb08c540e994c8aeb4417232743ae7dceadf26fdddd6d3fd552786e19"), looks := false }, kinds := [], alts := [], laidByText := true, laidKinds := [.data], laidTests := true, laidLooks := .later }
def FnExactTableGetCardSaid : Prop := Claim7.holds Tryd.pinned (.plain (OpenSpec.ofChange fnExactTableGetSpec)) fnExactTableGetCard

/-- THE TIED CARD OF 'laws.FnExactTableProps'. -/
def fnExactTablePropsCard : Claim7 := { stood := { row := fnExactTablePropsRow, standIns := [], harness := (true, "e63c0cbeb08c540e994c8aeb4417232743ae7dceadf26fdddd6d3fd552786e19"), looks := false }, kinds := [], alts := [], laidByText := true, laidKinds := [.data], laidTests := true, laidLooks := .later }
def FnExactTablePropsCardSaid : Prop := Claim7.holds Tryd.pinned (.plain (OpenSpec.ofChange fnExactTablePropsSpec)) fnExactTablePropsCard

/-- THE TIED CARD OF 'laws.FnExactReadTable'. -/
def fnExactReadTableCard : Claim7 := { stood := { row := fnExactReadTableRow, standIns := [], harness := (true, "e63c0cbeb08c540e994c8aeb4417232743ae7dceadf26fdddd6d3fd552786e19"), looks := false }, kinds := [], alts := [], laidByText := true, laidKinds := [.data], laidTests := true, laidLooks := .later }
def FnExactReadTableCardSaid : Prop := Claim7.holds Tryd.pinned (.plain (OpenSpec.ofChange fnExactReadTableSpec)) fnExactReadTableCard

/-- THE SECOND FORM's CARD OF 'laws.FnExactTableOf'. -/
def fnExactTableOfUptoCard : Claim7 := { stood := { row := fnExactTableOfUptoRow, standIns := [], harness := (true, "e63c0cbeb08c540e994c8aeb4417232743ae7dceadf26fdddd6d3fd552786e19"), looks := false }, kinds := [], alts := [], laidByText := true, laidKinds := [.data], laidTests := true, laidLooks := .later }
def FnExactTableOfUptoCardSaid : Prop := Claim7.holds Tryd.pinned (.plain (OpenSpec.upto fnExactTableOfSpec)) fnExactTableOfUptoCard

/-- THE SECOND FORM's CARD OF 'laws.FnExactTableGet'. -/
def fnExactTableGetUptoCard : Claim7 := { stood := { row := fnExactTableGetUptoRow, standIns := [], harness := (true, "e63c0cbeb08c540e994c8aeb4417232743ae7dceadf26fdddd6d3fd552786e19"), looks := false }, kinds := [], alts := [], laidByText := true, laidKinds := [.data], laidTests := true, laidLooks := .later }
def FnExactTableGetUptoCardSaid : Prop := Claim7.holds Tryd.pinned (.plain (OpenSpec.upto fnExactTableGetSpec)) fnExactTableGetUptoCard

/-- THE SECOND FORM's CARD OF 'laws.FnExactTableProps'. -/
def fnExactTablePropsUptoCard : Claim7 := { stood := { row := fnExactTablePropsUptoRow, standIns := [], harness := (true, "e63c0cbeb08c540e994c8aeb4417232743ae7dceadf26fdddd6d3fd552786e19"), looks := false }, kinds := [], alts := [], laidByText := true, laidKinds := [.data], laidTests := true, laidLooks := .later }
def FnExactTablePropsUptoCardSaid : Prop := Claim7.holds Tryd.pinned (.plain (OpenSpec.upto fnExactTablePropsSpec)) fnExactTablePropsUptoCard

/-- THE SECOND FORM's CARD OF 'laws.FnExactReadTable'. -/
def fnExactReadTableUptoCard : Claim7 := { stood := { row := fnExactReadTableUptoRow, standIns := [], harness := (true, "e63c0cbeb08c540e994c8aeb4417232743ae7dceadf26fdddd6d3fd552786e19"), looks := false }, kinds := [], alts := [], laidByText := true, laidKinds := [.data], laidTests := true, laidLooks := .later }
def FnExactReadTableUptoCardSaid : Prop := Claim7.holds Tryd.pinned (.plain (OpenSpec.upto fnExactReadTableSpec)) fnExactReadTableUptoCard
end Rows
end Go.Proofs.YtamebecmgdbmnaaDoor
