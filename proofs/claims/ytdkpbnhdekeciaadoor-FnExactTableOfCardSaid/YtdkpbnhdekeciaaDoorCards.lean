/-
  DERIVED. GIVEN WITH THE SEED: THE CARDS: each row of YtdkpbnhdekeciaaDoorRows.lean that lists a variable, with what it lists TIED to the program's text (the seventh form; the later family's looks); each row that meets fmt, with fmt's text TOLD by the authors' own Lean function (tested against real Go, not proved from fmt's source: count such statements apart). THE CARD IS WHAT COUNTS. Prove the row's statement (the work); the ties are given (YtdkpbnhdekeciaaDoorTie.lean); close each card by the builder's one call (the guide's Derived/Test/ToyasCard.lean, 'card_holds'). Laid BY PROGRAM, IN A SANDBOX (cutbox-door.mjs). By AI agents, Wed Nov 11 2026. No macro, syntax, notation, axiom, sorry.
-/
import Derived.Test.YtdkpbnhdekeciaaDoorRows
import GoSem.ClaimSeven
namespace Go.Proofs.YtdkpbnhdekeciaaDoor
namespace Rows

/-- THE TIED CARD OF 'laws.FnExactTableOf'. -/
def fnExactTableOfCard : Claim7 := { stood := { row := fnExactTableOfRow, standIns := [], harness := (true, "cf17680641a7cf297347e409c6774dec4c19259515f6387d1481fa3ede67bdd0"), looks := false }, kinds := [], alts := [], laidByText := true, laidKinds := [.data], laidTests := true, laidLooks := .later }
def FnExactTableOfCardSaid : Prop := Claim7.holds Tryd.pinned (.plain (OpenSpec.ofChange fnExactTableOfSpec)) fnExactTableOfCard

/-- THE SECOND FORM's CARD OF 'laws.FnExactTableOf'. -/
def fnExactTableOfUptoCard : Claim7 := { stood := { row := fnExactTableOfUptoRow, standIns := [], harness := (true, "cf17680641a7cf297347e409c6774dec4c19259515f6387d1481fa3ede67bdd0"), looks := false }, kinds := [], alts := [], laidByText := true, laidKinds := [.data], laidTests := true, laidLooks := .later }
def FnExactTableOfUptoCardSaid : Prop := Claim7.holds Tryd.pinned (.plain (OpenSpec.upto fnExactTableOfSpec)) fnExactTableOfUptoCard
end Rows
end Go.Proofs.YtdkpbnhdekeciaaDoor
