/-
  DERIVED. GIVEN WITH THE SEED: THE CARDS: each row of YtamebecmgdbmnaaGreatDoorRows.lean that lists a variable, with what it lists TIED to the program's text (the seventh form; the later family's looks); each row that meets fmt, with fmt's text TOLD by the authors' own Lean function (tested against real Go, not proved from fmt's source: count such statements apart). THE CARD IS WHAT COUNTS. Prove the row's statement (the work); the ties are given (YtamebecmgdbmnaaGreatDoorTie.lean); close each card by the builder's one call (the guide's Derived/Test/ToyasCard.lean, 'card_holds'). Laid BY PROGRAM, IN A SANDBOX (cutbox-door.mjs). By AI agents, Wed Nov 11 2026. No macro, syntax, notation, axiom, sorry.
-/
import Derived.Test.YtamebecmgdbmnaaGreatDoorRows
import GoSem.ClaimSeven
namespace Go.Proofs.YtamebecmgdbmnaaGreatDoor
namespace Rows

/-- THE TIED CARD OF 'laws.FnTableGot'. -/
def fnTableGotCard : Claim7 := { stood := { row := fnTableGotRow, standIns := [], harness := (true, "04bed3f175168a77217178710ec88bfcffb79562227423b9d42b64e5bbb83926"), looks := false }, kinds := [], alts := [], laidByText := true, laidKinds := [.data], laidTests := true, laidLooks := .later }
def FnTableGotCardSaid : Prop := Claim7.holds Tryz.pinned (.plain (OpenSpec.ofChange fnTableGotSpec)) fnTableGotCard

/-- THE TIED CARD OF 'laws.FnTables'. -/
def fnTablesCard : Claim7 := { stood := { row := fnTablesRow, standIns := [], harness := (true, "04bed3f175168a77217178710ec88bfcffb79562227423b9d42b64e5bbb83926"), looks := false }, kinds := [], alts := [], laidByText := true, laidKinds := [.data], laidTests := true, laidLooks := .later }
def FnTablesCardSaid : Prop := Claim7.holds Tryz.pinned (.plain (OpenSpec.ofChange fnTablesSpec)) fnTablesCard

/-- THE TIED CARD OF 'laws.FnExactTableMay'. -/
def fnExactTableMayCard : Claim7 := { stood := { row := fnExactTableMayRow, standIns := [], harness := (true, "04bed3f175168a77217178710ec88bfcffb79562227423b9d42b64e5bbb83926"), looks := false }, kinds := [], alts := [], laidByText := true, laidKinds := [.data], laidTests := true, laidLooks := .later }
def FnExactTableMayCardSaid : Prop := Claim7.holds Tryz.pinned (.plain (OpenSpec.ofChange fnExactTableMaySpec)) fnExactTableMayCard

/-- THE TIED CARD OF 'laws.FnTableHurt'. -/
def fnTableHurtCard : Claim7 := { stood := { row := fnTableHurtRow, standIns := [], harness := (true, "04bed3f175168a77217178710ec88bfcffb79562227423b9d42b64e5bbb83926"), looks := false }, kinds := [], alts := [], laidByText := true, laidKinds := [.data], laidTests := true, laidLooks := .later }
def FnTableHurtCardSaid : Prop := Claim7.holds Tryz.pinned (.plain (OpenSpec.ofChange fnTableHurtSpec)) fnTableHurtCard

/-- THE SECOND FORM's CARD OF 'laws.FnTableGot'. -/
def fnTableGotUptoCard : Claim7 := { stood := { row := fnTableGotUptoRow, standIns := [], harness := (true, "04bed3f175168a77217178710ec88bfcffb79562227423b9d42b64e5bbb83926"), looks := false }, kinds := [], alts := [], laidByText := true, laidKinds := [.data], laidTests := true, laidLooks := .later }
def FnTableGotUptoCardSaid : Prop := Claim7.holds Tryz.pinned (.plain (OpenSpec.upto fnTableGotSpec)) fnTableGotUptoCard

/-- THE SECOND FORM's CARD OF 'laws.FnTables'. -/
def fnTablesUptoCard : Claim7 := { stood := { row := fnTablesUptoRow, standIns := [], harness := (true, "04bed3f175168a77217178710ec88bfcffb79562227423b9d42b64e5bbb83926"), looks := false }, kinds := [], alts := [], laidByText := true, laidKinds := [.data], laidTests := true, laidLooks := .later }
def FnTablesUptoCardSaid : Prop := Claim7.holds Tryz.pinned (.plain (OpenSpec.upto fnTablesSpec)) fnTablesUptoCard

/-- THE SECOND FORM's CARD OF 'laws.FnExactTableMay'. -/
def fnExactTableMayUptoCard : Claim7 := { stood := { row := fnExactTableMayUptoRow, standIns := [], harness := (true, "04bed3f175168a77217178710ec88bfcffb79562227423b9d42b64e5bbb83926"), looks := false }, kinds := [], alts := [], laidByText := true, laidKinds := [.data], laidTests := true, laidLooks := .later }
def FnExactTableMayUptoCardSaid : Prop := Claim7.holds Tryz.pinned (.plain (OpenSpec.upto fnExactTableMaySpec)) fnExactTableMayUptoCard

/-- THE SECOND FORM's CARD OF 'laws.FnTableHurt'. -/
def fnTableHurtUptoCard : Claim7 := { stood := { row := fnTableHurtUptoRow, standIns := [], harness := (true, "04bed3f175168a77217178710ec88bfcffb79562227423b9d42b64e5bbb83926"), looks := false }, kinds := [], alts := [], laidByText := true, laidKinds := [.data], laidTests := true, laidLooks := .later }
def FnTableHurtUptoCardSaid : Prop := Claim7.holds Tryz.pinned (.plain (OpenSpec.upto fnTableHurtSpec)) fnTableHurtUptoCard
end Rows
end Go.Proofs.YtamebecmgdbmnaaGreatDoor
