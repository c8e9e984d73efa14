/-
  DERIVED. GIVEN WITH THE SEED: THE CARDS: each row of YtecgkdodfemihaaDoorRows.lean that lists a variable, with what it lists TIED to the program's text (the seventh form; the later family's looks); each row that meets fmt, with fmt's text TOLD by the authors' own Lean function (tested against real Go, not proved from fmt's source: count such statements apart). THE CARD IS WHAT COUNTS. Prove the row's statement (the work); the ties are given (YtecgkdodfemihaaDoorTie.lean); close each card by the builder's one call (the guide's Derived/Test/ToyasCard.lean, 'card_holds'). Laid BY PROGRAM, IN A SANDBOX (cutbox-door.mjs). By AI agents, Wed Nov 11 2026. No macro, syntax, notation, axiom, sorry.
-/
import Derived.Test.YtecgkdodfemihaaDoorRows
import GoSem.ClaimSeven
namespace Go.Proofs.YtecgkdodfemihaaDoor
namespace Rows

/-- THE TIED CARD OF 'laws.FnExactFileName'. -/
def fnExactFileNameCard : Claim7 := { stood := { row := fnExactFileNameRow, standIns := [], harness := (true, "c8aff3561d811a24ddccd76d8a9fd253ad303af1cd49b54c673eb476f65864c9"), looks := false }, kinds := [], alts := [], laidByText := true, laidKinds := [.data, .data, .data], laidTests := true, laidLooks := .later }
def FnExactFileNameCardSaid : Prop := Claim7.holds Tryd.pinned (.plain (OpenSpec.ofChange fnExactFileNameSpec)) fnExactFileNameCard

/-- THE SECOND FORM's CARD OF 'laws.FnExactFileName'. -/
def fnExactFileNameUptoCard : Claim7 := { stood := { row := fnExactFileNameUptoRow, standIns := [], harness := (true, "c8aff3561d811a24ddccd76d8a9fd253ad303af1cd49b54c673eb476f65864c9"), looks := false }, kinds := [], alts := [], laidByText := true, laidKinds := [.data, .data, .data], laidTests := true, laidLooks := .later }
def FnExactFileNameUptoCardSaid : Prop := Claim7.holds Tryd.pinned (.plain (OpenSpec.upto fnExactFileNameSpec)) fnExactFileNameUptoCard
end Rows
end Go.Proofs.YtecgkdodfemihaaDoor
