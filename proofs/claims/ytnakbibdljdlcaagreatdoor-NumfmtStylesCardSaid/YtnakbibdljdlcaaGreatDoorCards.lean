/-
  DERIVED. GIVEN WITH THE SEED: THE CARDS: each row of YtnakbibdljdlcaaGreatDoorRows.lean that lists a variable, with what it lists TIED to the program's text (the seventh form; the later family's looks); each row that meets fmt, with fmt's text TOLD by the authors' own Lean function (tested against real Go, not proved from fmt's source: count such statements apart). THE CARD IS WHAT COUNTS. Prove the row's statement (the work); the ties are given (YtnakbibdljdlcaaGreatDoorTie.lean); close each card by the builder's one call (the guide's Derived/Test/ToyasCard.lean, 'card_holds'). Laid BY PROGRAM, IN A SANDBOX (cutbox-door.mjs). By AI agents, Wed Nov 11 2026. No macro, syntax, notation, axiom, sorry.
-/
import Derived.Test.YtnakbibdljdlcaaGreatDoorRows
import GoSem.ClaimSeven
namespace Go.Proofs.YtnakbibdljdlcaaGreatDoor
namespace Rows

/-- THE TIED CARD OF 'vernacularlaw25.NumfmtStyles'. -/
def numfmtStylesCard : Claim7 := { stood := { row := numfmtStylesRow, standIns := [], harness := (true, "9fc04e18e5ea6ed621269b549d0d8f2c1adfc56aa4333df7e89e88a813380b18"), looks := true }, kinds := [], alts := [], laidByText := true, laidKinds := [.data, .data, .data, .data, .sentinel, .sentinel, .listed, .data, .pinned], laidTests := true, laidLooks := .later }
def NumfmtStylesCardSaid : Prop := Claim7.holds Tryz.pinned (.plain (OpenSpec.ofChange numfmtStylesSpec)) numfmtStylesCard

/-- THE SECOND FORM's CARD OF 'vernacularlaw25.NumfmtStyles'. -/
def numfmtStylesUptoCard : Claim7 := { stood := { row := numfmtStylesUptoRow, standIns := [], harness := (true, "9fc04e18e5ea6ed621269b549d0d8f2c1adfc56aa4333df7e89e88a813380b18"), looks := true }, kinds := [], alts := [], laidByText := true, laidKinds := [.data, .data, .data, .data, .sentinel, .sentinel, .listed, .data, .pinned], laidTests := true, laidLooks := .later }
def NumfmtStylesUptoCardSaid : Prop := Claim7.holds Tryz.pinned (.plain (OpenSpec.upto numfmtStylesSpec)) numfmtStylesUptoCard
end Rows
end Go.Proofs.YtnakbibdljdlcaaGreatDoor
