/-
  DERIVED. GIVEN WITH THE SEED: THE CARDS: each row of YtdkekhaamhphcaaGreatDoorRows.lean that lists a variable, with what it lists TIED to the program's text (the seventh form; the later family's looks); each row that meets fmt, with fmt's text TOLD by the authors' own Lean function (tested against real Go, not proved from fmt's source: count such statements apart). THE CARD IS WHAT COUNTS. Prove the row's statement (the work); the ties are given (YtdkekhaamhphcaaGreatDoorTie.lean); close each card by the builder's one call (the guide's Derived/Test/ToyasCard.lean, 'card_holds'). Laid BY PROGRAM, IN A SANDBOX (cutbox-door.mjs). By AI agents, Wed Nov 11 2026. No macro, syntax, notation, axiom, sorry.
-/
import Derived.Test.YtdkekhaamhphcaaGreatDoorRows
import GoSem.ClaimSeven
namespace Go.Proofs.YtdkekhaamhphcaaGreatDoor
namespace Rows

/-- THE TIED CARD OF 'vernacularlaw27.DatefmtStyles'. -/
def datefmtStylesCard : Claim7 := { stood := { row := datefmtStylesRow, standIns := [], harness := (true, "8818224960b225d8d09bb31c920c708911b7c344a6ca0739769f122f38c9f76b"), looks := true }, kinds := [], alts := [], laidByText := true, laidKinds := [.data, .data, .data, .data, .sentinel, .sentinel, .listed, .data, .pinned, .pinned], laidTests := true, laidLooks := .later }
def DatefmtStylesCardSaid : Prop := Claim7.holds Tryz.pinned (.plain (OpenSpec.ofChange datefmtStylesSpec)) datefmtStylesCard

/-- THE SECOND FORM's CARD OF 'vernacularlaw27.DatefmtStyles'. -/
def datefmtStylesUptoCard : Claim7 := { stood := { row := datefmtStylesUptoRow, standIns := [], harness := (true, "8818224960b225d8d09bb31c920c708911b7c344a6ca0739769f122f38c9f76b"), looks := true }, kinds := [], alts := [], laidByText := true, laidKinds := [.data, .data, .data, .data, .sentinel, .sentinel, .listed, .data, .pinned, .pinned], laidTests := true, laidLooks := .later }
def DatefmtStylesUptoCardSaid : Prop := Claim7.holds Tryz.pinned (.plain (OpenSpec.upto datefmtStylesSpec)) datefmtStylesUptoCard
end Rows
end Go.Proofs.YtdkekhaamhphcaaGreatDoor
