/-
  DERIVED. GIVEN WITH THE SEED: THE CARDS: each row of YtlakcnaeibkonaaGreatDoorRows.lean that lists a variable, with what it lists TIED to the program's text (the seventh form; the later family's looks); each row that meets fmt, with fmt's text TOLD by the authors' own Lean function (tested against real Go, not proved from fmt's source: count such statements apart). THE CARD IS WHAT COUNTS. Prove the row's statement (the work); the ties are given (YtlakcnaeibkonaaGreatDoorTie.lean); close each card by the builder's one call (the guide's Derived/Test/ToyasCard.lean, 'card_holds'). Laid BY PROGRAM, IN A SANDBOX (cutbox-door.mjs). By AI agents, Wed Nov 11 2026. No macro, syntax, notation, axiom, sorry.
-/
import Derived.Test.YtlakcnaeibkonaaGreatDoorRows
import GoSem.ClaimSeven
namespace Go.Proofs.YtlakcnaeibkonaaGreatDoor
namespace Rows

/-- THE TIED CARD OF 'vernacularlaw29.PlaneStyles'. -/
def planeStylesCard : Claim7 := { stood := { row := planeStylesRow, standIns := [], harness := (true, "89524c2890b33b03426f247ba129002d085737b7e58248c5c765fcb372d7fb90"), looks := true }, kinds := [], alts := [], laidByText := true, laidKinds := [.data, .data, .data, .data, .sentinel, .sentinel, .listed, .data, .pinned], laidTests := true, laidLooks := .later }
def PlaneStylesCardSaid : Prop := Claim7.holds Tryz.pinned (.plain (OpenSpec.ofChange planeStylesSpec)) planeStylesCard

/-- THE SECOND FORM's CARD OF 'vernacularlaw29.PlaneStyles'. -/
def planeStylesUptoCard : Claim7 := { stood := { row := planeStylesUptoRow, standIns := [], harness := (true, "89524c2890b33b03426f247ba129002d085737b7e58248c5c765fcb372d7fb90"), looks := true }, kinds := [], alts := [], laidByText := true, laidKinds := [.data, .data, .data, .data, .sentinel, .sentinel, .listed, .data, .pinned], laidTests := true, laidLooks := .later }
def PlaneStylesUptoCardSaid : Prop := Claim7.holds Tryz.pinned (.plain (OpenSpec.upto planeStylesSpec)) planeStylesUptoCard
end Rows
end Go.Proofs.YtlakcnaeibkonaaGreatDoor
