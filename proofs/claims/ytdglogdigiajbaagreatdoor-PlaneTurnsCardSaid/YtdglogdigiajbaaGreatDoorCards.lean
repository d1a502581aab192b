/-
  DERIVED. GIVEN WITH THE SEED: THE CARDS: each row of YtdglogdigiajbaaGreatDoorRows.lean that lists a variable, with what it lists TIED to the program's text (the seventh form; the later family's looks); each row that meets fmt, with fmt's text TOLD by the authors' own Lean function (tested against real Go, not proved from fmt's source: count such statements apart). THE CARD IS WHAT COUNTS. Prove the row's statement (the work); the ties are given (YtdglogdigiajbaaGreatDoorTie.lean); close each card by the builder's one call (the guide's Derived/Test/ToyasCard.lean, 'card_holds'). Laid BY PROGRAM, IN A SANDBOX (cutbox-door.mjs). By AI agents, Wed Nov 11 2026. No macro, syntax, notation, axiom, sorry.
-/
import Derived.Test.YtdglogdigiajbaaGreatDoorRows
import GoSem.ClaimSeven
namespace Go.Proofs.YtdglogdigiajbaaGreatDoor
namespace Rows

/-- THE TIED CARD OF 'vernacularlaw29.PlaneTurns'. -/
def planeTurnsCard : Claim7 := { stood := { row := planeTurnsRow, standIns := [], harness := (true, "06dd778524f5e1d06f87791db24033388d93e5f18622065b29213e781b498cf5"), looks := true }, kinds := [], alts := [], laidByText := true, laidKinds := [.data, .data, .data, .data, .sentinel, .sentinel, .listed, .data, .pinned], laidTests := true, laidLooks := .later }
def PlaneTurnsCardSaid : Prop := Claim7.holds Tryz.pinned (.plain (OpenSpec.ofChange planeTurnsSpec)) planeTurnsCard

/-- THE SECOND FORM's CARD OF 'vernacularlaw29.PlaneTurns'. -/
def planeTurnsUptoCard : Claim7 := { stood := { row := planeTurnsUptoRow, standIns := [], harness := (true, "06dd778524f5e1d06f87791db24033388d93e5f18622065b29213e781b498cf5"), looks := true }, kinds := [], alts := [], laidByText := true, laidKinds := [.data, .data, .data, .data, .sentinel, .sentinel, .listed, .data, .pinned], laidTests := true, laidLooks := .later }
def PlaneTurnsUptoCardSaid : Prop := Claim7.holds Tryz.pinned (.plain (OpenSpec.upto planeTurnsSpec)) planeTurnsUptoCard
end Rows
end Go.Proofs.YtdglogdigiajbaaGreatDoor
