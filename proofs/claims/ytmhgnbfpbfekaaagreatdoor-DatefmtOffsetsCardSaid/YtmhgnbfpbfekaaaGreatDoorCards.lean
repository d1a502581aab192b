/-
  DERIVED. GIVEN WITH THE SEED: THE CARDS: each row of YtmhgnbfpbfekaaaGreatDoorRows.lean that lists a variable, with what it lists TIED to the program's text (the seventh form; the later family's looks); each row that meets fmt, with fmt's text TOLD by the authors' own Lean function (tested against real Go, not proved from fmt's source: count such statements apart). THE CARD IS WHAT COUNTS. Prove the row's statement (the work); the ties are given (YtmhgnbfpbfekaaaGreatDoorTie.lean); close each card by the builder's one call (the guide's Derived/Test/ToyasCard.lean, 'card_holds'). Laid BY PROGRAM, IN A SANDBOX (cutbox-door.mjs). By AI agents, Wed Nov 11 2026. No macro, syntax, notation, axiom, sorry.
-/
import Derived.Test.YtmhgnbfpbfekaaaGreatDoorRows
import GoSem.ClaimSeven
namespace Go.Proofs.YtmhgnbfpbfekaaaGreatDoor
namespace Rows

/-- THE TIED CARD OF 'vernacularlaw27.DatefmtOffsets'. -/
def datefmtOffsetsCard : Claim7 := { stood := { row := datefmtOffsetsRow, standIns := [], harness := (true, "4ee6ab6e447ed9d2b3ee18dfa4b803ac5f90348667c22aa135964b03529eed43"), looks := true }, kinds := [], alts := [], laidByText := true, laidKinds := [.data, .data, .data, .data, .sentinel, .sentinel, .listed, .data, .pinned, .pinned], laidTests := true, laidLooks := .later }
def DatefmtOffsetsCardSaid : Prop := Claim7.holds Tryz.pinned (.plain (OpenSpec.ofChange datefmtOffsetsSpec)) datefmtOffsetsCard

/-- THE SECOND FORM's CARD OF 'vernacularlaw27.DatefmtOffsets'. -/
def datefmtOffsetsUptoCard : Claim7 := { stood := { row := datefmtOffsetsUptoRow, standIns := [], harness := (true, "4ee6ab6e447ed9d2b3ee18dfa4b803ac5f90348667c22aa135964b03529eed43"), looks := true }, kinds := [], alts := [], laidByText := true, laidKinds := [.data, .data, .data, .data, .sentinel, .sentinel, .listed, .data, .pinned, .pinned], laidTests := true, laidLooks := .later }
def DatefmtOffsetsUptoCardSaid : Prop := Claim7.holds Tryz.pinned (.plain (OpenSpec.upto datefmtOffsetsSpec)) datefmtOffsetsUptoCard
end Rows
end Go.Proofs.YtmhgnbfpbfekaaaGreatDoor
