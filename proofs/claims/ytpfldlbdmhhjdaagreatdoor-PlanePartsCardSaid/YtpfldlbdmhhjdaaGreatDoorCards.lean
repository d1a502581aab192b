/-
  DERIVED. GIVEN WITH THE SEED: THE CARDS: each row of YtpfldlbdmhhjdaaGreatDoorRows.lean that lists a variable, with what it lists TIED to the program's text (the seventh form; the later family's looks); each row that meets fmt, with fmt's text TOLD by the authors' own Lean function (tested against real Go, not proved from fmt's source: count such statements apart). THE CARD IS WHAT COUNTS. Prove the row's statement (the work); the ties are given (YtpfldlbdmhhjdaaGreatDoorTie.lean); close each card by the builder's one call (the guide's Derived/Test/ToyasCard.lean, 'card_holds'). Laid BY PROGRAM, IN A SANDBOX (cutbox-door.mjs). By AI agents, Wed Nov 11 2026. No macro, syntax, notation, axiom, sorry.
-/
import Derived.Test.YtpfldlbdmhhjdaaGreatDoorRows
import GoSem.ClaimSeven
namespace Go.Proofs.YtpfldlbdmhhjdaaGreatDoor
namespace Rows

/-- THE TIED CARD OF 'vernacularlaw29.PlaneParts'. -/
def planePartsCard : Claim7 := { stood := { row := planePartsRow, standIns := [], harness := (true, "4c6a8ba0d49dedfcfe79724885ecf5f109c3c038f1d49195bc217369467810ab"), looks := true }, kinds := [], alts := [], laidByText := true, laidKinds := [.data, .data, .data, .data, .sentinel, .sentinel, .listed, .data, .pinned], laidTests := true, laidLooks := .later }
def PlanePartsCardSaid : Prop := Claim7.holds Tryz.pinned (.plain (OpenSpec.ofChange planePartsSpec)) planePartsCard

/-- THE TIED CARD OF 'vernacularlaw29.PlaneMirrors'. -/
def planeMirrorsCard : Claim7 := { stood := { row := planeMirrorsRow, standIns := [], harness := (true, "4c6a8ba0d49dedfcfe79724885ecf5f109c3c038f1d49195bc217369467810ab"), looks := true }, kinds := [], alts := [], laidByText := true, laidKinds := [.data, .data, .data, .data, .sentinel, .sentinel, .listed, .data, .pinned], laidTests := true, laidLooks := .later }
def PlaneMirrorsCardSaid : Prop := Claim7.holds Tryz.pinned (.plain (OpenSpec.ofChange planeMirrorsSpec)) planeMirrorsCard

/-- THE SECOND FORM's CARD OF 'vernacularlaw29.PlaneParts'. -/
def planePartsUptoCard : Claim7 := { stood := { row := planePartsUptoRow, standIns := [], harness := (true, "4c6a8ba0d49dedfcfe79724885ecf5f109c3c038f1d49195bc217369467810ab"), looks := true }, kinds := [], alts := [], laidByText := true, laidKinds := [.data, .data, .data, .data, .sentinel, .sentinel, .listed, .data, .pinned], laidTests := true, laidLooks := .later }
def PlanePartsUptoCardSaid : Prop := Claim7.holds Tryz.pinned (.plain (OpenSpec.upto planePartsSpec)) planePartsUptoCard

/-- THE SECOND FORM's CARD OF 'vernacularlaw29.PlaneMirrors'. -/
def planeMirrorsUptoCard : Claim7 := { stood := { row := planeMirrorsUptoRow, standIns := [], harness := (true, "4c6a8ba0d49dedfcfe79724885ecf5f109c3c038f1d49195bc217369467810ab"), looks := true }, kinds := [], alts := [], laidByText := true, laidKinds := [.data, .data, .data, .data, .sentinel, .sentinel, .listed, .data, .pinned], laidTests := true, laidLooks := .later }
def PlaneMirrorsUptoCardSaid : Prop := Claim7.holds Tryz.pinned (.plain (OpenSpec.upto planeMirrorsSpec)) planeMirrorsUptoCard
end Rows
end Go.Proofs.YtpfldlbdmhhjdaaGreatDoor
