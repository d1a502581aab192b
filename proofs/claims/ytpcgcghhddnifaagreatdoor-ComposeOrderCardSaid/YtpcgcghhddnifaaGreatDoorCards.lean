/-
  DERIVED. GIVEN WITH THE SEED: THE CARDS: each row of YtpcgcghhddnifaaGreatDoorRows.lean that lists a variable, with what it lists TIED to the program's text (the seventh form; the later family's looks); each row that meets fmt, with fmt's text TOLD by the authors' own Lean function (tested against real Go, not proved from fmt's source: count such statements apart). THE CARD IS WHAT COUNTS. Prove the row's statement (the work); the ties are given (YtpcgcghhddnifaaGreatDoorTie.lean); close each card by the builder's one call (the guide's Derived/Test/ToyasCard.lean, 'card_holds'). Laid BY PROGRAM, IN A SANDBOX (cutbox-door.mjs). By AI agents, Wed Nov 11 2026. No macro, syntax, notation, axiom, sorry.
-/
import Derived.Test.YtpcgcghhddnifaaGreatDoorRows
import GoSem.ClaimSeven
namespace Go.Proofs.YtpcgcghhddnifaaGreatDoor
namespace Rows

/-- THE TIED CARD OF 'vernacularlaw28.ComposeLists'. -/
def composeListsCard : Claim7 := { stood := { row := composeListsRow, standIns := [], harness := (true, "7fb94a1763f417fac221c3ea1e308894f47ddc5790761bc7c46f9bf6f9a1c1d8"), looks := true }, kinds := [], alts := [], laidByText := true, laidKinds := [.data, .data, .data, .data, .sentinel, .sentinel, .listed, .data, .pinned], laidTests := true, laidLooks := .later }
def ComposeListsCardSaid : Prop := Claim7.holds Tryz.pinned (.plain (OpenSpec.ofChange composeListsSpec)) composeListsCard

/-- THE TIED CARD OF 'vernacularlaw28.ComposeHolds'. -/
def composeHoldsCard : Claim7 := { stood := { row := composeHoldsRow, standIns := [], harness := (true, "7fb94a1763f417fac221c3ea1e308894f47ddc5790761bc7c46f9bf6f9a1c1d8"), looks := true }, kinds := [], alts := [], laidByText := true, laidKinds := [.data, .data, .data, .data, .sentinel, .sentinel, .listed, .data, .pinned], laidTests := true, laidLooks := .later }
def ComposeHoldsCardSaid : Prop := Claim7.holds Tryz.pinned (.plain (OpenSpec.ofChange composeHoldsSpec)) composeHoldsCard

/-- THE TIED CARD OF 'vernacularlaw28.ComposeOrder'. -/
def composeOrderCard : Claim7 := { stood := { row := composeOrderRow, standIns := [], harness := (true, "7fb94a1763f417fac221c3ea1e308894f47ddc5790761bc7c46f9bf6f9a1c1d8"), looks := true }, kinds := [], alts := [], laidByText := true, laidKinds := [.data, .data, .data, .data, .sentinel, .sentinel, .listed, .data, .pinned], laidTests := true, laidLooks := .later }
def ComposeOrderCardSaid : Prop := Claim7.holds Tryz.pinned (.plain (OpenSpec.ofChange composeOrderSpec)) composeOrderCard

/-- THE TIED CARD OF 'vernacularlaw28.ComposeStyles'. -/
def composeStylesCard : Claim7 := { stood := { row := composeStylesRow, standIns := [], harness := (true, "7fb94a1763f417fac221c3ea1e308894f47ddc5790761bc7c46f9bf6f9a1c1d8"), looks := true }, kinds := [], alts := [], laidByText := true, laidKinds := [.data, .data, .data, .data, .sentinel, .sentinel, .listed, .data, .pinned], laidTests := true, laidLooks := .later }
def ComposeStylesCardSaid : Prop := Claim7.holds Tryz.pinned (.plain (OpenSpec.ofChange composeStylesSpec)) composeStylesCard

/-- THE TIED CARD OF 'vernacularlaw28.ComposeNone'. -/
def composeNoneCard : Claim7 := { stood := { row := composeNoneRow, standIns := [], harness := (true, "7fb94a1763f417fac221c3ea1e308894f47ddc5790761bc7c46f9bf6f9a1c1d8"), looks := true }, kinds := [], alts := [], laidByText := true, laidKinds := [.data, .data, .data, .data, .sentinel, .sentinel, .listed, .data, .pinned], laidTests := true, laidLooks := .later }
def ComposeNoneCardSaid : Prop := Claim7.holds Tryz.pinned (.plain (OpenSpec.ofChange composeNoneSpec)) composeNoneCard

/-- THE SECOND FORM's CARD OF 'vernacularlaw28.ComposeLists'. -/
def composeListsUptoCard : Claim7 := { stood := { row := composeListsUptoRow, standIns := [], harness := (true, "7fb94a1763f417fac221c3ea1e308894f47ddc5790761bc7c46f9bf6f9a1c1d8"), looks := true }, kinds := [], alts := [], laidByText := true, laidKinds := [.data, .data, .data, .data, .sentinel, .sentinel, .listed, .data, .pinned], laidTests := true, laidLooks := .later }
def ComposeListsUptoCardSaid : Prop := Claim7.holds Tryz.pinned (.plain (OpenSpec.upto composeListsSpec)) composeListsUptoCard

/-- THE SECOND FORM's CARD OF 'vernacularlaw28.ComposeHolds'. -/
def composeHoldsUptoCard : Claim7 := { stood := { row := composeHoldsUptoRow, standIns := [], harness := (true, "7fb94a1763f417fac221c3ea1e308894f47ddc5790761bc7c46f9bf6f9a1c1d8"), looks := true }, kinds := [], alts := [], laidByText := true, laidKinds := [.data, .data, .data, .data, .sentinel, .sentinel, .listed, .data, .pinned], laidTests := true, laidLooks := .later }
def ComposeHoldsUptoCardSaid : Prop := Claim7.holds Tryz.pinned (.plain (OpenSpec.upto composeHoldsSpec)) composeHoldsUptoCard

/-- THE SECOND FORM's CARD OF 'vernacularlaw28.ComposeOrder'. -/
def composeOrderUptoCard : Claim7 := { stood := { row := composeOrderUptoRow, standIns := [], harness := (true, "7fb94a1763f417fac221c3ea1e308894f47ddc5790761bc7c46f9bf6f9a1c1d8"), looks := true }, kinds := [], alts := [], laidByText := true, laidKinds := [.data, .data, .data, .data, .sentinel, .sentinel, .listed, .data, .pinned], laidTests := true, laidLooks := .later }
def ComposeOrderUptoCardSaid : Prop := Claim7.holds Tryz.pinned (.plain (OpenSpec.upto composeOrderSpec)) composeOrderUptoCard

/-- THE SECOND FORM's CARD OF 'vernacularlaw28.ComposeStyles'. -/
def composeStylesUptoCard : Claim7 := { stood := { row := composeStylesUptoRow, standIns := [], harness := (true, "7fb94a1763f417fac221c3ea1e308894f47ddc5790761bc7c46f9bf6f9a1c1d8"), looks := true }, kinds := [], alts := [], laidByText := true, laidKinds := [.data, .data, .data, .data, .sentinel, .sentinel, .listed, .data, .pinned], laidTests := true, laidLooks := .later }
def ComposeStylesUptoCardSaid : Prop := Claim7.holds Tryz.pinned (.plain (OpenSpec.upto composeStylesSpec)) composeStylesUptoCard

/-- THE SECOND FORM's CARD OF 'vernacularlaw28.ComposeNone'. -/
def composeNoneUptoCard : Claim7 := { stood := { row := composeNoneUptoRow, standIns := [], harness := (true, "7fb94a1763f417fac221c3ea1e308894f47ddc5790761bc7c46f9bf6f9a1c1d8"), looks := true }, kinds := [], alts := [], laidByText := true, laidKinds := [.data, .data, .data, .data, .sentinel, .sentinel, .listed, .data, .pinned], laidTests := true, laidLooks := .later }
def ComposeNoneUptoCardSaid : Prop := Claim7.holds Tryz.pinned (.plain (OpenSpec.upto composeNoneSpec)) composeNoneUptoCard
end Rows
end Go.Proofs.YtpcgcghhddnifaaGreatDoor
