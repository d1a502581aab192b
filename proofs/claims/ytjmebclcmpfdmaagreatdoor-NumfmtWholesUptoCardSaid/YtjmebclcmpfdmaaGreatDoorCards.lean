/-
  DERIVED. GIVEN WITH THE SEED: THE CARDS: each row of YtjmebclcmpfdmaaGreatDoorRows.lean that lists a variable, with what it lists TIED to the program's text (the seventh form; the later family's looks); each row that meets fmt, with fmt's text TOLD by the authors' own Lean function (tested against real Go, not proved from fmt's source: count such statements apart). THE CARD IS WHAT COUNTS. Prove the row's statement (the work); the ties are given (YtjmebclcmpfdmaaGreatDoorTie.lean); close each card by the builder's one call (the guide's Derived/Test/ToyasCard.lean, 'card_holds'). Laid BY PROGRAM, IN A SANDBOX (cutbox-door.mjs). By AI agents, Wed Nov 11 2026. No macro, syntax, notation, axiom, sorry.
-/
import Derived.Test.YtjmebclcmpfdmaaGreatDoorRows
import GoSem.ClaimSeven
namespace Go.Proofs.YtjmebclcmpfdmaaGreatDoor
namespace Rows

/-- THE TIED CARD OF 'vernacularlaw25.NumfmtAlike'. -/
def numfmtAlikeCard : Claim7 := { stood := { row := numfmtAlikeRow, standIns := [], harness := (true, "b3b5c7a59a361f337c517f9df71442e363fb7217566e80d75132ec9fba41c859"), looks := true }, kinds := [], alts := [], laidByText := true, laidKinds := [.data, .data, .data, .data, .sentinel, .sentinel, .listed, .data, .pinned], laidTests := true, laidLooks := .later }
def NumfmtAlikeCardSaid : Prop := Claim7.holds Tryz.pinned (.plain (OpenSpec.ofChange numfmtAlikeSpec)) numfmtAlikeCard

/-- THE TIED CARD OF 'vernacularlaw25.NumfmtWholes'. -/
def numfmtWholesCard : Claim7 := { stood := { row := numfmtWholesRow, standIns := [], harness := (true, "b3b5c7a59a361f337c517f9df71442e363fb7217566e80d75132ec9fba41c859"), looks := true }, kinds := [], alts := [], laidByText := true, laidKinds := [.data, .data, .data, .data, .sentinel, .sentinel, .listed, .data, .pinned], laidTests := true, laidLooks := .later }
def NumfmtWholesCardSaid : Prop := Claim7.holds Tryz.pinned (.plain (OpenSpec.ofChange numfmtWholesSpec)) numfmtWholesCard

/-- THE TIED CARD OF 'vernacularlaw25.NumfmtCounts'. -/
def numfmtCountsCard : Claim7 := { stood := { row := numfmtCountsRow, standIns := [], harness := (true, "b3b5c7a59a361f337c517f9df71442e363fb7217566e80d75132ec9fba41c859"), looks := true }, kinds := [], alts := [], laidByText := true, laidKinds := [.data, .data, .data, .data, .sentinel, .sentinel, .listed, .data, .pinned], laidTests := true, laidLooks := .later }
def NumfmtCountsCardSaid : Prop := Claim7.holds Tryz.pinned (.plain (OpenSpec.ofChange numfmtCountsSpec)) numfmtCountsCard

/-- THE TIED CARD OF 'vernacularlaw25.NumfmtBack'. -/
def numfmtBackCard : Claim7 := { stood := { row := numfmtBackRow, standIns := [], harness := (true, "b3b5c7a59a361f337c517f9df71442e363fb7217566e80d75132ec9fba41c859"), looks := true }, kinds := [], alts := [], laidByText := true, laidKinds := [.data, .data, .data, .data, .sentinel, .sentinel, .listed, .data, .pinned], laidTests := true, laidLooks := .later }
def NumfmtBackCardSaid : Prop := Claim7.holds Tryz.pinned (.plain (OpenSpec.ofChange numfmtBackSpec)) numfmtBackCard

/-- THE SECOND FORM's CARD OF 'vernacularlaw25.NumfmtAlike'. -/
def numfmtAlikeUptoCard : Claim7 := { stood := { row := numfmtAlikeUptoRow, standIns := [], harness := (true, "b3b5c7a59a361f337c517f9df71442e363fb7217566e80d75132ec9fba41c859"), looks := true }, kinds := [], alts := [], laidByText := true, laidKinds := [.data, .data, .data, .data, .sentinel, .sentinel, .listed, .data, .pinned], laidTests := true, laidLooks := .later }
def NumfmtAlikeUptoCardSaid : Prop := Claim7.holds Tryz.pinned (.plain (OpenSpec.upto numfmtAlikeSpec)) numfmtAlikeUptoCard

/-- THE SECOND FORM's CARD OF 'vernacularlaw25.NumfmtWholes'. -/
def numfmtWholesUptoCard : Claim7 := { stood := { row := numfmtWholesUptoRow, standIns := [], harness := (true, "b3b5c7a59a361f337c517f9df71442e363fb7217566e80d75132ec9fba41c859"), looks := true }, kinds := [], alts := [], laidByText := true, laidKinds := [.data, .data, .data, .data, .sentinel, .sentinel, .listed, .data, .pinned], laidTests := true, laidLooks := .later }
def NumfmtWholesUptoCardSaid : Prop := Claim7.holds Tryz.pinned (.plain (OpenSpec.upto numfmtWholesSpec)) numfmtWholesUptoCard

/-- THE SECOND FORM's CARD OF 'vernacularlaw25.NumfmtCounts'. -/
def numfmtCountsUptoCard : Claim7 := { stood := { row := numfmtCountsUptoRow, standIns := [], harness := (true, "b3b5c7a59a361f337c517f9df71442e363fb7217566e80d75132ec9fba41c859"), looks := true }, kinds := [], alts := [], laidByText := true, laidKinds := [.data, .data, .data, .data, .sentinel, .sentinel, .listed, .data, .pinned], laidTests := true, laidLooks := .later }
def NumfmtCountsUptoCardSaid : Prop := Claim7.holds Tryz.pinned (.plain (OpenSpec.upto numfmtCountsSpec)) numfmtCountsUptoCard

/-- THE SECOND FORM's CARD OF 'vernacularlaw25.NumfmtBack'. -/
def numfmtBackUptoCard : Claim7 := { stood := { row := numfmtBackUptoRow, standIns := [], harness := (true, "b3b5c7a59a361f337c517f9df71442e363fb7217566e80d75132ec9fba41c859"), looks := true }, kinds := [], alts := [], laidByText := true, laidKinds := [.data, .data, .data, .data, .sentinel, .sentinel, .listed, .data, .pinned], laidTests := true, laidLooks := .later }
def NumfmtBackUptoCardSaid : Prop := Claim7.holds Tryz.pinned (.plain (OpenSpec.upto numfmtBackSpec)) numfmtBackUptoCard
end Rows
end Go.Proofs.YtjmebclcmpfdmaaGreatDoor
