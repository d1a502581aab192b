/-
  DERIVED. GIVEN WITH THE SEED: THE CARDS: each row of YtcpajochmlgocaaGreatDoorRows.lean that lists a variable, with what it lists TIED to the program's text (the seventh form; the later family's looks); each row that meets fmt, with fmt's text TOLD by the authors' own Lean function (tested against real Go, not proved from fmt's source: count such statements apart). THE CARD IS WHAT COUNTS. Prove the row's statement (the work); the ties are given (YtcpajochmlgocaaGreatDoorTie.lean); close each card by the builder's one call (the guide's Derived/Test/ToyasCard.lean, 'card_holds'). Laid BY PROGRAM, IN A SANDBOX (cutbox-door.mjs). By AI agents, Wed Nov 11 2026. No macro, syntax, notation, axiom, sorry.
-/
import Derived.Test.YtcpajochmlgocaaGreatDoorRows
import GoSem.ClaimSeven
namespace Go.Proofs.YtcpajochmlgocaaGreatDoor
namespace Rows

/-- THE TIED CARD OF 'vernacularlaw24.MatchWays'. -/
def matchWaysCard : Claim7 := { stood := { row := matchWaysRow, standIns := [], harness := (true, "8bc863e52ceed55417166c3204d4f0cb098117bd7aaa03f8f3bfc9d3ac29f0c2"), looks := true }, kinds := [], alts := [], laidByText := true, laidKinds := [.data, .data, .data, .data, .sentinel, .sentinel, .pinned], laidTests := true, laidLooks := .later }
def MatchWaysCardSaid : Prop := Claim7.holds Tryz.pinned (.plain (OpenSpec.ofChange matchWaysSpec)) matchWaysCard

/-- THE TIED CARD OF 'vernacularlaw24.MatchNews'. -/
def matchNewsCard : Claim7 := { stood := { row := matchNewsRow, standIns := [], harness := (true, "8bc863e52ceed55417166c3204d4f0cb098117bd7aaa03f8f3bfc9d3ac29f0c2"), looks := true }, kinds := [], alts := [], laidByText := true, laidKinds := [.data, .data, .data, .data, .sentinel, .sentinel, .pinned], laidTests := true, laidLooks := .later }
def MatchNewsCardSaid : Prop := Claim7.holds Tryz.pinned (.plain (OpenSpec.ofChange matchNewsSpec)) matchNewsCard

/-- THE TIED CARD OF 'vernacularlaw24.MatchDistances'. -/
def matchDistancesCard : Claim7 := { stood := { row := matchDistancesRow, standIns := [], harness := (true, "8bc863e52ceed55417166c3204d4f0cb098117bd7aaa03f8f3bfc9d3ac29f0c2"), looks := true }, kinds := [], alts := [], laidByText := true, laidKinds := [.data, .data, .data, .data, .sentinel, .sentinel, .pinned], laidTests := true, laidLooks := .later }
def MatchDistancesCardSaid : Prop := Claim7.holds Tryz.pinned (.plain (OpenSpec.ofChange matchDistancesSpec)) matchDistancesCard

/-- THE TIED CARD OF 'vernacularlaw24.MatchRules'. -/
def matchRulesCard : Claim7 := { stood := { row := matchRulesRow, standIns := [], harness := (true, "8bc863e52ceed55417166c3204d4f0cb098117bd7aaa03f8f3bfc9d3ac29f0c2"), looks := true }, kinds := [], alts := [], laidByText := true, laidKinds := [.data, .data, .data, .data, .sentinel, .sentinel, .pinned], laidTests := true, laidLooks := .later }
def MatchRulesCardSaid : Prop := Claim7.holds Tryz.pinned (.plain (OpenSpec.ofChange matchRulesSpec)) matchRulesCard

/-- THE TIED CARD OF 'vernacularlaw24.MatchBests'. -/
def matchBestsCard : Claim7 := { stood := { row := matchBestsRow, standIns := [], harness := (true, "8bc863e52ceed55417166c3204d4f0cb098117bd7aaa03f8f3bfc9d3ac29f0c2"), looks := true }, kinds := [], alts := [], laidByText := true, laidKinds := [.data, .data, .data, .data, .sentinel, .sentinel, .pinned], laidTests := true, laidLooks := .later }
def MatchBestsCardSaid : Prop := Claim7.holds Tryz.pinned (.plain (OpenSpec.ofChange matchBestsSpec)) matchBestsCard

/-- THE TIED CARD OF 'vernacularlaw24.MatchOrders'. -/
def matchOrdersCard : Claim7 := { stood := { row := matchOrdersRow, standIns := [], harness := (true, "8bc863e52ceed55417166c3204d4f0cb098117bd7aaa03f8f3bfc9d3ac29f0c2"), looks := true }, kinds := [], alts := [], laidByText := true, laidKinds := [.data, .data, .data, .data, .sentinel, .sentinel, .pinned], laidTests := true, laidLooks := .later }
def MatchOrdersCardSaid : Prop := Claim7.holds Tryz.pinned (.plain (OpenSpec.ofChange matchOrdersSpec)) matchOrdersCard

/-- THE TIED CARD OF 'vernacularlaw24.MatchNone'. -/
def matchNoneCard : Claim7 := { stood := { row := matchNoneRow, standIns := [], harness := (true, "8bc863e52ceed55417166c3204d4f0cb098117bd7aaa03f8f3bfc9d3ac29f0c2"), looks := true }, kinds := [], alts := [], laidByText := true, laidKinds := [.data, .data, .data, .data, .sentinel, .sentinel, .pinned], laidTests := true, laidLooks := .later }
def MatchNoneCardSaid : Prop := Claim7.holds Tryz.pinned (.plain (OpenSpec.ofChange matchNoneSpec)) matchNoneCard

/-- THE SECOND FORM's CARD OF 'vernacularlaw24.MatchWays'. -/
def matchWaysUptoCard : Claim7 := { stood := { row := matchWaysUptoRow, standIns := [], harness := (true, "8bc863e52ceed55417166c3204d4f0cb098117bd7aaa03f8f3bfc9d3ac29f0c2"), looks := true }, kinds := [], alts := [], laidByText := true, laidKinds := [.data, .data, .data, .data, .sentinel, .sentinel, .pinned], laidTests := true, laidLooks := .later }
def MatchWaysUptoCardSaid : Prop := Claim7.holds Tryz.pinned (.plain (OpenSpec.upto matchWaysSpec)) matchWaysUptoCard

/-- THE SECOND FORM's CARD OF 'vernacularlaw24.MatchNews'. -/
def matchNewsUptoCard : Claim7 := { stood := { row := matchNewsUptoRow, standIns := [], harness := (true, "8bc863e52ceed55417166c3204d4f0cb098117bd7aaa03f8f3bfc9d3ac29f0c2"), looks := true }, kinds := [], alts := [], laidByText := true, laidKinds := [.data, .data, .data, .data, .sentinel, .sentinel, .pinned], laidTests := true, laidLooks := .later }
def MatchNewsUptoCardSaid : Prop := Claim7.holds Tryz.pinned (.plain (OpenSpec.upto matchNewsSpec)) matchNewsUptoCard

/-- THE SECOND FORM's CARD OF 'vernacularlaw24.MatchDistances'. -/
def matchDistancesUptoCard : Claim7 := { stood := { row := matchDistancesUptoRow, standIns := [], harness := (true, "8bc863e52ceed55417166c3204d4f0cb098117bd7aaa03f8f3bfc9d3ac29f0c2"), looks := true }, kinds := [], alts := [], laidByText := true, laidKinds := [.data, .data, .data, .data, .sentinel, .sentinel, .pinned], laidTests := true, laidLooks := .later }
def MatchDistancesUptoCardSaid : Prop := Claim7.holds Tryz.pinned (.plain (OpenSpec.upto matchDistancesSpec)) matchDistancesUptoCard

/-- THE SECOND FORM's CARD OF 'vernacularlaw24.MatchRules'. -/
def matchRulesUptoCard : Claim7 := { stood := { row := matchRulesUptoRow, standIns := [], harness := (true, "8bc863e52ceed55417166c3204d4f0cb098117bd7aaa03f8f3bfc9d3ac29f0c2"), looks := true }, kinds := [], alts := [], laidByText := true, laidKinds := [.data, .data, .data, .data, .sentinel, .sentinel, .pinned], laidTests := true, laidLooks := .later }
def MatchRulesUptoCardSaid : Prop := Claim7.holds Tryz.pinned (.plain (OpenSpec.upto matchRulesSpec)) matchRulesUptoCard

/-- THE SECOND FORM's CARD OF 'vernacularlaw24.MatchBests'. -/
def matchBestsUptoCard : Claim7 := { stood := { row := matchBestsUptoRow, standIns := [], harness := (true, "8bc863e52ceed55417166c3204d4f0cb098117bd7aaa03f8f3bfc9d3ac29f0c2"), looks := true }, kinds := [], alts := [], laidByText := true, laidKinds := [.data, .data, .data, .data, .sentinel, .sentinel, .pinned], laidTests := true, laidLooks := .later }
def MatchBestsUptoCardSaid : Prop := Claim7.holds Tryz.pinned (.plain (OpenSpec.upto matchBestsSpec)) matchBestsUptoCard

/-- THE SECOND FORM's CARD OF 'vernacularlaw24.MatchOrders'. -/
def matchOrdersUptoCard : Claim7 := { stood := { row := matchOrdersUptoRow, standIns := [], harness := (true, "8bc863e52ceed55417166c3204d4f0cb098117bd7aaa03f8f3bfc9d3ac29f0c2"), looks := true }, kinds := [], alts := [], laidByText := true, laidKinds := [.data, .data, .data, .data, .sentinel, .sentinel, .pinned], laidTests := true, laidLooks := .later }
def MatchOrdersUptoCardSaid : Prop := Claim7.holds Tryz.pinned (.plain (OpenSpec.upto matchOrdersSpec)) matchOrdersUptoCard

/-- THE SECOND FORM's CARD OF 'vernacularlaw24.MatchNone'. -/
def matchNoneUptoCard : Claim7 := { stood := { row := matchNoneUptoRow, standIns := [], harness := (true, "8bc863e52ceed55417166c3204d4f0cb098117bd7aaa03f8f3bfc9d3ac29f0c2"), looks := true }, kinds := [], alts := [], laidByText := true, laidKinds := [.data, .data, .data, .data, .sentinel, .sentinel, .pinned], laidTests := true, laidLooks := .later }
def MatchNoneUptoCardSaid : Prop := Claim7.holds Tryz.pinned (.plain (OpenSpec.upto matchNoneSpec)) matchNoneUptoCard
end Rows
end Go.Proofs.YtcpajochmlgocaaGreatDoor
