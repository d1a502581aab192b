/-
  DERIVED. GIVEN WITH THE SEED: THE CARDS: each row of YtbgcngkofbelmaaDoorRows.lean that lists a variable, with what it lists TIED to the program's text (the seventh form; the later family's looks); each row that meets fmt, with fmt's text TOLD by the authors' own Lean function (tested against real Go, not proved from fmt's source: count such statements apart). THE CARD IS WHAT COUNTS. Prove the row's statement (the work); the ties are given (YtbgcngkofbelmaaDoorTie.lean); close each card by the builder's one call (the guide's Derived/Test/ToyasCard.lean, 'card_holds'). Laid BY PROGRAM, IN A SANDBOX (cutbox-door.mjs). By AI agents, Wed Nov 11 2026. No macro, syntax, notation, axiom, sorry.
-/
import Derived.Test.YtbgcngkofbelmaaDoorRows
import GoSem.ClaimSeven
namespace Go.Proofs.YtbgcngkofbelmaaDoor
namespace Rows

/-- THE TIED CARD OF 'vernacularlaw18.PhraseParses'. -/
def phraseParsesCard : Claim7 := { stood := { row := phraseParsesRow, standIns := [], harness := (true, "4d4728afcbab9e8c137c422fb8407255c3641dfdb034974b41d86fb838ffd353"), looks := true }, kinds := [], alts := [], laidByText := true, laidKinds := [.data, .data, .data, .sentinel, .sentinel], laidTests := true, laidLooks := .later }
def PhraseParsesCardSaid : Prop := Claim7.holds Tryd.pinned (.plain (OpenSpec.ofChange phraseParsesSpec)) phraseParsesCard

/-- THE TIED CARD OF 'vernacularlaw18.PhraseOnce'. -/
def phraseOnceCard : Claim7 := { stood := { row := phraseOnceRow, standIns := [], harness := (true, "4d4728afcbab9e8c137c422fb8407255c3641dfdb034974b41d86fb838ffd353"), looks := true }, kinds := [], alts := [], laidByText := true, laidKinds := [.data, .data, .data, .sentinel, .sentinel], laidTests := true, laidLooks := .later }
def PhraseOnceCardSaid : Prop := Claim7.holds Tryd.pinned (.plain (OpenSpec.ofChange phraseOnceSpec)) phraseOnceCard

/-- THE TIED CARD OF 'vernacularlaw18.PhraseSelf'. -/
def phraseSelfCard : Claim7 := { stood := { row := phraseSelfRow, standIns := [], harness := (true, "4d4728afcbab9e8c137c422fb8407255c3641dfdb034974b41d86fb838ffd353"), looks := true }, kinds := [], alts := [], laidByText := true, laidKinds := [.data, .data, .data, .sentinel, .sentinel], laidTests := true, laidLooks := .later }
def PhraseSelfCardSaid : Prop := Claim7.holds Tryd.pinned (.plain (OpenSpec.ofChange phraseSelfSpec)) phraseSelfCard

/-- THE TIED CARD OF 'vernacularlaw18.PhrasePlaces'. -/
def phrasePlacesCard : Claim7 := { stood := { row := phrasePlacesRow, standIns := [], harness := (true, "4d4728afcbab9e8c137c422fb8407255c3641dfdb034974b41d86fb838ffd353"), looks := true }, kinds := [], alts := [], laidByText := true, laidKinds := [.data, .data, .data, .sentinel, .sentinel], laidTests := true, laidLooks := .later }
def PhrasePlacesCardSaid : Prop := Claim7.holds Tryd.pinned (.plain (OpenSpec.ofChange phrasePlacesSpec)) phrasePlacesCard

/-- THE TIED CARD OF 'vernacularlaw18.PhraseBack'. -/
def phraseBackCard : Claim7 := { stood := { row := phraseBackRow, standIns := [], harness := (true, "4d4728afcbab9e8c137c422fb8407255c3641dfdb034974b41d86fb838ffd353"), looks := true }, kinds := [], alts := [], laidByText := true, laidKinds := [.data, .data, .data, .sentinel, .sentinel], laidTests := true, laidLooks := .later }
def PhraseBackCardSaid : Prop := Claim7.holds Tryd.pinned (.plain (OpenSpec.ofChange phraseBackSpec)) phraseBackCard

/-- THE TIED CARD OF 'vernacularlaw18.PhraseFills'. -/
def phraseFillsCard : Claim7 := { stood := { row := phraseFillsRow, standIns := [], harness := (true, "4d4728afcbab9e8c137c422fb8407255c3641dfdb034974b41d86fb838ffd353"), looks := true }, kinds := [], alts := [], laidByText := true, laidKinds := [.data, .data, .data, .sentinel, .sentinel], laidTests := true, laidLooks := .later }
def PhraseFillsCardSaid : Prop := Claim7.holds Tryd.pinned (.plain (OpenSpec.ofChange phraseFillsSpec)) phraseFillsCard

/-- THE TIED CARD OF 'vernacularlaw18.PhraseLays'. -/
def phraseLaysCard : Claim7 := { stood := { row := phraseLaysRow, standIns := [], harness := (true, "4d4728afcbab9e8c137c422fb8407255c3641dfdb034974b41d86fb838ffd353"), looks := true }, kinds := [], alts := [], laidByText := true, laidKinds := [.data, .data, .data, .sentinel, .sentinel], laidTests := true, laidLooks := .later }
def PhraseLaysCardSaid : Prop := Claim7.holds Tryd.pinned (.plain (OpenSpec.ofChange phraseLaysSpec)) phraseLaysCard

/-- THE TIED CARD OF 'vernacularlaw18.PhrasePrints'. -/
def phrasePrintsCard : Claim7 := { stood := { row := phrasePrintsRow, standIns := [], harness := (true, "4d4728afcbab9e8c137c422fb8407255c3641dfdb034974b41d86fb838ffd353"), looks := true }, kinds := [], alts := [], laidByText := true, laidKinds := [.data, .data, .data, .sentinel, .sentinel], laidTests := true, laidLooks := .later }
def PhrasePrintsCardSaid : Prop := Claim7.holds Tryd.pinned (.plain (OpenSpec.ofChange phrasePrintsSpec)) phrasePrintsCard

/-- THE SECOND FORM's CARD OF 'vernacularlaw18.PhraseParses'. -/
def phraseParsesUptoCard : Claim7 := { stood := { row := phraseParsesUptoRow, standIns := [], harness := (true, "4d4728afcbab9e8c137c422fb8407255c3641dfdb034974b41d86fb838ffd353"), looks := true }, kinds := [], alts := [], laidByText := true, laidKinds := [.data, .data, .data, .sentinel, .sentinel], laidTests := true, laidLooks := .later }
def PhraseParsesUptoCardSaid : Prop := Claim7.holds Tryd.pinned (.plain (OpenSpec.upto phraseParsesSpec)) phraseParsesUptoCard

/-- THE SECOND FORM's CARD OF 'vernacularlaw18.PhraseOnce'. -/
def phraseOnceUptoCard : Claim7 := { stood := { row := phraseOnceUptoRow, standIns := [], harness := (true, "4d4728afcbab9e8c137c422fb8407255c3641dfdb034974b41d86fb838ffd353"), looks := true }, kinds := [], alts := [], laidByText := true, laidKinds := [.data, .data, .data, .sentinel, .sentinel], laidTests := true, laidLooks := .later }
def PhraseOnceUptoCardSaid : Prop := Claim7.holds Tryd.pinned (.plain (OpenSpec.upto phraseOnceSpec)) phraseOnceUptoCard

/-- THE SECOND FORM's CARD OF 'vernacularlaw18.PhraseSelf'. -/
def phraseSelfUptoCard : Claim7 := { stood := { row := phraseSelfUptoRow, standIns := [], harness := (true, "4d4728afcbab9e8c137c422fb8407255c3641dfdb034974b41d86fb838ffd353"), looks := true }, kinds := [], alts := [], laidByText := true, laidKinds := [.data, .data, .data, .sentinel, .sentinel], laidTests := true, laidLooks := .later }
def PhraseSelfUptoCardSaid : Prop := Claim7.holds Tryd.pinned (.plain (OpenSpec.upto phraseSelfSpec)) phraseSelfUptoCard

/-- THE SECOND FORM's CARD OF 'vernacularlaw18.PhrasePlaces'. -/
def phrasePlacesUptoCard : Claim7 := { stood := { row := phrasePlacesUptoRow, standIns := [], harness := (true, "4d4728afcbab9e8c137c422fb8407255c3641dfdb034974b41d86fb838ffd353"), looks := true }, kinds := [], alts := [], laidByText := true, laidKinds := [.data, .data, .data, .sentinel, .sentinel], laidTests := true, laidLooks := .later }
def PhrasePlacesUptoCardSaid : Prop := Claim7.holds Tryd.pinned (.plain (OpenSpec.upto phrasePlacesSpec)) phrasePlacesUptoCard

/-- THE SECOND FORM's CARD OF 'vernacularlaw18.PhraseBack'. -/
def phraseBackUptoCard : Claim7 := { stood := { row := phraseBackUptoRow, standIns := [], harness := (true, "4d4728afcbab9e8c137c422fb8407255c3641dfdb034974b41d86fb838ffd353"), looks := true }, kinds := [], alts := [], laidByText := true, laidKinds := [.data, .data, .data, .sentinel, .sentinel], laidTests := true, laidLooks := .later }
def PhraseBackUptoCardSaid : Prop := Claim7.holds Tryd.pinned (.plain (OpenSpec.upto phraseBackSpec)) phraseBackUptoCard

/-- THE SECOND FORM's CARD OF 'vernacularlaw18.PhraseFills'. -/
def phraseFillsUptoCard : Claim7 := { stood := { row := phraseFillsUptoRow, standIns := [], harness := (true, "4d4728afcbab9e8c137c422fb8407255c3641dfdb034974b41d86fb838ffd353"), looks := true }, kinds := [], alts := [], laidByText := true, laidKinds := [.data, .data, .data, .sentinel, .sentinel], laidTests := true, laidLooks := .later }
def PhraseFillsUptoCardSaid : Prop := Claim7.holds Tryd.pinned (.plain (OpenSpec.upto phraseFillsSpec)) phraseFillsUptoCard

/-- THE SECOND FORM's CARD OF 'vernacularlaw18.PhraseLays'. -/
def phraseLaysUptoCard : Claim7 := { stood := { row := phraseLaysUptoRow, standIns := [], harness := (true, "4d4728afcbab9e8c137c422fb8407255c3641dfdb034974b41d86fb838ffd353"), looks := true }, kinds := [], alts := [], laidByText := true, laidKinds := [.data, .data, .data, .sentinel, .sentinel], laidTests := true, laidLooks := .later }
def PhraseLaysUptoCardSaid : Prop := Claim7.holds Tryd.pinned (.plain (OpenSpec.upto phraseLaysSpec)) phraseLaysUptoCard

/-- THE SECOND FORM's CARD OF 'vernacularlaw18.PhrasePrints'. -/
def phrasePrintsUptoCard : Claim7 := { stood := { row := phrasePrintsUptoRow, standIns := [], harness := (true, "4d4728afcbab9e8c137c422fb8407255c3641dfdb034974b41d86fb838ffd353"), looks := true }, kinds := [], alts := [], laidByText := true, laidKinds := [.data, .data, .data, .sentinel, .sentinel], laidTests := true, laidLooks := .later }
def PhrasePrintsUptoCardSaid : Prop := Claim7.holds Tryd.pinned (.plain (OpenSpec.upto phrasePrintsSpec)) phrasePrintsUptoCard
end Rows
end Go.Proofs.YtbgcngkofbelmaaDoor
