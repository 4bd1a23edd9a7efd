/-
  DERIVED. GIVEN WITH THE SEED: THE CARDS: each row of YtbiildmljbcmeaaDoorRows.lean that lists a variable, with what it lists TIED to the program's text (the seventh form; the later family's looks); each row that meets fmt, with fmt's text TOLD by the authors' own Lean function (tested against real Go, not proved from fmt's source: count such statements apart). THE CARD IS WHAT COUNTS. Prove the row's statement (the work); the ties are given (YtbiildmljbcmeaaDoorTie.lean); close each card by the builder's one call (the guide's Derived/Test/ToyasCard.lean, 'card_holds'). Laid BY PROGRAM, IN A SANDBOX (cutbox-door.mjs). By AI agents, Wed Nov 11 2026. No macro, syntax, notation, axiom, sorry.
-/
import Derived.Test.YtbiildmljbcmeaaDoorRows
import GoSem.ClaimSeven
namespace Go.Proofs.YtbiildmljbcmeaaDoor
namespace Rows

/-- THE TIED CARD OF 'vidimuslaw13.AlgorithmsOf'. -/
def algorithmsOfCard : Claim7 := { stood := { row := algorithmsOfRow, standIns := [], harness := (true, "5e73499ebe5cbc9f8734e274381ae838934d926738eb2f8882a9b773cb544c19"), looks := true }, kinds := [], alts := [], laidByText := true, laidKinds := [.data, .data], laidTests := true, laidLooks := .later }
def AlgorithmsOfCardSaid : Prop := Claim7.holds Tryd.pinned (.plain (OpenSpec.ofChange algorithmsOfSpec)) algorithmsOfCard

/-- THE TIED CARD OF 'vidimuslaw13.AlgorithmsErrors'. -/
def algorithmsErrorsCard : Claim7 := { stood := { row := algorithmsErrorsRow, standIns := [], harness := (true, "5e73499ebe5cbc9f8734e274381ae838934d926738eb2f8882a9b773cb544c19"), looks := true }, kinds := [], alts := [], laidByText := true, laidKinds := [.data, .data], laidTests := true, laidLooks := .later }
def AlgorithmsErrorsCardSaid : Prop := Claim7.holds Tryd.pinned (.plain (OpenSpec.ofChange algorithmsErrorsSpec)) algorithmsErrorsCard

/-- THE TIED CARD OF 'vidimuslaw13.AlgorithmsSame'. -/
def algorithmsSameCard : Claim7 := { stood := { row := algorithmsSameRow, standIns := [], harness := (true, "5e73499ebe5cbc9f8734e274381ae838934d926738eb2f8882a9b773cb544c19"), looks := true }, kinds := [], alts := [], laidByText := true, laidKinds := [.data, .data], laidTests := true, laidLooks := .later }
def AlgorithmsSameCardSaid : Prop := Claim7.holds Tryd.pinned (.plain (OpenSpec.ofChange algorithmsSameSpec)) algorithmsSameCard

/-- THE TIED CARD OF 'vidimuslaw13.AlgorithmsKeys'. -/
def algorithmsKeysCard : Claim7 := { stood := { row := algorithmsKeysRow, standIns := [], harness := (true, "5e73499ebe5cbc9f8734e274381ae838934d926738eb2f8882a9b773cb544c19"), looks := true }, kinds := [], alts := [], laidByText := true, laidKinds := [.data, .data, .data], laidTests := true, laidLooks := .later }
def AlgorithmsKeysCardSaid : Prop := Claim7.holds Tryd.pinned (.plain (OpenSpec.ofChange algorithmsKeysSpec)) algorithmsKeysCard

/-- THE TIED CARD OF 'vidimuslaw13.AlgorithmsBack'. -/
def algorithmsBackCard : Claim7 := { stood := { row := algorithmsBackRow, standIns := [], harness := (true, "5e73499ebe5cbc9f8734e274381ae838934d926738eb2f8882a9b773cb544c19"), looks := true }, kinds := [], alts := [], laidByText := true, laidKinds := [.data, .data, .data], laidTests := true, laidLooks := .later }
def AlgorithmsBackCardSaid : Prop := Claim7.holds Tryd.pinned (.plain (OpenSpec.ofChange algorithmsBackSpec)) algorithmsBackCard

/-- THE TIED CARD OF 'vidimuslaw13.AlgorithmsKnown'. -/
def algorithmsKnownCard : Claim7 := { stood := { row := algorithmsKnownRow, standIns := [], harness := (true, "5e73499ebe5cbc9f8734e274381ae838934d926738eb2f8882a9b773cb544c19"), looks := true }, kinds := [], alts := [], laidByText := true, laidKinds := [.data, .data, .data], laidTests := true, laidLooks := .later }
def AlgorithmsKnownCardSaid : Prop := Claim7.holds Tryd.pinned (.plain (OpenSpec.ofChange algorithmsKnownSpec)) algorithmsKnownCard

/-- THE TIED CARD OF 'vidimuslaw19.ConstraintsOf'. -/
def constraintsOfCard : Claim7 := { stood := { row := constraintsOfRow, standIns := [], harness := (true, "5e73499ebe5cbc9f8734e274381ae838934d926738eb2f8882a9b773cb544c19"), looks := true }, kinds := [], alts := [], laidByText := true, laidKinds := [.data, .data], laidTests := true, laidLooks := .later }
def ConstraintsOfCardSaid : Prop := Claim7.holds Tryd.pinned (.plain (OpenSpec.ofChange constraintsOfSpec)) constraintsOfCard

/-- THE TIED CARD OF 'vidimuslaw19.ConstraintsGet'. -/
def constraintsGetCard : Claim7 := { stood := { row := constraintsGetRow, standIns := [], harness := (true, "5e73499ebe5cbc9f8734e274381ae838934d926738eb2f8882a9b773cb544c19"), looks := true }, kinds := [], alts := [], laidByText := true, laidKinds := [.data, .data], laidTests := true, laidLooks := .later }
def ConstraintsGetCardSaid : Prop := Claim7.holds Tryd.pinned (.plain (OpenSpec.ofChange constraintsGetSpec)) constraintsGetCard

/-- THE TIED CARD OF 'vidimuslaw18.MappingsGet'. -/
def mappingsGetCard : Claim7 := { stood := { row := mappingsGetRow, standIns := [], harness := (true, "5e73499ebe5cbc9f8734e274381ae838934d926738eb2f8882a9b773cb544c19"), looks := true }, kinds := [], alts := [], laidByText := true, laidKinds := [.data, .data], laidTests := true, laidLooks := .later }
def MappingsGetCardSaid : Prop := Claim7.holds Tryd.pinned (.plain (OpenSpec.ofChange mappingsGetSpec)) mappingsGetCard

/-- THE TIED CARD OF 'vidimuslaw18.MappingsTurned'. -/
def mappingsTurnedCard : Claim7 := { stood := { row := mappingsTurnedRow, standIns := [], harness := (true, "5e73499ebe5cbc9f8734e274381ae838934d926738eb2f8882a9b773cb544c19"), looks := true }, kinds := [], alts := [], laidByText := true, laidKinds := [.data, .data], laidTests := true, laidLooks := .later }
def MappingsTurnedCardSaid : Prop := Claim7.holds Tryd.pinned (.plain (OpenSpec.ofChange mappingsTurnedSpec)) mappingsTurnedCard

/-- THE SECOND FORM's CARD OF 'vidimuslaw13.AlgorithmsOf'. -/
def algorithmsOfUptoCard : Claim7 := { stood := { row := algorithmsOfUptoRow, standIns := [], harness := (true, "5e73499ebe5cbc9f8734e274381ae838934d926738eb2f8882a9b773cb544c19"), looks := true }, kinds := [], alts := [], laidByText := true, laidKinds := [.data, .data], laidTests := true, laidLooks := .later }
def AlgorithmsOfUptoCardSaid : Prop := Claim7.holds Tryd.pinned (.plain (OpenSpec.upto algorithmsOfSpec)) algorithmsOfUptoCard

/-- THE SECOND FORM's CARD OF 'vidimuslaw13.AlgorithmsErrors'. -/
def algorithmsErrorsUptoCard : Claim7 := { stood := { row := algorithmsErrorsUptoRow, standIns := [], harness := (true, "5e73499ebe5cbc9f8734e274381ae838934d926738eb2f8882a9b773cb544c19"), looks := true }, kinds := [], alts := [], laidByText := true, laidKinds := [.data, .data], laidTests := true, laidLooks := .later }
def AlgorithmsErrorsUptoCardSaid : Prop := Claim7.holds Tryd.pinned (.plain (OpenSpec.upto algorithmsErrorsSpec)) algorithmsErrorsUptoCard

/-- THE SECOND FORM's CARD OF 'vidimuslaw13.AlgorithmsSame'. -/
def algorithmsSameUptoCard : Claim7 := { stood := { row := algorithmsSameUptoRow, standIns := [], harness := (true, "5e73499ebe5cbc9f8734e274381ae838934d926738eb2f8882a9b773cb544c19"), looks := true }, kinds := [], alts := [], laidByText := true, laidKinds := [.data, .data], laidTests := true, laidLooks := .later }
def AlgorithmsSameUptoCardSaid : Prop := Claim7.holds Tryd.pinned (.plain (OpenSpec.upto algorithmsSameSpec)) algorithmsSameUptoCard

/-- THE SECOND FORM's CARD OF 'vidimuslaw13.AlgorithmsKeys'. -/
def algorithmsKeysUptoCard : Claim7 := { stood := { row := algorithmsKeysUptoRow, standIns := [], harness := (true, "5e73499ebe5cbc9f8734e274381ae838934d926738eb2f8882a9b773cb544c19"), looks := true }, kinds := [], alts := [], laidByText := true, laidKinds := [.data, .data, .data], laidTests := true, laidLooks := .later }
def AlgorithmsKeysUptoCardSaid : Prop := Claim7.holds Tryd.pinned (.plain (OpenSpec.upto algorithmsKeysSpec)) algorithmsKeysUptoCard

/-- THE SECOND FORM's CARD OF 'vidimuslaw13.AlgorithmsBack'. -/
def algorithmsBackUptoCard : Claim7 := { stood := { row := algorithmsBackUptoRow, standIns := [], harness := (true, "5e73499ebe5cbc9f8734e274381ae838934d926738eb2f8882a9b773cb544c19"), looks := true }, kinds := [], alts := [], laidByText := true, laidKinds := [.data, .data, .data], laidTests := true, laidLooks := .later }
def AlgorithmsBackUptoCardSaid : Prop := Claim7.holds Tryd.pinned (.plain (OpenSpec.upto algorithmsBackSpec)) algorithmsBackUptoCard

/-- THE SECOND FORM's CARD OF 'vidimuslaw13.AlgorithmsKnown'. -/
def algorithmsKnownUptoCard : Claim7 := { stood := { row := algorithmsKnownUptoRow, standIns := [], harness := (true, "5e73499ebe5cbc9f8734e274381ae838934d926738eb2f8882a9b773cb544c19"), looks := true }, kinds := [], alts := [], laidByText := true, laidKinds := [.data, .data, .data], laidTests := true, laidLooks := .later }
def AlgorithmsKnownUptoCardSaid : Prop := Claim7.holds Tryd.pinned (.plain (OpenSpec.upto algorithmsKnownSpec)) algorithmsKnownUptoCard

/-- THE SECOND FORM's CARD OF 'vidimuslaw19.ConstraintsOf'. -/
def constraintsOfUptoCard : Claim7 := { stood := { row := constraintsOfUptoRow, standIns := [], harness := (true, "5e73499ebe5cbc9f8734e274381ae838934d926738eb2f8882a9b773cb544c19"), looks := true }, kinds := [], alts := [], laidByText := true, laidKinds := [.data, .data], laidTests := true, laidLooks := .later }
def ConstraintsOfUptoCardSaid : Prop := Claim7.holds Tryd.pinned (.plain (OpenSpec.upto constraintsOfSpec)) constraintsOfUptoCard

/-- THE SECOND FORM's CARD OF 'vidimuslaw19.ConstraintsGet'. -/
def constraintsGetUptoCard : Claim7 := { stood := { row := constraintsGetUptoRow, standIns := [], harness := (true, "5e73499ebe5cbc9f8734e274381ae838934d926738eb2f8882a9b773cb544c19"), looks := true }, kinds := [], alts := [], laidByText := true, laidKinds := [.data, .data], laidTests := true, laidLooks := .later }
def ConstraintsGetUptoCardSaid : Prop := Claim7.holds Tryd.pinned (.plain (OpenSpec.upto constraintsGetSpec)) constraintsGetUptoCard

/-- THE SECOND FORM's CARD OF 'vidimuslaw18.MappingsGet'. -/
def mappingsGetUptoCard : Claim7 := { stood := { row := mappingsGetUptoRow, standIns := [], harness := (true, "5e73499ebe5cbc9f8734e274381ae838934d926738eb2f8882a9b773cb544c19"), looks := true }, kinds := [], alts := [], laidByText := true, laidKinds := [.data, .data], laidTests := true, laidLooks := .later }
def MappingsGetUptoCardSaid : Prop := Claim7.holds Tryd.pinned (.plain (OpenSpec.upto mappingsGetSpec)) mappingsGetUptoCard

/-- THE SECOND FORM's CARD OF 'vidimuslaw18.MappingsTurned'. -/
def mappingsTurnedUptoCard : Claim7 := { stood := { row := mappingsTurnedUptoRow, standIns := [], harness := (true, "5e73499ebe5cbc9f8734e274381ae838934d926738eb2f8882a9b773cb544c19"), looks := true }, kinds := [], alts := [], laidByText := true, laidKinds := [.data, .data], laidTests := true, laidLooks := .later }
def MappingsTurnedUptoCardSaid : Prop := Claim7.holds Tryd.pinned (.plain (OpenSpec.upto mappingsTurnedSpec)) mappingsTurnedUptoCard
end Rows
end Go.Proofs.YtbiildmljbcmeaaDoor
