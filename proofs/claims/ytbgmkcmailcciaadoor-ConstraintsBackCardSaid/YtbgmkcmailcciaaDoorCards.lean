/-
  DERIVED. GIVEN WITH THE SEED: THE CARDS: each row of YtbgmkcmailcciaaDoorRows.lean that lists a variable, with what it lists TIED to the program's text (the seventh form; the later family's looks); each row that meets fmt, with fmt's text TOLD by the authors' own Lean function (tested against real Go, not proved from fmt's source: count such statements apart). THE CARD IS WHAT COUNTS. Prove the row's statement (the work); the ties are given (YtbgmkcmailcciaaDoorTie.lean); close each card by the builder's one call (the guide's Derived/Test/ToyasCard.lean, 'card_holds'). Laid BY PROGRAM, IN A SANDBOX (cutbox-door.mjs). By AI agents, Wed Nov 11 2026. No macro, syntax, notation, axiom, sorry.
-/
import Derived.Test.YtbgmkcmailcciaaDoorRows
import GoSem.ClaimSeven
namespace Go.Proofs.YtbgmkcmailcciaaDoor
namespace Rows

/-- THE TIED CARD OF 'vidimuslaw19.ConstraintsBack'. -/
def constraintsBackCard : Claim7 := { stood := { row := constraintsBackRow, standIns := [], harness := (true, "9ebeacb2d152bede7f9e880e403e75d4296fce00e78c34db9e0df683755c285d"), looks := true }, kinds := [], alts := [], laidByText := true, laidKinds := [.data, .data], laidTests := true, laidLooks := .later }
def ConstraintsBackCardSaid : Prop := Claim7.holds Tryd.pinned (.plain (OpenSpec.ofChange constraintsBackSpec)) constraintsBackCard

/-- THE TIED CARD OF 'vidimuslaw19.ConstraintsOf'. -/
def constraintsOfCard : Claim7 := { stood := { row := constraintsOfRow, standIns := [], harness := (true, "9ebeacb2d152bede7f9e880e403e75d4296fce00e78c34db9e0df683755c285d"), looks := true }, kinds := [], alts := [], laidByText := true, laidKinds := [.data, .data], laidTests := true, laidLooks := .later }
def ConstraintsOfCardSaid : Prop := Claim7.holds Tryd.pinned (.plain (OpenSpec.ofChange constraintsOfSpec)) constraintsOfCard

/-- THE TIED CARD OF 'vidimuslaw19.ConstraintsGet'. -/
def constraintsGetCard : Claim7 := { stood := { row := constraintsGetRow, standIns := [], harness := (true, "9ebeacb2d152bede7f9e880e403e75d4296fce00e78c34db9e0df683755c285d"), looks := true }, kinds := [], alts := [], laidByText := true, laidKinds := [.data, .data], laidTests := true, laidLooks := .later }
def ConstraintsGetCardSaid : Prop := Claim7.holds Tryd.pinned (.plain (OpenSpec.ofChange constraintsGetSpec)) constraintsGetCard

/-- THE TIED CARD OF 'vidimuslaw19.ConstraintsErrors'. -/
def constraintsErrorsCard : Claim7 := { stood := { row := constraintsErrorsRow, standIns := [], harness := (true, "9ebeacb2d152bede7f9e880e403e75d4296fce00e78c34db9e0df683755c285d"), looks := true }, kinds := [], alts := [], laidByText := true, laidKinds := [.data, .data], laidTests := true, laidLooks := .later }
def ConstraintsErrorsCardSaid : Prop := Claim7.holds Tryd.pinned (.plain (OpenSpec.ofChange constraintsErrorsSpec)) constraintsErrorsCard

/-- THE TIED CARD OF 'vidimuslaw19.ConstraintsLess'. -/
def constraintsLessCard : Claim7 := { stood := { row := constraintsLessRow, standIns := [], harness := (true, "9ebeacb2d152bede7f9e880e403e75d4296fce00e78c34db9e0df683755c285d"), looks := true }, kinds := [], alts := [], laidByText := true, laidKinds := [.data, .data], laidTests := true, laidLooks := .later }
def ConstraintsLessCardSaid : Prop := Claim7.holds Tryd.pinned (.plain (OpenSpec.ofChange constraintsLessSpec)) constraintsLessCard

/-- THE TIED CARD OF 'vidimuslaw19.ConstraintsKnown'. -/
def constraintsKnownCard : Claim7 := { stood := { row := constraintsKnownRow, standIns := [], harness := (true, "9ebeacb2d152bede7f9e880e403e75d4296fce00e78c34db9e0df683755c285d"), looks := true }, kinds := [], alts := [], laidByText := true, laidKinds := [.data, .data], laidTests := true, laidLooks := .later }
def ConstraintsKnownCardSaid : Prop := Claim7.holds Tryd.pinned (.plain (OpenSpec.ofChange constraintsKnownSpec)) constraintsKnownCard

/-- THE SECOND FORM's CARD OF 'vidimuslaw19.ConstraintsBack'. -/
def constraintsBackUptoCard : Claim7 := { stood := { row := constraintsBackUptoRow, standIns := [], harness := (true, "9ebeacb2d152bede7f9e880e403e75d4296fce00e78c34db9e0df683755c285d"), looks := true }, kinds := [], alts := [], laidByText := true, laidKinds := [.data, .data], laidTests := true, laidLooks := .later }
def ConstraintsBackUptoCardSaid : Prop := Claim7.holds Tryd.pinned (.plain (OpenSpec.upto constraintsBackSpec)) constraintsBackUptoCard

/-- THE SECOND FORM's CARD OF 'vidimuslaw19.ConstraintsOf'. -/
def constraintsOfUptoCard : Claim7 := { stood := { row := constraintsOfUptoRow, standIns := [], harness := (true, "9ebeacb2d152bede7f9e880e403e75d4296fce00e78c34db9e0df683755c285d"), looks := true }, kinds := [], alts := [], laidByText := true, laidKinds := [.data, .data], laidTests := true, laidLooks := .later }
def ConstraintsOfUptoCardSaid : Prop := Claim7.holds Tryd.pinned (.plain (OpenSpec.upto constraintsOfSpec)) constraintsOfUptoCard

/-- THE SECOND FORM's CARD OF 'vidimuslaw19.ConstraintsGet'. -/
def constraintsGetUptoCard : Claim7 := { stood := { row := constraintsGetUptoRow, standIns := [], harness := (true, "9ebeacb2d152bede7f9e880e403e75d4296fce00e78c34db9e0df683755c285d"), looks := true }, kinds := [], alts := [], laidByText := true, laidKinds := [.data, .data], laidTests := true, laidLooks := .later }
def ConstraintsGetUptoCardSaid : Prop := Claim7.holds Tryd.pinned (.plain (OpenSpec.upto constraintsGetSpec)) constraintsGetUptoCard

/-- THE SECOND FORM's CARD OF 'vidimuslaw19.ConstraintsErrors'. -/
def constraintsErrorsUptoCard : Claim7 := { stood := { row := constraintsErrorsUptoRow, standIns := [], harness := (true, "9ebeacb2d152bede7f9e880e403e75d4296fce00e78c34db9e0df683755c285d"), looks := true }, kinds := [], alts := [], laidByText := true, laidKinds := [.data, .data], laidTests := true, laidLooks := .later }
def ConstraintsErrorsUptoCardSaid : Prop := Claim7.holds Tryd.pinned (.plain (OpenSpec.upto constraintsErrorsSpec)) constraintsErrorsUptoCard

/-- THE SECOND FORM's CARD OF 'vidimuslaw19.ConstraintsLess'. -/
def constraintsLessUptoCard : Claim7 := { stood := { row := constraintsLessUptoRow, standIns := [], harness := (true, "9ebeacb2d152bede7f9e880e403e75d4296fce00e78c34db9e0df683755c285d"), looks := true }, kinds := [], alts := [], laidByText := true, laidKinds := [.data, .data], laidTests := true, laidLooks := .later }
def ConstraintsLessUptoCardSaid : Prop := Claim7.holds Tryd.pinned (.plain (OpenSpec.upto constraintsLessSpec)) constraintsLessUptoCard

/-- THE SECOND FORM's CARD OF 'vidimuslaw19.ConstraintsKnown'. -/
def constraintsKnownUptoCard : Claim7 := { stood := { row := constraintsKnownUptoRow, standIns := [], harness := (true, "9ebeacb2d152bede7f9e880e403e75d4296fce00e78c34db9e0df683755c285d"), looks := true }, kinds := [], alts := [], laidByText := true, laidKinds := [.data, .data], laidTests := true, laidLooks := .later }
def ConstraintsKnownUptoCardSaid : Prop := Claim7.holds Tryd.pinned (.plain (OpenSpec.upto constraintsKnownSpec)) constraintsKnownUptoCard
end Rows
end Go.Proofs.YtbgmkcmailcciaaDoor
