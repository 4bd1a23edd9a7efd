/-
  NARROWER THAN 'FOR EVERY INPUT', by the rows' own cells (each row's printed sentence says how): ElementsCheck: loops · FieldsErrors: loops.
  DERIVED. THE GIVEN ROWS OF THIS SEAT. 15 by the template 'for every input the law returns true; each argument reads behind the call as it read before'; 0 by the template 'total and deterministic' (their statements: YtbiildmljbcmeaaTotals.lean).
  GIVEN WITH THE SEED: the statements are not yours to turn. If you find one false, say at which input.
  Laid BY PROGRAM, IN A SANDBOX (cutbox-rows.mjs): the forced cells as the released guide's own fill.sh prints them over the translation 00b51081ff963d4f… (all of the seat's roots in one cut). By AI agents, Wed Nov 11 2026. No macro, syntax, notation, axiom, sorry.
-/
import Derived.Test.YtbiildmljbcmeaaChecked
import GoSem.Claim
import GoSem.ClaimJoined
import GoSem.ClaimMapViews
import Derived.JoinedTies
import Derived.KernelRfl
namespace Go.Proofs.Ytbiildmljbcmeaa
/- THE CELL 'sum', in the pinned program and in every row, IS THE sha256 OF THE DUMP (.gsa) THAT YtbiildmljbcmeaaProg.lean LOADS. Nothing in Lean hashes anything: it is a label: what it is worth is what the hold of that sum in a sandbox is worth. -/
noncomputable def Try.pinned : Pinned := { name := "ytbiildmljbcmeaa", sum := "00b51081ff963d4feef016b8724b0bea6cb825bb1fa7fbd0da3ae63e21eb60e9", checked := Try.checked }
namespace Rows
def none {H : Type} : Left H := { results := [], args := [] }

/-- 'vidimuslaw04.ElementsGet': WHATEVER THE INPUT: true; the input reads as it did. -/
def elementsGetSpec : ChangeSpec := { name := "elementsGet", fn := fun _ => fun
  | [d] => { results := [.lit (.bool true)], args := [d] }
  | _ => none }
def elementsGetRow : OpenClaim := { program := "ytbiildmljbcmeaa", sum := "00b51081ff963d4feef016b8724b0bea6cb825bb1fa7fbd0da3ae63e21eb60e9", func := "vidimus/vidimuslaw04.ElementsGet", spec := "elementsGet", inPlace := ["internal/bytealg.Compare"], unfollowed := true, recurses := true, apart := false }
def ElementsGetSaid : Prop := elementsGetRow.holds Try.pinned (OpenSpec.ofChange elementsGetSpec)

/-- ITS FALSE NEIGHBOUR: 'it returns false'. Refute it at one input. -/
def elementsGetWrong : ChangeSpec := { name := "elementsGet", fn := fun _ => fun
  | [d] => { results := [.lit (.bool false)], args := [d] }
  | _ => none }
def ElementsGetWrongFalsely : Prop := elementsGetRow.holds Try.pinned (OpenSpec.ofChange elementsGetWrong)

/-- 'vidimuslaw04.ElementsCut': WHATEVER THE INPUT: true; the input reads as it did. -/
def elementsCutSpec : ChangeSpec := { name := "elementsCut", fn := fun _ => fun
  | [d1, d2] => { results := [.lit (.bool true)], args := [d1, d2] }
  | _ => none }
def elementsCutRow : OpenClaim := { program := "ytbiildmljbcmeaa", sum := "00b51081ff963d4feef016b8724b0bea6cb825bb1fa7fbd0da3ae63e21eb60e9", func := "vidimus/vidimuslaw04.ElementsCut", spec := "elementsCut", inPlace := ["internal/bytealg.Compare"], unfollowed := true, recurses := true, apart := false }
def ElementsCutSaid : Prop := elementsCutRow.holds Try.pinned (OpenSpec.ofChange elementsCutSpec)

/-- ITS FALSE NEIGHBOUR: 'it returns false'. Refute it at one input. -/
def elementsCutWrong : ChangeSpec := { name := "elementsCut", fn := fun _ => fun
  | [d1, d2] => { results := [.lit (.bool false)], args := [d1, d2] }
  | _ => none }
def ElementsCutWrongFalsely : Prop := elementsCutRow.holds Try.pinned (OpenSpec.ofChange elementsCutWrong)

/-- 'vidimuslaw04.ElementsAt': WHATEVER THE INPUT: true; the input reads as it did. -/
def elementsAtSpec : ChangeSpec := { name := "elementsAt", fn := fun _ => fun
  | [d1, d2] => { results := [.lit (.bool true)], args := [d1, d2] }
  | _ => none }
def elementsAtRow : OpenClaim := { program := "ytbiildmljbcmeaa", sum := "00b51081ff963d4feef016b8724b0bea6cb825bb1fa7fbd0da3ae63e21eb60e9", func := "vidimus/vidimuslaw04.ElementsAt", spec := "elementsAt", inPlace := ["internal/bytealg.Compare"], unfollowed := true, recurses := true, apart := false }
def ElementsAtSaid : Prop := elementsAtRow.holds Try.pinned (OpenSpec.ofChange elementsAtSpec)

/-- ITS FALSE NEIGHBOUR: 'it returns false'. Refute it at one input. -/
def elementsAtWrong : ChangeSpec := { name := "elementsAt", fn := fun _ => fun
  | [d1, d2] => { results := [.lit (.bool false)], args := [d1, d2] }
  | _ => none }
def ElementsAtWrongFalsely : Prop := elementsAtRow.holds Try.pinned (OpenSpec.ofChange elementsAtWrong)

/-- 'vidimuslaw04.ElementsKnown': WHATEVER THE INPUT: true; the input reads as it did. -/
def elementsKnownSpec : ChangeSpec := { name := "elementsKnown", fn := fun _ => fun
  | [] => { results := [.lit (.bool true)], args := [] }
  | _ => none }
def elementsKnownRow : OpenClaim := { program := "ytbiildmljbcmeaa", sum := "00b51081ff963d4feef016b8724b0bea6cb825bb1fa7fbd0da3ae63e21eb60e9", func := "vidimus/vidimuslaw04.ElementsKnown", spec := "elementsKnown", inPlace := ["internal/bytealg.Compare"], unfollowed := true, recurses := true, apart := false }
def ElementsKnownSaid : Prop := elementsKnownRow.holds Try.pinned (OpenSpec.ofChange elementsKnownSpec)

/-- ITS FALSE NEIGHBOUR: 'it returns false'. Refute it at one input. -/
def elementsKnownWrong : ChangeSpec := { name := "elementsKnown", fn := fun _ => fun
  | [] => { results := [.lit (.bool false)], args := [] }
  | _ => none }
def ElementsKnownWrongFalsely : Prop := elementsKnownRow.holds Try.pinned (OpenSpec.ofChange elementsKnownWrong)

/-- 'vidimuslaw04.ElementsBack': WHATEVER THE INPUT: true; the input reads as it did. -/
def elementsBackSpec : ChangeSpec := { name := "elementsBack", fn := fun _ => fun
  | [d1, d2] => { results := [.lit (.bool true)], args := [d1, d2] }
  | _ => none }
def elementsBackRow : OpenClaim := { program := "ytbiildmljbcmeaa", sum := "00b51081ff963d4feef016b8724b0bea6cb825bb1fa7fbd0da3ae63e21eb60e9", func := "vidimus/vidimuslaw04.ElementsBack", spec := "elementsBack", inPlace := ["internal/bytealg.Compare"], unfollowed := true, recurses := true, apart := false }
def ElementsBackSaid : Prop := elementsBackRow.holds Try.pinned (OpenSpec.ofChange elementsBackSpec)

/-- ITS FALSE NEIGHBOUR: 'it returns false'. Refute it at one input. -/
def elementsBackWrong : ChangeSpec := { name := "elementsBack", fn := fun _ => fun
  | [d1, d2] => { results := [.lit (.bool false)], args := [d1, d2] }
  | _ => none }
def ElementsBackWrongFalsely : Prop := elementsBackRow.holds Try.pinned (OpenSpec.ofChange elementsBackWrong)

/-- 'vidimuslaw04.ElementsOrder': WHATEVER THE INPUT: true; the input reads as it did. -/
def elementsOrderSpec : ChangeSpec := { name := "elementsOrder", fn := fun _ => fun
  | [d1, d2] => { results := [.lit (.bool true)], args := [d1, d2] }
  | _ => none }
def elementsOrderRow : OpenClaim := { program := "ytbiildmljbcmeaa", sum := "00b51081ff963d4feef016b8724b0bea6cb825bb1fa7fbd0da3ae63e21eb60e9", func := "vidimus/vidimuslaw04.ElementsOrder", spec := "elementsOrder", inPlace := ["internal/bytealg.Compare"], unfollowed := true, recurses := true, apart := false }
def ElementsOrderSaid : Prop := elementsOrderRow.holds Try.pinned (OpenSpec.ofChange elementsOrderSpec)

/-- ITS FALSE NEIGHBOUR: 'it returns false'. Refute it at one input. -/
def elementsOrderWrong : ChangeSpec := { name := "elementsOrder", fn := fun _ => fun
  | [d1, d2] => { results := [.lit (.bool false)], args := [d1, d2] }
  | _ => none }
def ElementsOrderWrongFalsely : Prop := elementsOrderRow.holds Try.pinned (OpenSpec.ofChange elementsOrderWrong)

/-- 'vidimuslaw04.ElementsCheck': WHATEVER THE INPUT: true; the input reads as it did. -/
def elementsCheckSpec : ChangeSpec := { name := "elementsCheck", fn := fun _ => fun
  | [d] => { results := [.lit (.bool true)], args := [d] }
  | _ => none }
def elementsCheckRow : OpenClaim := { program := "ytbiildmljbcmeaa", sum := "00b51081ff963d4feef016b8724b0bea6cb825bb1fa7fbd0da3ae63e21eb60e9", func := "vidimus/vidimuslaw04.ElementsCheck", spec := "elementsCheck", inPlace := ["internal/bytealg.Compare"], unfollowed := true, recurses := true, loops := true, apart := false }
def ElementsCheckSaid : Prop := elementsCheckRow.holds Try.pinned (OpenSpec.ofChange elementsCheckSpec)

/-- ITS FALSE NEIGHBOUR: 'it returns false'. Refute it at one input. -/
def elementsCheckWrong : ChangeSpec := { name := "elementsCheck", fn := fun _ => fun
  | [d] => { results := [.lit (.bool false)], args := [d] }
  | _ => none }
def ElementsCheckWrongFalsely : Prop := elementsCheckRow.holds Try.pinned (OpenSpec.ofChange elementsCheckWrong)

/-- 'vidimuslaw12.FieldsSequence': WHATEVER THE INPUT: true; the input reads as it did. -/
def fieldsSequenceSpec : ChangeSpec := { name := "fieldsSequence", fn := fun _ => fun
  | [d1, d2, d3] => { results := [.lit (.bool true)], args := [d1, d2, d3] }
  | _ => none }
def fieldsSequenceRow : OpenClaim := { program := "ytbiildmljbcmeaa", sum := "00b51081ff963d4feef016b8724b0bea6cb825bb1fa7fbd0da3ae63e21eb60e9", func := "vidimus/vidimuslaw12.FieldsSequence", spec := "fieldsSequence", inPlace := ["internal/bytealg.Compare"], unfollowed := true, recurses := true, apart := false }
def FieldsSequenceSaid : Prop := fieldsSequenceRow.holds Try.pinned (OpenSpec.ofChange fieldsSequenceSpec)

/-- ITS FALSE NEIGHBOUR: 'it returns false'. Refute it at one input. -/
def fieldsSequenceWrong : ChangeSpec := { name := "fieldsSequence", fn := fun _ => fun
  | [d1, d2, d3] => { results := [.lit (.bool false)], args := [d1, d2, d3] }
  | _ => none }
def FieldsSequenceWrongFalsely : Prop := fieldsSequenceRow.holds Try.pinned (OpenSpec.ofChange fieldsSequenceWrong)

/-- 'vidimuslaw12.FieldsRows': WHATEVER THE INPUT: true; the input reads as it did. -/
def fieldsRowsSpec : ChangeSpec := { name := "fieldsRows", fn := fun _ => fun
  | [d1, d2] => { results := [.lit (.bool true)], args := [d1, d2] }
  | _ => none }
def fieldsRowsRow : OpenClaim := { program := "ytbiildmljbcmeaa", sum := "00b51081ff963d4feef016b8724b0bea6cb825bb1fa7fbd0da3ae63e21eb60e9", func := "vidimus/vidimuslaw12.FieldsRows", spec := "fieldsRows", inPlace := ["internal/bytealg.Compare"], unfollowed := true, recurses := true, apart := false }
def FieldsRowsSaid : Prop := fieldsRowsRow.holds Try.pinned (OpenSpec.ofChange fieldsRowsSpec)

/-- ITS FALSE NEIGHBOUR: 'it returns false'. Refute it at one input. -/
def fieldsRowsWrong : ChangeSpec := { name := "fieldsRows", fn := fun _ => fun
  | [d1, d2] => { results := [.lit (.bool false)], args := [d1, d2] }
  | _ => none }
def FieldsRowsWrongFalsely : Prop := fieldsRowsRow.holds Try.pinned (OpenSpec.ofChange fieldsRowsWrong)

/-- 'vidimuslaw12.FieldsOrdered': WHATEVER THE INPUT: true; the input reads as it did. -/
def fieldsOrderedSpec : ChangeSpec := { name := "fieldsOrdered", fn := fun _ => fun
  | [d] => { results := [.lit (.bool true)], args := [d] }
  | _ => none }
def fieldsOrderedRow : OpenClaim := { program := "ytbiildmljbcmeaa", sum := "00b51081ff963d4feef016b8724b0bea6cb825bb1fa7fbd0da3ae63e21eb60e9", func := "vidimus/vidimuslaw12.FieldsOrdered", spec := "fieldsOrdered", inPlace := ["internal/bytealg.Compare"], unfollowed := true, recurses := true, apart := false }
def FieldsOrderedSaid : Prop := fieldsOrderedRow.holds Try.pinned (OpenSpec.ofChange fieldsOrderedSpec)

/-- ITS FALSE NEIGHBOUR: 'it returns false'. Refute it at one input. -/
def fieldsOrderedWrong : ChangeSpec := { name := "fieldsOrdered", fn := fun _ => fun
  | [d] => { results := [.lit (.bool false)], args := [d] }
  | _ => none }
def FieldsOrderedWrongFalsely : Prop := fieldsOrderedRow.holds Try.pinned (OpenSpec.ofChange fieldsOrderedWrong)

/-- 'vidimuslaw12.FieldsUnder': WHATEVER THE INPUT: true; the input reads as it did. -/
def fieldsUnderSpec : ChangeSpec := { name := "fieldsUnder", fn := fun _ => fun
  | [d1, d2, d3] => { results := [.lit (.bool true)], args := [d1, d2, d3] }
  | _ => none }
def fieldsUnderRow : OpenClaim := { program := "ytbiildmljbcmeaa", sum := "00b51081ff963d4feef016b8724b0bea6cb825bb1fa7fbd0da3ae63e21eb60e9", func := "vidimus/vidimuslaw12.FieldsUnder", spec := "fieldsUnder", inPlace := ["internal/bytealg.Compare"], unfollowed := true, recurses := true, apart := false }
def FieldsUnderSaid : Prop := fieldsUnderRow.holds Try.pinned (OpenSpec.ofChange fieldsUnderSpec)

/-- ITS FALSE NEIGHBOUR: 'it returns false'. Refute it at one input. -/
def fieldsUnderWrong : ChangeSpec := { name := "fieldsUnder", fn := fun _ => fun
  | [d1, d2, d3] => { results := [.lit (.bool false)], args := [d1, d2, d3] }
  | _ => none }
def FieldsUnderWrongFalsely : Prop := fieldsUnderRow.holds Try.pinned (OpenSpec.ofChange fieldsUnderWrong)

/-- 'vidimuslaw12.FieldsList': WHATEVER THE INPUT: true; the input reads as it did. -/
def fieldsListSpec : ChangeSpec := { name := "fieldsList", fn := fun _ => fun
  | [d1, d2, d3] => { results := [.lit (.bool true)], args := [d1, d2, d3] }
  | _ => none }
def fieldsListRow : OpenClaim := { program := "ytbiildmljbcmeaa", sum := "00b51081ff963d4feef016b8724b0bea6cb825bb1fa7fbd0da3ae63e21eb60e9", func := "vidimus/vidimuslaw12.FieldsList", spec := "fieldsList", inPlace := ["internal/bytealg.Compare"], unfollowed := true, recurses := true, apart := false }
def FieldsListSaid : Prop := fieldsListRow.holds Try.pinned (OpenSpec.ofChange fieldsListSpec)

/-- ITS FALSE NEIGHBOUR: 'it returns false'. Refute it at one input. -/
def fieldsListWrong : ChangeSpec := { name := "fieldsList", fn := fun _ => fun
  | [d1, d2, d3] => { results := [.lit (.bool false)], args := [d1, d2, d3] }
  | _ => none }
def FieldsListWrongFalsely : Prop := fieldsListRow.holds Try.pinned (OpenSpec.ofChange fieldsListWrong)

/-- 'vidimuslaw12.FieldsPlaces': WHATEVER THE INPUT: true; the input reads as it did. -/
def fieldsPlacesSpec : ChangeSpec := { name := "fieldsPlaces", fn := fun _ => fun
  | [d1, d2] => { results := [.lit (.bool true)], args := [d1, d2] }
  | _ => none }
def fieldsPlacesRow : OpenClaim := { program := "ytbiildmljbcmeaa", sum := "00b51081ff963d4feef016b8724b0bea6cb825bb1fa7fbd0da3ae63e21eb60e9", func := "vidimus/vidimuslaw12.FieldsPlaces", spec := "fieldsPlaces", inPlace := ["internal/bytealg.Compare"], unfollowed := true, recurses := true, apart := false }
def FieldsPlacesSaid : Prop := fieldsPlacesRow.holds Try.pinned (OpenSpec.ofChange fieldsPlacesSpec)

/-- ITS FALSE NEIGHBOUR: 'it returns false'. Refute it at one input. -/
def fieldsPlacesWrong : ChangeSpec := { name := "fieldsPlaces", fn := fun _ => fun
  | [d1, d2] => { results := [.lit (.bool false)], args := [d1, d2] }
  | _ => none }
def FieldsPlacesWrongFalsely : Prop := fieldsPlacesRow.holds Try.pinned (OpenSpec.ofChange fieldsPlacesWrong)

/-- 'vidimuslaw12.FieldsErrors': WHATEVER THE INPUT: true; the input reads as it did. -/
def fieldsErrorsSpec : ChangeSpec := { name := "fieldsErrors", fn := fun _ => fun
  | [d1, d2, d3] => { results := [.lit (.bool true)], args := [d1, d2, d3] }
  | _ => none }
def fieldsErrorsRow : OpenClaim := { program := "ytbiildmljbcmeaa", sum := "00b51081ff963d4feef016b8724b0bea6cb825bb1fa7fbd0da3ae63e21eb60e9", func := "vidimus/vidimuslaw12.FieldsErrors", spec := "fieldsErrors", inPlace := ["internal/bytealg.Compare"], unfollowed := true, recurses := true, loops := true, apart := false }
def FieldsErrorsSaid : Prop := fieldsErrorsRow.holds Try.pinned (OpenSpec.ofChange fieldsErrorsSpec)

/-- ITS FALSE NEIGHBOUR: 'it returns false'. Refute it at one input. -/
def fieldsErrorsWrong : ChangeSpec := { name := "fieldsErrors", fn := fun _ => fun
  | [d1, d2, d3] => { results := [.lit (.bool false)], args := [d1, d2, d3] }
  | _ => none }
def FieldsErrorsWrongFalsely : Prop := fieldsErrorsRow.holds Try.pinned (OpenSpec.ofChange fieldsErrorsWrong)

/-- 'vidimuslaw12.FieldsKnown': WHATEVER THE INPUT: true; the input reads as it did. -/
def fieldsKnownSpec : ChangeSpec := { name := "fieldsKnown", fn := fun _ => fun
  | [] => { results := [.lit (.bool true)], args := [] }
  | _ => none }
def fieldsKnownRow : OpenClaim := { program := "ytbiildmljbcmeaa", sum := "00b51081ff963d4feef016b8724b0bea6cb825bb1fa7fbd0da3ae63e21eb60e9", func := "vidimus/vidimuslaw12.FieldsKnown", spec := "fieldsKnown", inPlace := ["internal/bytealg.Compare"], unfollowed := true, recurses := true, apart := false }
def FieldsKnownSaid : Prop := fieldsKnownRow.holds Try.pinned (OpenSpec.ofChange fieldsKnownSpec)

/-- ITS FALSE NEIGHBOUR: 'it returns false'. Refute it at one input. -/
def fieldsKnownWrong : ChangeSpec := { name := "fieldsKnown", fn := fun _ => fun
  | [] => { results := [.lit (.bool false)], args := [] }
  | _ => none }
def FieldsKnownWrongFalsely : Prop := fieldsKnownRow.holds Try.pinned (OpenSpec.ofChange fieldsKnownWrong)

/- THE SECOND FORM. 'bulk': how many values and letters a reading holds, each counted each time it is reached (what is shared counts as often as it is met; a slice's spare places count too). A statement '..UptoSaid' is the law's where the arguments, and the package variables that the reading takes, are together of bulk at most 1048576: NARROWER than '..Said'. Prove '..Said' where nothing that the law and all that it calls make is longer than what came in: it says more and counts as full. Else prove '..UptoSaid'. A law counts once. -/
mutual
def uptoBulk {H : Type} : DataW H → Nat
  | .lit (.string bytes) => bytes.length + 1
  | .lit _ => 1
  | .nil => 1
  | .ptr d => uptoBulk d + 1
  | .slice elems spare => uptoBulkAll elems + uptoBulkAll spare + 1
  | .agg parts => uptoBulkAll parts + 1
  | .iface _ d => uptoBulk d + 1
  | .map entries => uptoBulkEntries entries + 1
  | .held _ => 1
def uptoBulkAll {H : Type} : List (DataW H) → Nat
  | [] => 0
  | d :: r => uptoBulk d + uptoBulkAll r
def uptoBulkEntries {H : Type} : List (Lit × DataW H) → Nat
  | [] => 0
  | x :: r => uptoBulkEntry x + uptoBulkEntries r
def uptoBulkEntry {H : Type} : Lit × DataW H → Nat
  | (.string bytes, d) => bytes.length + uptoBulk d + 1
  | (_, d) => uptoBulk d + 1
 end
def uptoSmall : (H : Type) → List (DataW H) → Bool := fun _ ds => decide (uptoBulkAll ds ≤ 1048576)
def OpenSpec.upto (s : _root_.Go.ChangeSpec) : _root_.Go.OpenSpec := { _root_.Go.OpenSpec.ofChange s with cond := some uptoSmall }

/-- 'vidimuslaw04.ElementsGet', WHERE WHAT IT READS IS OF BULK AT MOST 1048576: true; the input reads as it did. -/
def elementsGetUptoRow : OpenClaim := { program := "ytbiildmljbcmeaa", sum := "00b51081ff963d4feef016b8724b0bea6cb825bb1fa7fbd0da3ae63e21eb60e9", func := "vidimus/vidimuslaw04.ElementsGet", spec := "elementsGet", inPlace := ["internal/bytealg.Compare"], unfollowed := true, recurses := true, apart := false, narrowed := true }
def ElementsGetUptoSaid : Prop := elementsGetUptoRow.holds Try.pinned (OpenSpec.upto elementsGetSpec)

/-- 'vidimuslaw04.ElementsCut', WHERE WHAT IT READS IS OF BULK AT MOST 1048576: true; the input reads as it did. -/
def elementsCutUptoRow : OpenClaim := { program := "ytbiildmljbcmeaa", sum := "00b51081ff963d4feef016b8724b0bea6cb825bb1fa7fbd0da3ae63e21eb60e9", func := "vidimus/vidimuslaw04.ElementsCut", spec := "elementsCut", inPlace := ["internal/bytealg.Compare"], unfollowed := true, recurses := true, apart := false, narrowed := true }
def ElementsCutUptoSaid : Prop := elementsCutUptoRow.holds Try.pinned (OpenSpec.upto elementsCutSpec)

/-- 'vidimuslaw04.ElementsAt', WHERE WHAT IT READS IS OF BULK AT MOST 1048576: true; the input reads as it did. -/
def elementsAtUptoRow : OpenClaim := { program := "ytbiildmljbcmeaa", sum := "00b51081ff963d4feef016b8724b0bea6cb825bb1fa7fbd0da3ae63e21eb60e9", func := "vidimus/vidimuslaw04.ElementsAt", spec := "elementsAt", inPlace := ["internal/bytealg.Compare"], unfollowed := true, recurses := true, apart := false, narrowed := true }
def ElementsAtUptoSaid : Prop := elementsAtUptoRow.holds Try.pinned (OpenSpec.upto elementsAtSpec)

/-- 'vidimuslaw04.ElementsKnown', WHERE WHAT IT READS IS OF BULK AT MOST 1048576: true; the input reads as it did. -/
def elementsKnownUptoRow : OpenClaim := { program := "ytbiildmljbcmeaa", sum := "00b51081ff963d4feef016b8724b0bea6cb825bb1fa7fbd0da3ae63e21eb60e9", func := "vidimus/vidimuslaw04.ElementsKnown", spec := "elementsKnown", inPlace := ["internal/bytealg.Compare"], unfollowed := true, recurses := true, apart := false, narrowed := true }
def ElementsKnownUptoSaid : Prop := elementsKnownUptoRow.holds Try.pinned (OpenSpec.upto elementsKnownSpec)

/-- 'vidimuslaw04.ElementsBack', WHERE WHAT IT READS IS OF BULK AT MOST 1048576: true; the input reads as it did. -/
def elementsBackUptoRow : OpenClaim := { program := "ytbiildmljbcmeaa", sum := "00b51081ff963d4feef016b8724b0bea6cb825bb1fa7fbd0da3ae63e21eb60e9", func := "vidimus/vidimuslaw04.ElementsBack", spec := "elementsBack", inPlace := ["internal/bytealg.Compare"], unfollowed := true, recurses := true, apart := false, narrowed := true }
def ElementsBackUptoSaid : Prop := elementsBackUptoRow.holds Try.pinned (OpenSpec.upto elementsBackSpec)

/-- 'vidimuslaw04.ElementsOrder', WHERE WHAT IT READS IS OF BULK AT MOST 1048576: true; the input reads as it did. -/
def elementsOrderUptoRow : OpenClaim := { program := "ytbiildmljbcmeaa", sum := "00b51081ff963d4feef016b8724b0bea6cb825bb1fa7fbd0da3ae63e21eb60e9", func := "vidimus/vidimuslaw04.ElementsOrder", spec := "elementsOrder", inPlace := ["internal/bytealg.Compare"], unfollowed := true, recurses := true, apart := false, narrowed := true }
def ElementsOrderUptoSaid : Prop := elementsOrderUptoRow.holds Try.pinned (OpenSpec.upto elementsOrderSpec)

/-- 'vidimuslaw04.ElementsCheck', WHERE WHAT IT READS IS OF BULK AT MOST 1048576: true; the input reads as it did. -/
def elementsCheckUptoRow : OpenClaim := { program := "ytbiildmljbcmeaa", sum := "00b51081ff963d4feef016b8724b0bea6cb825bb1fa7fbd0da3ae63e21eb60e9", func := "vidimus/vidimuslaw04.ElementsCheck", spec := "elementsCheck", inPlace := ["internal/bytealg.Compare"], unfollowed := true, recurses := true, loops := true, apart := false, narrowed := true }
def ElementsCheckUptoSaid : Prop := elementsCheckUptoRow.holds Try.pinned (OpenSpec.upto elementsCheckSpec)

/-- 'vidimuslaw12.FieldsSequence', WHERE WHAT IT READS IS OF BULK AT MOST 1048576: true; the input reads as it did. -/
def fieldsSequenceUptoRow : OpenClaim := { program := "ytbiildmljbcmeaa", sum := "00b51081ff963d4feef016b8724b0bea6cb825bb1fa7fbd0da3ae63e21eb60e9", func := "vidimus/vidimuslaw12.FieldsSequence", spec := "fieldsSequence", inPlace := ["internal/bytealg.Compare"], unfollowed := true, recurses := true, apart := false, narrowed := true }
def FieldsSequenceUptoSaid : Prop := fieldsSequenceUptoRow.holds Try.pinned (OpenSpec.upto fieldsSequenceSpec)

/-- 'vidimuslaw12.FieldsRows', WHERE WHAT IT READS IS OF BULK AT MOST 1048576: true; the input reads as it did. -/
def fieldsRowsUptoRow : OpenClaim := { program := "ytbiildmljbcmeaa", sum := "00b51081ff963d4feef016b8724b0bea6cb825bb1fa7fbd0da3ae63e21eb60e9", func := "vidimus/vidimuslaw12.FieldsRows", spec := "fieldsRows", inPlace := ["internal/bytealg.Compare"], unfollowed := true, recurses := true, apart := false, narrowed := true }
def FieldsRowsUptoSaid : Prop := fieldsRowsUptoRow.holds Try.pinned (OpenSpec.upto fieldsRowsSpec)

/-- 'vidimuslaw12.FieldsOrdered', WHERE WHAT IT READS IS OF BULK AT MOST 1048576: true; the input reads as it did. -/
def fieldsOrderedUptoRow : OpenClaim := { program := "ytbiildmljbcmeaa", sum := "00b51081ff963d4feef016b8724b0bea6cb825bb1fa7fbd0da3ae63e21eb60e9", func := "vidimus/vidimuslaw12.FieldsOrdered", spec := "fieldsOrdered", inPlace := ["internal/bytealg.Compare"], unfollowed := true, recurses := true, apart := false, narrowed := true }
def FieldsOrderedUptoSaid : Prop := fieldsOrderedUptoRow.holds Try.pinned (OpenSpec.upto fieldsOrderedSpec)

/-- 'vidimuslaw12.FieldsUnder', WHERE WHAT IT READS IS OF BULK AT MOST 1048576: true; the input reads as it did. -/
def fieldsUnderUptoRow : OpenClaim := { program := "ytbiildmljbcmeaa", sum := "00b51081ff963d4feef016b8724b0bea6cb825bb1fa7fbd0da3ae63e21eb60e9", func := "vidimus/vidimuslaw12.FieldsUnder", spec := "fieldsUnder", inPlace := ["internal/bytealg.Compare"], unfollowed := true, recurses := true, apart := false, narrowed := true }
def FieldsUnderUptoSaid : Prop := fieldsUnderUptoRow.holds Try.pinned (OpenSpec.upto fieldsUnderSpec)

/-- 'vidimuslaw12.FieldsList', WHERE WHAT IT READS IS OF BULK AT MOST 1048576: true; the input reads as it did. -/
def fieldsListUptoRow : OpenClaim := { program := "ytbiildmljbcmeaa", sum := "00b51081ff963d4feef016b8724b0bea6cb825bb1fa7fbd0da3ae63e21eb60e9", func := "vidimus/vidimuslaw12.FieldsList", spec := "fieldsList", inPlace := ["internal/bytealg.Compare"], unfollowed := true, recurses := true, apart := false, narrowed := true }
def FieldsListUptoSaid : Prop := fieldsListUptoRow.holds Try.pinned (OpenSpec.upto fieldsListSpec)

/-- 'vidimuslaw12.FieldsPlaces', WHERE WHAT IT READS IS OF BULK AT MOST 1048576: true; the input reads as it did. -/
def fieldsPlacesUptoRow : OpenClaim := { program := "ytbiildmljbcmeaa", sum := "00b51081ff963d4feef016b8724b0bea6cb825bb1fa7fbd0da3ae63e21eb60e9", func := "vidimus/vidimuslaw12.FieldsPlaces", spec := "fieldsPlaces", inPlace := ["internal/bytealg.Compare"], unfollowed := true, recurses := true, apart := false, narrowed := true }
def FieldsPlacesUptoSaid : Prop := fieldsPlacesUptoRow.holds Try.pinned (OpenSpec.upto fieldsPlacesSpec)

/-- 'vidimuslaw12.FieldsErrors', WHERE WHAT IT READS IS OF BULK AT MOST 1048576: true; the input reads as it did. -/
def fieldsErrorsUptoRow : OpenClaim := { program := "ytbiildmljbcmeaa", sum := "00b51081ff963d4feef016b8724b0bea6cb825bb1fa7fbd0da3ae63e21eb60e9", func := "vidimus/vidimuslaw12.FieldsErrors", spec := "fieldsErrors", inPlace := ["internal/bytealg.Compare"], unfollowed := true, recurses := true, loops := true, apart := false, narrowed := true }
def FieldsErrorsUptoSaid : Prop := fieldsErrorsUptoRow.holds Try.pinned (OpenSpec.upto fieldsErrorsSpec)

/-- 'vidimuslaw12.FieldsKnown', WHERE WHAT IT READS IS OF BULK AT MOST 1048576: true; the input reads as it did. -/
def fieldsKnownUptoRow : OpenClaim := { program := "ytbiildmljbcmeaa", sum := "00b51081ff963d4feef016b8724b0bea6cb825bb1fa7fbd0da3ae63e21eb60e9", func := "vidimus/vidimuslaw12.FieldsKnown", spec := "fieldsKnown", inPlace := ["internal/bytealg.Compare"], unfollowed := true, recurses := true, apart := false, narrowed := true }
def FieldsKnownUptoSaid : Prop := fieldsKnownUptoRow.holds Try.pinned (OpenSpec.upto fieldsKnownSpec)

end Rows
end Go.Proofs.Ytbiildmljbcmeaa
