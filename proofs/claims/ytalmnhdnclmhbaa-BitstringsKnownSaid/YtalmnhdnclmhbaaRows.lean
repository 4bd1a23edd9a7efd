/-
  NARROWER THAN 'FOR EVERY INPUT', by the rows' own cells (each row's printed sentence says how): BitstringsErrors: loops.
  DERIVED. THE GIVEN ROWS OF THIS SEAT. 10 by the template 'for every input the law returns true; each argument reads behind the call as it read before'; 0 by the template 'total and deterministic' (their statements: YtalmnhdnclmhbaaTotals.lean).
  GIVEN WITH THE SEED: the statements are not yours to turn. If you find one false, say at which input.
  Laid BY PROGRAM, IN A SANDBOX (cutbox-rows.mjs): the forced cells as the released guide's own fill.sh prints them over the translation b9a81e9b9528100c… (all of the seat's roots in one cut). By AI agents, Wed Nov 11 2026. No macro, syntax, notation, axiom, sorry.
-/
import Derived.Test.YtalmnhdnclmhbaaChecked
import GoSem.Claim
import GoSem.ClaimJoined
import GoSem.ClaimMapViews
import Derived.JoinedTies
import Derived.KernelRfl
namespace Go.Proofs.Ytalmnhdnclmhbaa
/- THE CELL 'sum', in the pinned program and in every row, IS THE sha256 OF THE DUMP (.gsa) THAT YtalmnhdnclmhbaaProg.lean LOADS. Nothing in Lean hashes anything: it is a label: what it is worth is what the hold of that sum in a sandbox is worth. -/
noncomputable def Try.pinned : Pinned := { name := "ytalmnhdnclmhbaa", sum := "b9a81e9b9528100c848fb3c9810a2761b573642f830f69daf2323188b71fd70a", checked := Try.checked }
namespace Rows
def none {H : Type} : Left H := { results := [], args := [] }

/-- 'vidimuslaw03.LengthsPut': WHATEVER THE INPUT: true; the input reads as it did. -/
def lengthsPutSpec : ChangeSpec := { name := "lengthsPut", fn := fun _ => fun
  | [d] => { results := [.lit (.bool true)], args := [d] }
  | _ => none }
def lengthsPutRow : OpenClaim := { program := "ytalmnhdnclmhbaa", sum := "b9a81e9b9528100c848fb3c9810a2761b573642f830f69daf2323188b71fd70a", func := "vidimus/vidimuslaw03.LengthsPut", spec := "lengthsPut", apart := false }
def LengthsPutSaid : Prop := lengthsPutRow.holds Try.pinned (OpenSpec.ofChange lengthsPutSpec)

/-- ITS FALSE NEIGHBOUR: 'it returns false'. Refute it at one input. -/
def lengthsPutWrong : ChangeSpec := { name := "lengthsPut", fn := fun _ => fun
  | [d] => { results := [.lit (.bool false)], args := [d] }
  | _ => none }
def LengthsPutWrongFalsely : Prop := lengthsPutRow.holds Try.pinned (OpenSpec.ofChange lengthsPutWrong)

/-- 'vidimuslaw03.LengthsBack': WHATEVER THE INPUT: true; the input reads as it did. -/
def lengthsBackSpec : ChangeSpec := { name := "lengthsBack", fn := fun _ => fun
  | [d1, d2, d3] => { results := [.lit (.bool true)], args := [d1, d2, d3] }
  | _ => none }
def lengthsBackRow : OpenClaim := { program := "ytalmnhdnclmhbaa", sum := "b9a81e9b9528100c848fb3c9810a2761b573642f830f69daf2323188b71fd70a", func := "vidimus/vidimuslaw03.LengthsBack", spec := "lengthsBack", apart := false }
def LengthsBackSaid : Prop := lengthsBackRow.holds Try.pinned (OpenSpec.ofChange lengthsBackSpec)

/-- ITS FALSE NEIGHBOUR: 'it returns false'. Refute it at one input. -/
def lengthsBackWrong : ChangeSpec := { name := "lengthsBack", fn := fun _ => fun
  | [d1, d2, d3] => { results := [.lit (.bool false)], args := [d1, d2, d3] }
  | _ => none }
def LengthsBackWrongFalsely : Prop := lengthsBackRow.holds Try.pinned (OpenSpec.ofChange lengthsBackWrong)

/-- 'vidimuslaw03.LengthsGet': WHATEVER THE INPUT: true; the input reads as it did. -/
def lengthsGetSpec : ChangeSpec := { name := "lengthsGet", fn := fun _ => fun
  | [d] => { results := [.lit (.bool true)], args := [d] }
  | _ => none }
def lengthsGetRow : OpenClaim := { program := "ytalmnhdnclmhbaa", sum := "b9a81e9b9528100c848fb3c9810a2761b573642f830f69daf2323188b71fd70a", func := "vidimus/vidimuslaw03.LengthsGet", spec := "lengthsGet", apart := false }
def LengthsGetSaid : Prop := lengthsGetRow.holds Try.pinned (OpenSpec.ofChange lengthsGetSpec)

/-- ITS FALSE NEIGHBOUR: 'it returns false'. Refute it at one input. -/
def lengthsGetWrong : ChangeSpec := { name := "lengthsGet", fn := fun _ => fun
  | [d] => { results := [.lit (.bool false)], args := [d] }
  | _ => none }
def LengthsGetWrongFalsely : Prop := lengthsGetRow.holds Try.pinned (OpenSpec.ofChange lengthsGetWrong)

/-- 'vidimuslaw03.LengthsOrder': WHATEVER THE INPUT: true; the input reads as it did. -/
def lengthsOrderSpec : ChangeSpec := { name := "lengthsOrder", fn := fun _ => fun
  | [d1, d2, d3] => { results := [.lit (.bool true)], args := [d1, d2, d3] }
  | _ => none }
def lengthsOrderRow : OpenClaim := { program := "ytalmnhdnclmhbaa", sum := "b9a81e9b9528100c848fb3c9810a2761b573642f830f69daf2323188b71fd70a", func := "vidimus/vidimuslaw03.LengthsOrder", spec := "lengthsOrder", apart := false }
def LengthsOrderSaid : Prop := lengthsOrderRow.holds Try.pinned (OpenSpec.ofChange lengthsOrderSpec)

/-- ITS FALSE NEIGHBOUR: 'it returns false'. Refute it at one input. -/
def lengthsOrderWrong : ChangeSpec := { name := "lengthsOrder", fn := fun _ => fun
  | [d1, d2, d3] => { results := [.lit (.bool false)], args := [d1, d2, d3] }
  | _ => none }
def LengthsOrderWrongFalsely : Prop := lengthsOrderRow.holds Try.pinned (OpenSpec.ofChange lengthsOrderWrong)

/-- 'vidimuslaw03.LengthsKnown': WHATEVER THE INPUT: true; the input reads as it did. -/
def lengthsKnownSpec : ChangeSpec := { name := "lengthsKnown", fn := fun _ => fun
  | [] => { results := [.lit (.bool true)], args := [] }
  | _ => none }
def lengthsKnownRow : OpenClaim := { program := "ytalmnhdnclmhbaa", sum := "b9a81e9b9528100c848fb3c9810a2761b573642f830f69daf2323188b71fd70a", func := "vidimus/vidimuslaw03.LengthsKnown", spec := "lengthsKnown", apart := false }
def LengthsKnownSaid : Prop := lengthsKnownRow.holds Try.pinned (OpenSpec.ofChange lengthsKnownSpec)

/-- ITS FALSE NEIGHBOUR: 'it returns false'. Refute it at one input. -/
def lengthsKnownWrong : ChangeSpec := { name := "lengthsKnown", fn := fun _ => fun
  | [] => { results := [.lit (.bool false)], args := [] }
  | _ => none }
def LengthsKnownWrongFalsely : Prop := lengthsKnownRow.holds Try.pinned (OpenSpec.ofChange lengthsKnownWrong)

/-- 'vidimuslaw08.BitstringsGet': WHATEVER THE INPUT: true; the input reads as it did. -/
def bitstringsGetSpec : ChangeSpec := { name := "bitstringsGet", fn := fun _ => fun
  | [d] => { results := [.lit (.bool true)], args := [d] }
  | _ => none }
def bitstringsGetRow : OpenClaim := { program := "ytalmnhdnclmhbaa", sum := "b9a81e9b9528100c848fb3c9810a2761b573642f830f69daf2323188b71fd70a", func := "vidimus/vidimuslaw08.BitstringsGet", spec := "bitstringsGet", apart := false }
def BitstringsGetSaid : Prop := bitstringsGetRow.holds Try.pinned (OpenSpec.ofChange bitstringsGetSpec)

/-- ITS FALSE NEIGHBOUR: 'it returns false'. Refute it at one input. -/
def bitstringsGetWrong : ChangeSpec := { name := "bitstringsGet", fn := fun _ => fun
  | [d] => { results := [.lit (.bool false)], args := [d] }
  | _ => none }
def BitstringsGetWrongFalsely : Prop := bitstringsGetRow.holds Try.pinned (OpenSpec.ofChange bitstringsGetWrong)

/-- 'vidimuslaw08.BitstringsNamed': WHATEVER THE INPUT: true; the input reads as it did. -/
def bitstringsNamedSpec : ChangeSpec := { name := "bitstringsNamed", fn := fun _ => fun
  | [d1, d2] => { results := [.lit (.bool true)], args := [d1, d2] }
  | _ => none }
def bitstringsNamedRow : OpenClaim := { program := "ytalmnhdnclmhbaa", sum := "b9a81e9b9528100c848fb3c9810a2761b573642f830f69daf2323188b71fd70a", func := "vidimus/vidimuslaw08.BitstringsNamed", spec := "bitstringsNamed", apart := false }
def BitstringsNamedSaid : Prop := bitstringsNamedRow.holds Try.pinned (OpenSpec.ofChange bitstringsNamedSpec)

/-- ITS FALSE NEIGHBOUR: 'it returns false'. Refute it at one input. -/
def bitstringsNamedWrong : ChangeSpec := { name := "bitstringsNamed", fn := fun _ => fun
  | [d1, d2] => { results := [.lit (.bool false)], args := [d1, d2] }
  | _ => none }
def BitstringsNamedWrongFalsely : Prop := bitstringsNamedRow.holds Try.pinned (OpenSpec.ofChange bitstringsNamedWrong)

/-- 'vidimuslaw08.BitstringsKnown': WHATEVER THE INPUT: true; the input reads as it did. -/
def bitstringsKnownSpec : ChangeSpec := { name := "bitstringsKnown", fn := fun _ => fun
  | [] => { results := [.lit (.bool true)], args := [] }
  | _ => none }
def bitstringsKnownRow : OpenClaim := { program := "ytalmnhdnclmhbaa", sum := "b9a81e9b9528100c848fb3c9810a2761b573642f830f69daf2323188b71fd70a", func := "vidimus/vidimuslaw08.BitstringsKnown", spec := "bitstringsKnown", apart := false }
def BitstringsKnownSaid : Prop := bitstringsKnownRow.holds Try.pinned (OpenSpec.ofChange bitstringsKnownSpec)

/-- ITS FALSE NEIGHBOUR: 'it returns false'. Refute it at one input. -/
def bitstringsKnownWrong : ChangeSpec := { name := "bitstringsKnown", fn := fun _ => fun
  | [] => { results := [.lit (.bool false)], args := [] }
  | _ => none }
def BitstringsKnownWrongFalsely : Prop := bitstringsKnownRow.holds Try.pinned (OpenSpec.ofChange bitstringsKnownWrong)

/-- 'vidimuslaw08.BitstringsBack': WHATEVER THE INPUT: true; the input reads as it did. -/
def bitstringsBackSpec : ChangeSpec := { name := "bitstringsBack", fn := fun _ => fun
  | [d1, d2] => { results := [.lit (.bool true)], args := [d1, d2] }
  | _ => none }
def bitstringsBackRow : OpenClaim := { program := "ytalmnhdnclmhbaa", sum := "b9a81e9b9528100c848fb3c9810a2761b573642f830f69daf2323188b71fd70a", func := "vidimus/vidimuslaw08.BitstringsBack", spec := "bitstringsBack", apart := false }
def BitstringsBackSaid : Prop := bitstringsBackRow.holds Try.pinned (OpenSpec.ofChange bitstringsBackSpec)

/-- ITS FALSE NEIGHBOUR: 'it returns false'. Refute it at one input. -/
def bitstringsBackWrong : ChangeSpec := { name := "bitstringsBack", fn := fun _ => fun
  | [d1, d2] => { results := [.lit (.bool false)], args := [d1, d2] }
  | _ => none }
def BitstringsBackWrongFalsely : Prop := bitstringsBackRow.holds Try.pinned (OpenSpec.ofChange bitstringsBackWrong)

/-- 'vidimuslaw08.BitstringsErrors': WHATEVER THE INPUT: true; the input reads as it did. -/
def bitstringsErrorsSpec : ChangeSpec := { name := "bitstringsErrors", fn := fun _ => fun
  | [d1, d2, d3] => { results := [.lit (.bool true)], args := [d1, d2, d3] }
  | _ => none }
def bitstringsErrorsRow : OpenClaim := { program := "ytalmnhdnclmhbaa", sum := "b9a81e9b9528100c848fb3c9810a2761b573642f830f69daf2323188b71fd70a", func := "vidimus/vidimuslaw08.BitstringsErrors", spec := "bitstringsErrors", loops := true, apart := false }
def BitstringsErrorsSaid : Prop := bitstringsErrorsRow.holds Try.pinned (OpenSpec.ofChange bitstringsErrorsSpec)

/-- ITS FALSE NEIGHBOUR: 'it returns false'. Refute it at one input. -/
def bitstringsErrorsWrong : ChangeSpec := { name := "bitstringsErrors", fn := fun _ => fun
  | [d1, d2, d3] => { results := [.lit (.bool false)], args := [d1, d2, d3] }
  | _ => none }
def BitstringsErrorsWrongFalsely : Prop := bitstringsErrorsRow.holds Try.pinned (OpenSpec.ofChange bitstringsErrorsWrong)

/- THE SECOND FORM. 'bulk': how many values and letters a reading holds, each counted each time it is reached (what is shared counts as often as it is met; a slice's spare places count too). A statement '..UptoSaid' is the law's where the arguments, and the package variables that the reading takes, are together of bulk at most 1048576: NARROWER than '..Said'. Prove '..Said' where nothing that the law and all that it calls make is longer than what came in: it says more and counts as full. Else prove '..UptoSaid'. A law counts once. -/
mutual
def uptoBulk {H : Type} : DataW H → Nat
  | .lit (.string bytes) => bytes.length + 1
  | .lit _ => 1
  | .nil => 1
  | .ptr d => uptoBulk d + 1
  | .slice elems spare => uptoBulkAll elems + uptoBulkAll spare + 1
  | .agg parts => uptoBulkAll parts + 1
  | .iface _ d => uptoBulk d + 1
  | .map entries => uptoBulkEntries entries + 1
  | .held _ => 1
def uptoBulkAll {H : Type} : List (DataW H) → Nat
  | [] => 0
  | d :: r => uptoBulk d + uptoBulkAll r
def uptoBulkEntries {H : Type} : List (Lit × DataW H) → Nat
  | [] => 0
  | x :: r => uptoBulkEntry x + uptoBulkEntries r
def uptoBulkEntry {H : Type} : Lit × DataW H → Nat
  | (.string bytes, d) => bytes.length + uptoBulk d + 1
  | (_, d) => uptoBulk d + 1
 end
def uptoSmall : (H : Type) → List (DataW H) → Bool := fun _ ds => decide (uptoBulkAll ds ≤ 1048576)
def OpenSpec.upto (s : _root_.Go.ChangeSpec) : _root_.Go.OpenSpec := { _root_.Go.OpenSpec.ofChange s with cond := some uptoSmall }

/-- 'vidimuslaw03.LengthsPut', WHERE WHAT IT READS IS OF BULK AT MOST 1048576: true; the input reads as it did. -/
def lengthsPutUptoRow : OpenClaim := { program := "ytalmnhdnclmhbaa", sum := "b9a81e9b9528100c848fb3c9810a2761b573642f830f69daf2323188b71fd70a", func := "vidimus/vidimuslaw03.LengthsPut", spec := "lengthsPut", apart := false, narrowed := true }
def LengthsPutUptoSaid : Prop := lengthsPutUptoRow.holds Try.pinned (OpenSpec.upto lengthsPutSpec)

/-- 'vidimuslaw03.LengthsBack', WHERE WHAT IT READS IS OF BULK AT MOST 1048576: true; the input reads as it did. -/
def lengthsBackUptoRow : OpenClaim := { program := "ytalmnhdnclmhbaa", sum := "b9a81e9b9528100c848fb3c9810a2761b573642f830f69daf2323188b71fd70a", func := "vidimus/vidimuslaw03.LengthsBack", spec := "lengthsBack", apart := false, narrowed := true }
def LengthsBackUptoSaid : Prop := lengthsBackUptoRow.holds Try.pinned (OpenSpec.upto lengthsBackSpec)

/-- 'vidimuslaw03.LengthsGet', WHERE WHAT IT READS IS OF BULK AT MOST 1048576: true; the input reads as it did. -/
def lengthsGetUptoRow : OpenClaim := { program := "ytalmnhdnclmhbaa", sum := "b9a81e9b9528100c848fb3c9810a2761b573642f830f69daf2323188b71fd70a", func := "vidimus/vidimuslaw03.LengthsGet", spec := "lengthsGet", apart := false, narrowed := true }
def LengthsGetUptoSaid : Prop := lengthsGetUptoRow.holds Try.pinned (OpenSpec.upto lengthsGetSpec)

/-- 'vidimuslaw03.LengthsOrder', WHERE WHAT IT READS IS OF BULK AT MOST 1048576: true; the input reads as it did. -/
def lengthsOrderUptoRow : OpenClaim := { program := "ytalmnhdnclmhbaa", sum := "b9a81e9b9528100c848fb3c9810a2761b573642f830f69daf2323188b71fd70a", func := "vidimus/vidimuslaw03.LengthsOrder", spec := "lengthsOrder", apart := false, narrowed := true }
def LengthsOrderUptoSaid : Prop := lengthsOrderUptoRow.holds Try.pinned (OpenSpec.upto lengthsOrderSpec)

/-- 'vidimuslaw03.LengthsKnown', WHERE WHAT IT READS IS OF BULK AT MOST 1048576: true; the input reads as it did. -/
def lengthsKnownUptoRow : OpenClaim := { program := "ytalmnhdnclmhbaa", sum := "b9a81e9b9528100c848fb3c9810a2761b573642f830f69daf2323188b71fd70a", func := "vidimus/vidimuslaw03.LengthsKnown", spec := "lengthsKnown", apart := false, narrowed := true }
def LengthsKnownUptoSaid : Prop := lengthsKnownUptoRow.holds Try.pinned (OpenSpec.upto lengthsKnownSpec)

/-- 'vidimuslaw08.BitstringsGet', WHERE WHAT IT READS IS OF BULK AT MOST 1048576: true; the input reads as it did. -/
def bitstringsGetUptoRow : OpenClaim := { program := "ytalmnhdnclmhbaa", sum := "b9a81e9b9528100c848fb3c9810a2761b573642f830f69daf2323188b71fd70a", func := "vidimus/vidimuslaw08.BitstringsGet", spec := "bitstringsGet", apart := false, narrowed := true }
def BitstringsGetUptoSaid : Prop := bitstringsGetUptoRow.holds Try.pinned (OpenSpec.upto bitstringsGetSpec)

/-- 'vidimuslaw08.BitstringsNamed', WHERE WHAT IT READS IS OF BULK AT MOST 1048576: true; the input reads as it did. -/
def bitstringsNamedUptoRow : OpenClaim := { program := "ytalmnhdnclmhbaa", sum := "b9a81e9b9528100c848fb3c9810a2761b573642f830f69daf2323188b71fd70a", func := "vidimus/vidimuslaw08.BitstringsNamed", spec := "bitstringsNamed", apart := false, narrowed := true }
def BitstringsNamedUptoSaid : Prop := bitstringsNamedUptoRow.holds Try.pinned (OpenSpec.upto bitstringsNamedSpec)

/-- 'vidimuslaw08.BitstringsKnown', WHERE WHAT IT READS IS OF BULK AT MOST 1048576: true; the input reads as it did. -/
def bitstringsKnownUptoRow : OpenClaim := { program := "ytalmnhdnclmhbaa", sum := "b9a81e9b9528100c848fb3c9810a2761b573642f830f69daf2323188b71fd70a", func := "vidimus/vidimuslaw08.BitstringsKnown", spec := "bitstringsKnown", apart := false, narrowed := true }
def BitstringsKnownUptoSaid : Prop := bitstringsKnownUptoRow.holds Try.pinned (OpenSpec.upto bitstringsKnownSpec)

/-- 'vidimuslaw08.BitstringsBack', WHERE WHAT IT READS IS OF BULK AT MOST 1048576: true; the input reads as it did. -/
def bitstringsBackUptoRow : OpenClaim := { program := "ytalmnhdnclmhbaa", sum := "b9a81e9b9528100c848fb3c9810a2761b573642f830f69daf2323188b71fd70a", func := "vidimus/vidimuslaw08.BitstringsBack", spec := "bitstringsBack", apart := false, narrowed := true }
def BitstringsBackUptoSaid : Prop := bitstringsBackUptoRow.holds Try.pinned (OpenSpec.upto bitstringsBackSpec)

/-- 'vidimuslaw08.BitstringsErrors', WHERE WHAT IT READS IS OF BULK AT MOST 1048576: true; the input reads as it did. -/
def bitstringsErrorsUptoRow : OpenClaim := { program := "ytalmnhdnclmhbaa", sum := "b9a81e9b9528100c848fb3c9810a2761b573642f830f69daf2323188b71fd70a", func := "vidimus/vidimuslaw08.BitstringsErrors", spec := "bitstringsErrors", loops := true, apart := false, narrowed := true }
def BitstringsErrorsUptoSaid : Prop := bitstringsErrorsUptoRow.holds Try.pinned (OpenSpec.upto bitstringsErrorsSpec)

end Rows
end Go.Proofs.Ytalmnhdnclmhbaa
