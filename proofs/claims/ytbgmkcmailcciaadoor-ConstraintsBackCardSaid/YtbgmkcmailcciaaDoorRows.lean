/-
  NARROWER THAN 'FOR EVERY INPUT', by the rows' own cells (each row's printed sentence says how): ConstraintsBack: laid · ConstraintsOf: loops, laid · ConstraintsGet: laid · ConstraintsErrors: laid · ConstraintsLess: laid · ConstraintsKnown: laid.
  DERIVED. THE GIVEN ROWS OF THIS SEAT. 6 by the template 'for every input the law returns true; each argument reads behind the call as it read before'; 0 by the template 'total and deterministic' (their statements: YtbgmkcmailcciaaDoorTotals.lean).
  GIVEN WITH THE SEED: the statements are not yours to turn. If you find one false, say at which input.
  Laid BY PROGRAM, IN A SANDBOX (cutbox-rows.mjs): the forced cells as the released guide's own fill.sh prints them over the translation 6a24cea817548338… (all of the seat's roots in one cut). By AI agents, Wed Nov 11 2026. No macro, syntax, notation, axiom, sorry.
-/
import Derived.Test.YtbgmkcmailcciaaDoorChecked
import GoSem.Claim
import GoSem.ClaimJoined
import GoSem.ClaimMapViews
import Derived.JoinedTies
import Derived.KernelRfl
namespace Go.Proofs.YtbgmkcmailcciaaDoor
/- THE CELL 'sum', in the pinned program and in every row, IS THE sha256 OF THE DUMP (.gsa) THAT YtbgmkcmailcciaaDoorProg.lean LOADS. Nothing in Lean hashes anything: it is a label: what it is worth is what the hold of that sum in a sandbox is worth. -/
noncomputable def Tryd.pinned : Pinned := { name := "ytbgmkcmailcciaadoor", sum := "6a24cea81754833846ddb5566df56d67a1f4f5e7f37bd3c8bee14090842c1803", checked := Tryd.checked }
namespace Rows
def none {H : Type} : Left H := { results := [], args := [] }

/- WHAT THE LISTED PACKAGE-LEVEL VARIABLES READ AS WHEN THE CALL BEGINS. Each datum BY PROGRAM (the guide's laid-datum.mjs) off the statement by which the dump's own 'gosem.cut.vars' lays the variable. In a bare row this is a premise. The card (YtbgmkcmailcciaaDoorCards.lean) ties it to the program's text. -/
def laid_vidimus_constraints_sequence {H : Type} : DataW H := .agg [.lit (.int .u8 0), .lit (.bool true), .lit (.int .u32 16)]
def laid_vidimus_constraints_integer {H : Type} : DataW H := .agg [.lit (.int .u8 0), .lit (.bool false), .lit (.int .u32 2)]

/-- 'vidimuslaw19.ConstraintsBack': WHATEVER THE INPUT: true; the input reads as it did. -/
def constraintsBackSpec : ChangeSpec := { name := "constraintsBack", fn := fun _ => fun
  | [d1, d2] => { results := [.lit (.bool true)], args := [d1, d2] }
  | _ => none }
def constraintsBackRow : OpenClaim := { program := "ytbgmkcmailcciaadoor", sum := "6a24cea81754833846ddb5566df56d67a1f4f5e7f37bd3c8bee14090842c1803", func := "vidimus/vidimuslaw19.ConstraintsBack", spec := "constraintsBack", unfollowed := true, recurses := true, named := ["vidimus/constraints.sequence", "vidimus/constraints.integer"], apart := false, laid := [("vidimus/constraints.sequence", laid_vidimus_constraints_sequence), ("vidimus/constraints.integer", laid_vidimus_constraints_integer)] }
def ConstraintsBackSaid : Prop := constraintsBackRow.holds Tryd.pinned (OpenSpec.ofChange constraintsBackSpec)

/-- ITS FALSE NEIGHBOUR: 'it returns false'. Refute it at one input. -/
def constraintsBackWrong : ChangeSpec := { name := "constraintsBack", fn := fun _ => fun
  | [d1, d2] => { results := [.lit (.bool false)], args := [d1, d2] }
  | _ => none }
def ConstraintsBackWrongFalsely : Prop := constraintsBackRow.holds Tryd.pinned (OpenSpec.ofChange constraintsBackWrong)

/-- 'vidimuslaw19.ConstraintsOf': WHATEVER THE INPUT: true; the input reads as it did. -/
def constraintsOfSpec : ChangeSpec := { name := "constraintsOf", fn := fun _ => fun
  | [d] => { results := [.lit (.bool true)], args := [d] }
  | _ => none }
def constraintsOfRow : OpenClaim := { program := "ytbgmkcmailcciaadoor", sum := "6a24cea81754833846ddb5566df56d67a1f4f5e7f37bd3c8bee14090842c1803", func := "vidimus/vidimuslaw19.ConstraintsOf", spec := "constraintsOf", unfollowed := true, recurses := true, named := ["vidimus/constraints.sequence", "vidimus/constraints.integer"], loops := true, apart := false, laid := [("vidimus/constraints.sequence", laid_vidimus_constraints_sequence), ("vidimus/constraints.integer", laid_vidimus_constraints_integer)] }
def ConstraintsOfSaid : Prop := constraintsOfRow.holds Tryd.pinned (OpenSpec.ofChange constraintsOfSpec)

/-- ITS FALSE NEIGHBOUR: 'it returns false'. Refute it at one input. -/
def constraintsOfWrong : ChangeSpec := { name := "constraintsOf", fn := fun _ => fun
  | [d] => { results := [.lit (.bool false)], args := [d] }
  | _ => none }
def ConstraintsOfWrongFalsely : Prop := constraintsOfRow.holds Tryd.pinned (OpenSpec.ofChange constraintsOfWrong)

/-- 'vidimuslaw19.ConstraintsGet': WHATEVER THE INPUT: true; the input reads as it did. -/
def constraintsGetSpec : ChangeSpec := { name := "constraintsGet", fn := fun _ => fun
  | [d] => { results := [.lit (.bool true)], args := [d] }
  | _ => none }
def constraintsGetRow : OpenClaim := { program := "ytbgmkcmailcciaadoor", sum := "6a24cea81754833846ddb5566df56d67a1f4f5e7f37bd3c8bee14090842c1803", func := "vidimus/vidimuslaw19.ConstraintsGet", spec := "constraintsGet", unfollowed := true, recurses := true, named := ["vidimus/constraints.sequence", "vidimus/constraints.integer"], apart := false, laid := [("vidimus/constraints.sequence", laid_vidimus_constraints_sequence), ("vidimus/constraints.integer", laid_vidimus_constraints_integer)] }
def ConstraintsGetSaid : Prop := constraintsGetRow.holds Tryd.pinned (OpenSpec.ofChange constraintsGetSpec)

/-- ITS FALSE NEIGHBOUR: 'it returns false'. Refute it at one input. -/
def constraintsGetWrong : ChangeSpec := { name := "constraintsGet", fn := fun _ => fun
  | [d] => { results := [.lit (.bool false)], args := [d] }
  | _ => none }
def ConstraintsGetWrongFalsely : Prop := constraintsGetRow.holds Tryd.pinned (OpenSpec.ofChange constraintsGetWrong)

/-- 'vidimuslaw19.ConstraintsErrors': WHATEVER THE INPUT: true; the input reads as it did. -/
def constraintsErrorsSpec : ChangeSpec := { name := "constraintsErrors", fn := fun _ => fun
  | [d1, d2] => { results := [.lit (.bool true)], args := [d1, d2] }
  | _ => none }
def constraintsErrorsRow : OpenClaim := { program := "ytbgmkcmailcciaadoor", sum := "6a24cea81754833846ddb5566df56d67a1f4f5e7f37bd3c8bee14090842c1803", func := "vidimus/vidimuslaw19.ConstraintsErrors", spec := "constraintsErrors", unfollowed := true, recurses := true, named := ["vidimus/constraints.sequence", "vidimus/constraints.integer"], apart := false, laid := [("vidimus/constraints.sequence", laid_vidimus_constraints_sequence), ("vidimus/constraints.integer", laid_vidimus_constraints_integer)] }
def ConstraintsErrorsSaid : Prop := constraintsErrorsRow.holds Tryd.pinned (OpenSpec.ofChange constraintsErrorsSpec)

/-- ITS FALSE NEIGHBOUR: 'it returns false'. Refute it at one input. -/
def constraintsErrorsWrong : ChangeSpec := { name := "constraintsErrors", fn := fun _ => fun
  | [d1, d2] => { results := [.lit (.bool false)], args := [d1, d2] }
  | _ => none }
def ConstraintsErrorsWrongFalsely : Prop := constraintsErrorsRow.holds Tryd.pinned (OpenSpec.ofChange constraintsErrorsWrong)

/-- 'vidimuslaw19.ConstraintsLess': WHATEVER THE INPUT: true; the input reads as it did. -/
def constraintsLessSpec : ChangeSpec := { name := "constraintsLess", fn := fun _ => fun
  | [d1, d2, d3] => { results := [.lit (.bool true)], args := [d1, d2, d3] }
  | _ => none }
def constraintsLessRow : OpenClaim := { program := "ytbgmkcmailcciaadoor", sum := "6a24cea81754833846ddb5566df56d67a1f4f5e7f37bd3c8bee14090842c1803", func := "vidimus/vidimuslaw19.ConstraintsLess", spec := "constraintsLess", unfollowed := true, recurses := true, named := ["vidimus/constraints.sequence", "vidimus/constraints.integer"], apart := false, laid := [("vidimus/constraints.sequence", laid_vidimus_constraints_sequence), ("vidimus/constraints.integer", laid_vidimus_constraints_integer)] }
def ConstraintsLessSaid : Prop := constraintsLessRow.holds Tryd.pinned (OpenSpec.ofChange constraintsLessSpec)

/-- ITS FALSE NEIGHBOUR: 'it returns false'. Refute it at one input. -/
def constraintsLessWrong : ChangeSpec := { name := "constraintsLess", fn := fun _ => fun
  | [d1, d2, d3] => { results := [.lit (.bool false)], args := [d1, d2, d3] }
  | _ => none }
def ConstraintsLessWrongFalsely : Prop := constraintsLessRow.holds Tryd.pinned (OpenSpec.ofChange constraintsLessWrong)

/-- 'vidimuslaw19.ConstraintsKnown': WHATEVER THE INPUT: true; the input reads as it did. -/
def constraintsKnownSpec : ChangeSpec := { name := "constraintsKnown", fn := fun _ => fun
  | [] => { results := [.lit (.bool true)], args := [] }
  | _ => none }
def constraintsKnownRow : OpenClaim := { program := "ytbgmkcmailcciaadoor", sum := "6a24cea81754833846ddb5566df56d67a1f4f5e7f37bd3c8bee14090842c1803", func := "vidimus/vidimuslaw19.ConstraintsKnown", spec := "constraintsKnown", unfollowed := true, recurses := true, named := ["vidimus/constraints.sequence", "vidimus/constraints.integer"], apart := false, laid := [("vidimus/constraints.sequence", laid_vidimus_constraints_sequence), ("vidimus/constraints.integer", laid_vidimus_constraints_integer)] }
def ConstraintsKnownSaid : Prop := constraintsKnownRow.holds Tryd.pinned (OpenSpec.ofChange constraintsKnownSpec)

/-- ITS FALSE NEIGHBOUR: 'it returns false'. Refute it at one input. -/
def constraintsKnownWrong : ChangeSpec := { name := "constraintsKnown", fn := fun _ => fun
  | [] => { results := [.lit (.bool false)], args := [] }
  | _ => none }
def ConstraintsKnownWrongFalsely : Prop := constraintsKnownRow.holds Tryd.pinned (OpenSpec.ofChange constraintsKnownWrong)

/- THE SECOND FORM. 'bulk': how many values and letters a reading holds, each counted each time it is reached (what is shared counts as often as it is met; a slice's spare places count too). A statement '..UptoSaid' is the law's where the arguments, and the package variables that the reading takes, are together of bulk at most 1048576: NARROWER than '..Said'. Prove '..Said' where nothing that the law and all that it calls make is longer than what came in: it says more and counts as full. Else prove '..UptoSaid'. A law counts once. -/
mutual
def uptoBulk {H : Type} : DataW H → Nat
  | .lit (.string bytes) => bytes.length + 1
  | .lit _ => 1
  | .nil => 1
  | .ptr d => uptoBulk d + 1
  | .slice elems spare => uptoBulkAll elems + uptoBulkAll spare + 1
  | .agg parts => uptoBulkAll parts + 1
  | .iface _ d => uptoBulk d + 1
  | .map entries => uptoBulkEntries entries + 1
  | .held _ => 1
def uptoBulkAll {H : Type} : List (DataW H) → Nat
  | [] => 0
  | d :: r => uptoBulk d + uptoBulkAll r
def uptoBulkEntries {H : Type} : List (Lit × DataW H) → Nat
  | [] => 0
  | x :: r => uptoBulkEntry x + uptoBulkEntries r
def uptoBulkEntry {H : Type} : Lit × DataW H → Nat
  | (.string bytes, d) => bytes.length + uptoBulk d + 1
  | (_, d) => uptoBulk d + 1
 end
def uptoSmall : (H : Type) → List (DataW H) → Bool := fun _ ds => decide (uptoBulkAll ds ≤ 1048576)
def OpenSpec.upto (s : _root_.Go.ChangeSpec) : _root_.Go.OpenSpec := { _root_.Go.OpenSpec.ofChange s with cond := some uptoSmall }

/-- 'vidimuslaw19.ConstraintsBack', WHERE WHAT IT READS IS OF BULK AT MOST 1048576: true; the input reads as it did. -/
def constraintsBackUptoRow : OpenClaim := { program := "ytbgmkcmailcciaadoor", sum := "6a24cea81754833846ddb5566df56d67a1f4f5e7f37bd3c8bee14090842c1803", func := "vidimus/vidimuslaw19.ConstraintsBack", spec := "constraintsBack", unfollowed := true, recurses := true, named := ["vidimus/constraints.sequence", "vidimus/constraints.integer"], apart := false, laid := [("vidimus/constraints.sequence", laid_vidimus_constraints_sequence), ("vidimus/constraints.integer", laid_vidimus_constraints_integer)], narrowed := true }
def ConstraintsBackUptoSaid : Prop := constraintsBackUptoRow.holds Tryd.pinned (OpenSpec.upto constraintsBackSpec)

/-- 'vidimuslaw19.ConstraintsOf', WHERE WHAT IT READS IS OF BULK AT MOST 1048576: true; the input reads as it did. -/
def constraintsOfUptoRow : OpenClaim := { program := "ytbgmkcmailcciaadoor", sum := "6a24cea81754833846ddb5566df56d67a1f4f5e7f37bd3c8bee14090842c1803", func := "vidimus/vidimuslaw19.ConstraintsOf", spec := "constraintsOf", unfollowed := true, recurses := true, named := ["vidimus/constraints.sequence", "vidimus/constraints.integer"], loops := true, apart := false, laid := [("vidimus/constraints.sequence", laid_vidimus_constraints_sequence), ("vidimus/constraints.integer", laid_vidimus_constraints_integer)], narrowed := true }
def ConstraintsOfUptoSaid : Prop := constraintsOfUptoRow.holds Tryd.pinned (OpenSpec.upto constraintsOfSpec)

/-- 'vidimuslaw19.ConstraintsGet', WHERE WHAT IT READS IS OF BULK AT MOST 1048576: true; the input reads as it did. -/
def constraintsGetUptoRow : OpenClaim := { program := "ytbgmkcmailcciaadoor", sum := "6a24cea81754833846ddb5566df56d67a1f4f5e7f37bd3c8bee14090842c1803", func := "vidimus/vidimuslaw19.ConstraintsGet", spec := "constraintsGet", unfollowed := true, recurses := true, named := ["vidimus/constraints.sequence", "vidimus/constraints.integer"], apart := false, laid := [("vidimus/constraints.sequence", laid_vidimus_constraints_sequence), ("vidimus/constraints.integer", laid_vidimus_constraints_integer)], narrowed := true }
def ConstraintsGetUptoSaid : Prop := constraintsGetUptoRow.holds Tryd.pinned (OpenSpec.upto constraintsGetSpec)

/-- 'vidimuslaw19.ConstraintsErrors', WHERE WHAT IT READS IS OF BULK AT MOST 1048576: true; the input reads as it did. -/
def constraintsErrorsUptoRow : OpenClaim := { program := "ytbgmkcmailcciaadoor", sum := "6a24cea81754833846ddb5566df56d67a1f4f5e7f37bd3c8bee14090842c1803", func := "vidimus/vidimuslaw19.ConstraintsErrors", spec := "constraintsErrors", unfollowed := true, recurses := true, named := ["vidimus/constraints.sequence", "vidimus/constraints.integer"], apart := false, laid := [("vidimus/constraints.sequence", laid_vidimus_constraints_sequence), ("vidimus/constraints.integer", laid_vidimus_constraints_integer)], narrowed := true }
def ConstraintsErrorsUptoSaid : Prop := constraintsErrorsUptoRow.holds Tryd.pinned (OpenSpec.upto constraintsErrorsSpec)

/-- 'vidimuslaw19.ConstraintsLess', WHERE WHAT IT READS IS OF BULK AT MOST 1048576: true; the input reads as it did. -/
def constraintsLessUptoRow : OpenClaim := { program := "ytbgmkcmailcciaadoor", sum := "6a24cea81754833846ddb5566df56d67a1f4f5e7f37bd3c8bee14090842c1803", func := "vidimus/vidimuslaw19.ConstraintsLess", spec := "constraintsLess", unfollowed := true, recurses := true, named := ["vidimus/constraints.sequence", "vidimus/constraints.integer"], apart := false, laid := [("vidimus/constraints.sequence", laid_vidimus_constraints_sequence), ("vidimus/constraints.integer", laid_vidimus_constraints_integer)], narrowed := true }
def ConstraintsLessUptoSaid : Prop := constraintsLessUptoRow.holds Tryd.pinned (OpenSpec.upto constraintsLessSpec)

/-- 'vidimuslaw19.ConstraintsKnown', WHERE WHAT IT READS IS OF BULK AT MOST 1048576: true; the input reads as it did. -/
def constraintsKnownUptoRow : OpenClaim := { program := "ytbgmkcmailcciaadoor", sum := "6a24cea81754833846ddb5566df56d67a1f4f5e7f37bd3c8bee14090842c1803", func := "vidimus/vidimuslaw19.ConstraintsKnown", spec := "constraintsKnown", unfollowed := true, recurses := true, named := ["vidimus/constraints.sequence", "vidimus/constraints.integer"], apart := false, laid := [("vidimus/constraints.sequence", laid_vidimus_constraints_sequence), ("vidimus/constraints.integer", laid_vidimus_constraints_integer)], narrowed := true }
def ConstraintsKnownUptoSaid : Prop := constraintsKnownUptoRow.holds Tryd.pinned (OpenSpec.upto constraintsKnownSpec)

end Rows
end Go.Proofs.YtbgmkcmailcciaaDoor
