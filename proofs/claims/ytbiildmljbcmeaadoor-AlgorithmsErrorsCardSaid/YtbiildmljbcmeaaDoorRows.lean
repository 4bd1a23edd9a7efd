/-
  NARROWER THAN 'FOR EVERY INPUT', by the rows' own cells (each row's printed sentence says how): AlgorithmsOf: loops, laid · AlgorithmsErrors: loops, laid · AlgorithmsSame: laid · AlgorithmsKeys: loops, laid · AlgorithmsBack: laid · AlgorithmsKnown: laid · ConstraintsOf: loops, laid · ConstraintsGet: laid · MappingsGet: laid · MappingsTurned: laid.
  DERIVED. THE GIVEN ROWS OF THIS SEAT. 10 by the template 'for every input the law returns true; each argument reads behind the call as it read before'; 0 by the template 'total and deterministic' (their statements: YtbiildmljbcmeaaDoorTotals.lean).
  GIVEN WITH THE SEED: the statements are not yours to turn. If you find one false, say at which input.
  Laid BY PROGRAM, IN A SANDBOX (cutbox-rows.mjs): the forced cells as the released guide's own fill.sh prints them over the translation 209a72c8aec28243… (all of the seat's roots in one cut). By AI agents, Wed Nov 11 2026. No macro, syntax, notation, axiom, sorry.
-/
import Derived.Test.YtbiildmljbcmeaaDoorChecked
import GoSem.Claim
import GoSem.ClaimJoined
import GoSem.ClaimMapViews
import Derived.JoinedTies
import Derived.KernelRfl
namespace Go.Proofs.YtbiildmljbcmeaaDoor
/- THE CELL 'sum', in the pinned program and in every row, IS THE sha256 OF THE DUMP (.gsa) THAT YtbiildmljbcmeaaDoorProg.lean LOADS. Nothing in Lean hashes anything: it is a label: what it is worth is what the hold of that sum in a sandbox is worth. -/
noncomputable def Tryd.pinned : Pinned := { name := "ytbiildmljbcmeaadoor", sum := "209a72c8aec28243343d15373cf05f0224b0fe6a3c7a7f610326ffce8a25ebfe", checked := Tryd.checked }
namespace Rows
def none {H : Type} : Left H := { results := [], args := [] }

/- WHAT THE LISTED PACKAGE-LEVEL VARIABLES READ AS WHEN THE CALL BEGINS. Each datum BY PROGRAM (the guide's laid-datum.mjs) off the statement by which the dump's own 'gosem.cut.vars' lays the variable. In a bare row this is a premise. The card (YtbiildmljbcmeaaDoorCards.lean) ties it to the program's text. -/
def laid_vidimus_algorithms_sequence {H : Type} : DataW H := .agg [.lit (.int .u8 0), .lit (.bool true), .lit (.int .u32 16)]
def laid_vidimus_algorithms_oid {H : Type} : DataW H := .agg [.lit (.int .u8 0), .lit (.bool false), .lit (.int .u32 6)]
def laid_vidimus_algorithms_bits {H : Type} : DataW H := .agg [.lit (.int .u8 0), .lit (.bool false), .lit (.int .u32 3)]
def laid_vidimus_constraints_sequence {H : Type} : DataW H := .agg [.lit (.int .u8 0), .lit (.bool true), .lit (.int .u32 16)]
def laid_vidimus_constraints_integer {H : Type} : DataW H := .agg [.lit (.int .u8 0), .lit (.bool false), .lit (.int .u32 2)]
def laid_vidimus_mappings_sequence {H : Type} : DataW H := .agg [.lit (.int .u8 0), .lit (.bool true), .lit (.int .u32 16)]
def laid_vidimus_mappings_oid {H : Type} : DataW H := .agg [.lit (.int .u8 0), .lit (.bool false), .lit (.int .u32 6)]

/-- 'vidimuslaw13.AlgorithmsOf': WHATEVER THE INPUT: true; the input reads as it did. -/
def algorithmsOfSpec : ChangeSpec := { name := "algorithmsOf", fn := fun _ => fun
  | [d] => { results := [.lit (.bool true)], args := [d] }
  | _ => none }
def algorithmsOfRow : OpenClaim := { program := "ytbiildmljbcmeaadoor", sum := "209a72c8aec28243343d15373cf05f0224b0fe6a3c7a7f610326ffce8a25ebfe", func := "vidimus/vidimuslaw13.AlgorithmsOf", spec := "algorithmsOf", unfollowed := true, recurses := true, named := ["vidimus/algorithms.oid", "vidimus/algorithms.sequence"], loops := true, plainKeys := false, apart := false, laid := [("vidimus/algorithms.sequence", laid_vidimus_algorithms_sequence), ("vidimus/algorithms.oid", laid_vidimus_algorithms_oid)] }
def AlgorithmsOfSaid : Prop := algorithmsOfRow.holds Tryd.pinned (OpenSpec.ofChange algorithmsOfSpec)

/-- ITS FALSE NEIGHBOUR: 'it returns false'. Refute it at one input. -/
def algorithmsOfWrong : ChangeSpec := { name := "algorithmsOf", fn := fun _ => fun
  | [d] => { results := [.lit (.bool false)], args := [d] }
  | _ => none }
def AlgorithmsOfWrongFalsely : Prop := algorithmsOfRow.holds Tryd.pinned (OpenSpec.ofChange algorithmsOfWrong)

/-- 'vidimuslaw13.AlgorithmsErrors': WHATEVER THE INPUT: true; the input reads as it did. -/
def algorithmsErrorsSpec : ChangeSpec := { name := "algorithmsErrors", fn := fun _ => fun
  | [d1, d2, d3] => { results := [.lit (.bool true)], args := [d1, d2, d3] }
  | _ => none }
def algorithmsErrorsRow : OpenClaim := { program := "ytbiildmljbcmeaadoor", sum := "209a72c8aec28243343d15373cf05f0224b0fe6a3c7a7f610326ffce8a25ebfe", func := "vidimus/vidimuslaw13.AlgorithmsErrors", spec := "algorithmsErrors", unfollowed := true, recurses := true, named := ["vidimus/algorithms.oid", "vidimus/algorithms.sequence"], loops := true, plainKeys := false, apart := false, laid := [("vidimus/algorithms.sequence", laid_vidimus_algorithms_sequence), ("vidimus/algorithms.oid", laid_vidimus_algorithms_oid)] }
def AlgorithmsErrorsSaid : Prop := algorithmsErrorsRow.holds Tryd.pinned (OpenSpec.ofChange algorithmsErrorsSpec)

/-- ITS FALSE NEIGHBOUR: 'it returns false'. Refute it at one input. -/
def algorithmsErrorsWrong : ChangeSpec := { name := "algorithmsErrors", fn := fun _ => fun
  | [d1, d2, d3] => { results := [.lit (.bool false)], args := [d1, d2, d3] }
  | _ => none }
def AlgorithmsErrorsWrongFalsely : Prop := algorithmsErrorsRow.holds Tryd.pinned (OpenSpec.ofChange algorithmsErrorsWrong)

/-- 'vidimuslaw13.AlgorithmsSame': WHATEVER THE INPUT: true; the input reads as it did. -/
def algorithmsSameSpec : ChangeSpec := { name := "algorithmsSame", fn := fun _ => fun
  | [d1, d2] => { results := [.lit (.bool true)], args := [d1, d2] }
  | _ => none }
def algorithmsSameRow : OpenClaim := { program := "ytbiildmljbcmeaadoor", sum := "209a72c8aec28243343d15373cf05f0224b0fe6a3c7a7f610326ffce8a25ebfe", func := "vidimus/vidimuslaw13.AlgorithmsSame", spec := "algorithmsSame", unfollowed := true, recurses := true, named := ["vidimus/algorithms.oid", "vidimus/algorithms.sequence"], plainKeys := false, apart := false, laid := [("vidimus/algorithms.sequence", laid_vidimus_algorithms_sequence), ("vidimus/algorithms.oid", laid_vidimus_algorithms_oid)] }
def AlgorithmsSameSaid : Prop := algorithmsSameRow.holds Tryd.pinned (OpenSpec.ofChange algorithmsSameSpec)

/-- ITS FALSE NEIGHBOUR: 'it returns false'. Refute it at one input. -/
def algorithmsSameWrong : ChangeSpec := { name := "algorithmsSame", fn := fun _ => fun
  | [d1, d2] => { results := [.lit (.bool false)], args := [d1, d2] }
  | _ => none }
def AlgorithmsSameWrongFalsely : Prop := algorithmsSameRow.holds Tryd.pinned (OpenSpec.ofChange algorithmsSameWrong)

/-- 'vidimuslaw13.AlgorithmsKeys': WHATEVER THE INPUT: true; the input reads as it did. -/
def algorithmsKeysSpec : ChangeSpec := { name := "algorithmsKeys", fn := fun _ => fun
  | [d] => { results := [.lit (.bool true)], args := [d] }
  | _ => none }
def algorithmsKeysRow : OpenClaim := { program := "ytbiildmljbcmeaadoor", sum := "209a72c8aec28243343d15373cf05f0224b0fe6a3c7a7f610326ffce8a25ebfe", func := "vidimus/vidimuslaw13.AlgorithmsKeys", spec := "algorithmsKeys", unfollowed := true, recurses := true, named := ["vidimus/algorithms.oid", "vidimus/algorithms.sequence", "vidimus/algorithms.bits"], loops := true, plainKeys := false, apart := false, laid := [("vidimus/algorithms.sequence", laid_vidimus_algorithms_sequence), ("vidimus/algorithms.oid", laid_vidimus_algorithms_oid), ("vidimus/algorithms.bits", laid_vidimus_algorithms_bits)] }
def AlgorithmsKeysSaid : Prop := algorithmsKeysRow.holds Tryd.pinned (OpenSpec.ofChange algorithmsKeysSpec)

/-- ITS FALSE NEIGHBOUR: 'it returns false'. Refute it at one input. -/
def algorithmsKeysWrong : ChangeSpec := { name := "algorithmsKeys", fn := fun _ => fun
  | [d] => { results := [.lit (.bool false)], args := [d] }
  | _ => none }
def AlgorithmsKeysWrongFalsely : Prop := algorithmsKeysRow.holds Tryd.pinned (OpenSpec.ofChange algorithmsKeysWrong)

/-- 'vidimuslaw13.AlgorithmsBack': WHATEVER THE INPUT: true; the input reads as it did. -/
def algorithmsBackSpec : ChangeSpec := { name := "algorithmsBack", fn := fun _ => fun
  | [d] => { results := [.lit (.bool true)], args := [d] }
  | _ => none }
def algorithmsBackRow : OpenClaim := { program := "ytbiildmljbcmeaadoor", sum := "209a72c8aec28243343d15373cf05f0224b0fe6a3c7a7f610326ffce8a25ebfe", func := "vidimus/vidimuslaw13.AlgorithmsBack", spec := "algorithmsBack", unfollowed := true, recurses := true, named := ["vidimus/algorithms.oid", "vidimus/algorithms.sequence", "vidimus/algorithms.bits"], plainKeys := false, apart := false, laid := [("vidimus/algorithms.sequence", laid_vidimus_algorithms_sequence), ("vidimus/algorithms.oid", laid_vidimus_algorithms_oid), ("vidimus/algorithms.bits", laid_vidimus_algorithms_bits)] }
def AlgorithmsBackSaid : Prop := algorithmsBackRow.holds Tryd.pinned (OpenSpec.ofChange algorithmsBackSpec)

/-- ITS FALSE NEIGHBOUR: 'it returns false'. Refute it at one input. -/
def algorithmsBackWrong : ChangeSpec := { name := "algorithmsBack", fn := fun _ => fun
  | [d] => { results := [.lit (.bool false)], args := [d] }
  | _ => none }
def AlgorithmsBackWrongFalsely : Prop := algorithmsBackRow.holds Tryd.pinned (OpenSpec.ofChange algorithmsBackWrong)

/-- 'vidimuslaw13.AlgorithmsKnown': WHATEVER THE INPUT: true; the input reads as it did. -/
def algorithmsKnownSpec : ChangeSpec := { name := "algorithmsKnown", fn := fun _ => fun
  | [] => { results := [.lit (.bool true)], args := [] }
  | _ => none }
def algorithmsKnownRow : OpenClaim := { program := "ytbiildmljbcmeaadoor", sum := "209a72c8aec28243343d15373cf05f0224b0fe6a3c7a7f610326ffce8a25ebfe", func := "vidimus/vidimuslaw13.AlgorithmsKnown", spec := "algorithmsKnown", unfollowed := true, recurses := true, named := ["vidimus/algorithms.sequence", "vidimus/algorithms.oid", "vidimus/algorithms.bits"], plainKeys := false, apart := false, laid := [("vidimus/algorithms.sequence", laid_vidimus_algorithms_sequence), ("vidimus/algorithms.oid", laid_vidimus_algorithms_oid), ("vidimus/algorithms.bits", laid_vidimus_algorithms_bits)] }
def AlgorithmsKnownSaid : Prop := algorithmsKnownRow.holds Tryd.pinned (OpenSpec.ofChange algorithmsKnownSpec)

/-- ITS FALSE NEIGHBOUR: 'it returns false'. Refute it at one input. -/
def algorithmsKnownWrong : ChangeSpec := { name := "algorithmsKnown", fn := fun _ => fun
  | [] => { results := [.lit (.bool false)], args := [] }
  | _ => none }
def AlgorithmsKnownWrongFalsely : Prop := algorithmsKnownRow.holds Tryd.pinned (OpenSpec.ofChange algorithmsKnownWrong)

/-- 'vidimuslaw19.ConstraintsOf': WHATEVER THE INPUT: true; the input reads as it did. -/
def constraintsOfSpec : ChangeSpec := { name := "constraintsOf", fn := fun _ => fun
  | [d] => { results := [.lit (.bool true)], args := [d] }
  | _ => none }
def constraintsOfRow : OpenClaim := { program := "ytbiildmljbcmeaadoor", sum := "209a72c8aec28243343d15373cf05f0224b0fe6a3c7a7f610326ffce8a25ebfe", func := "vidimus/vidimuslaw19.ConstraintsOf", spec := "constraintsOf", unfollowed := true, recurses := true, named := ["vidimus/constraints.sequence", "vidimus/constraints.integer"], loops := true, plainKeys := false, apart := false, laid := [("vidimus/constraints.sequence", laid_vidimus_constraints_sequence), ("vidimus/constraints.integer", laid_vidimus_constraints_integer)] }
def ConstraintsOfSaid : Prop := constraintsOfRow.holds Tryd.pinned (OpenSpec.ofChange constraintsOfSpec)

/-- ITS FALSE NEIGHBOUR: 'it returns false'. Refute it at one input. -/
def constraintsOfWrong : ChangeSpec := { name := "constraintsOf", fn := fun _ => fun
  | [d] => { results := [.lit (.bool false)], args := [d] }
  | _ => none }
def ConstraintsOfWrongFalsely : Prop := constraintsOfRow.holds Tryd.pinned (OpenSpec.ofChange constraintsOfWrong)

/-- 'vidimuslaw19.ConstraintsGet': WHATEVER THE INPUT: true; the input reads as it did. -/
def constraintsGetSpec : ChangeSpec := { name := "constraintsGet", fn := fun _ => fun
  | [d] => { results := [.lit (.bool true)], args := [d] }
  | _ => none }
def constraintsGetRow : OpenClaim := { program := "ytbiildmljbcmeaadoor", sum := "209a72c8aec28243343d15373cf05f0224b0fe6a3c7a7f610326ffce8a25ebfe", func := "vidimus/vidimuslaw19.ConstraintsGet", spec := "constraintsGet", unfollowed := true, recurses := true, named := ["vidimus/constraints.sequence", "vidimus/constraints.integer"], plainKeys := false, apart := false, laid := [("vidimus/constraints.sequence", laid_vidimus_constraints_sequence), ("vidimus/constraints.integer", laid_vidimus_constraints_integer)] }
def ConstraintsGetSaid : Prop := constraintsGetRow.holds Tryd.pinned (OpenSpec.ofChange constraintsGetSpec)

/-- ITS FALSE NEIGHBOUR: 'it returns false'. Refute it at one input. -/
def constraintsGetWrong : ChangeSpec := { name := "constraintsGet", fn := fun _ => fun
  | [d] => { results := [.lit (.bool false)], args := [d] }
  | _ => none }
def ConstraintsGetWrongFalsely : Prop := constraintsGetRow.holds Tryd.pinned (OpenSpec.ofChange constraintsGetWrong)

/-- 'vidimuslaw18.MappingsGet': WHATEVER THE INPUT: true; the input reads as it did. -/
def mappingsGetSpec : ChangeSpec := { name := "mappingsGet", fn := fun _ => fun
  | [d] => { results := [.lit (.bool true)], args := [d] }
  | _ => none }
def mappingsGetRow : OpenClaim := { program := "ytbiildmljbcmeaadoor", sum := "209a72c8aec28243343d15373cf05f0224b0fe6a3c7a7f610326ffce8a25ebfe", func := "vidimus/vidimuslaw18.MappingsGet", spec := "mappingsGet", unfollowed := true, recurses := true, named := ["vidimus/mappings.sequence", "vidimus/mappings.oid"], plainKeys := false, apart := false, laid := [("vidimus/mappings.sequence", laid_vidimus_mappings_sequence), ("vidimus/mappings.oid", laid_vidimus_mappings_oid)] }
def MappingsGetSaid : Prop := mappingsGetRow.holds Tryd.pinned (OpenSpec.ofChange mappingsGetSpec)

/-- ITS FALSE NEIGHBOUR: 'it returns false'. Refute it at one input. -/
def mappingsGetWrong : ChangeSpec := { name := "mappingsGet", fn := fun _ => fun
  | [d] => { results := [.lit (.bool false)], args := [d] }
  | _ => none }
def MappingsGetWrongFalsely : Prop := mappingsGetRow.holds Tryd.pinned (OpenSpec.ofChange mappingsGetWrong)

/-- 'vidimuslaw18.MappingsTurned': WHATEVER THE INPUT: true; the input reads as it did. -/
def mappingsTurnedSpec : ChangeSpec := { name := "mappingsTurned", fn := fun _ => fun
  | [d] => { results := [.lit (.bool true)], args := [d] }
  | _ => none }
def mappingsTurnedRow : OpenClaim := { program := "ytbiildmljbcmeaadoor", sum := "209a72c8aec28243343d15373cf05f0224b0fe6a3c7a7f610326ffce8a25ebfe", func := "vidimus/vidimuslaw18.MappingsTurned", spec := "mappingsTurned", unfollowed := true, recurses := true, named := ["vidimus/mappings.sequence", "vidimus/mappings.oid"], plainKeys := false, apart := false, laid := [("vidimus/mappings.sequence", laid_vidimus_mappings_sequence), ("vidimus/mappings.oid", laid_vidimus_mappings_oid)] }
def MappingsTurnedSaid : Prop := mappingsTurnedRow.holds Tryd.pinned (OpenSpec.ofChange mappingsTurnedSpec)

/-- ITS FALSE NEIGHBOUR: 'it returns false'. Refute it at one input. -/
def mappingsTurnedWrong : ChangeSpec := { name := "mappingsTurned", fn := fun _ => fun
  | [d] => { results := [.lit (.bool false)], args := [d] }
  | _ => none }
def MappingsTurnedWrongFalsely : Prop := mappingsTurnedRow.holds Tryd.pinned (OpenSpec.ofChange mappingsTurnedWrong)

/- THE SECOND FORM. 'bulk': how many values and letters a reading holds, each counted each time it is reached (what is shared counts as often as it is met; a slice's spare places count too). A statement '..UptoSaid' is the law's where the arguments, and the package variables that the reading takes, are together of bulk at most 1048576: NARROWER than '..Said'. Prove '..Said' where nothing that the law and all that it calls make is longer than what came in: it says more and counts as full. Else prove '..UptoSaid'. A law counts once. -/
mutual
def uptoBulk {H : Type} : DataW H → Nat
  | .lit (.string bytes) => bytes.length + 1
  | .lit _ => 1
  | .nil => 1
  | .ptr d => uptoBulk d + 1
  | .slice elems spare => uptoBulkAll elems + uptoBulkAll spare + 1
  | .agg parts => uptoBulkAll parts + 1
  | .iface _ d => uptoBulk d + 1
  | .map entries => uptoBulkEntries entries + 1
  | .held _ => 1
def uptoBulkAll {H : Type} : List (DataW H) → Nat
  | [] => 0
  | d :: r => uptoBulk d + uptoBulkAll r
def uptoBulkEntries {H : Type} : List (Lit × DataW H) → Nat
  | [] => 0
  | x :: r => uptoBulkEntry x + uptoBulkEntries r
def uptoBulkEntry {H : Type} : Lit × DataW H → Nat
  | (.string bytes, d) => bytes.length + uptoBulk d + 1
  | (_, d) => uptoBulk d + 1
 end
def uptoSmall : (H : Type) → List (DataW H) → Bool := fun _ ds => decide (uptoBulkAll ds ≤ 1048576)
def OpenSpec.upto (s : _root_.Go.ChangeSpec) : _root_.Go.OpenSpec := { _root_.Go.OpenSpec.ofChange s with cond := some uptoSmall }

/-- 'vidimuslaw13.AlgorithmsOf', WHERE WHAT IT READS IS OF BULK AT MOST 1048576: true; the input reads as it did. -/
def algorithmsOfUptoRow : OpenClaim := { program := "ytbiildmljbcmeaadoor", sum := "209a72c8aec28243343d15373cf05f0224b0fe6a3c7a7f610326ffce8a25ebfe", func := "vidimus/vidimuslaw13.AlgorithmsOf", spec := "algorithmsOf", unfollowed := true, recurses := true, named := ["vidimus/algorithms.oid", "vidimus/algorithms.sequence"], loops := true, plainKeys := false, apart := false, laid := [("vidimus/algorithms.sequence", laid_vidimus_algorithms_sequence), ("vidimus/algorithms.oid", laid_vidimus_algorithms_oid)], narrowed := true }
def AlgorithmsOfUptoSaid : Prop := algorithmsOfUptoRow.holds Tryd.pinned (OpenSpec.upto algorithmsOfSpec)

/-- 'vidimuslaw13.AlgorithmsErrors', WHERE WHAT IT READS IS OF BULK AT MOST 1048576: true; the input reads as it did. -/
def algorithmsErrorsUptoRow : OpenClaim := { program := "ytbiildmljbcmeaadoor", sum := "209a72c8aec28243343d15373cf05f0224b0fe6a3c7a7f610326ffce8a25ebfe", func := "vidimus/vidimuslaw13.AlgorithmsErrors", spec := "algorithmsErrors", unfollowed := true, recurses := true, named := ["vidimus/algorithms.oid", "vidimus/algorithms.sequence"], loops := true, plainKeys := false, apart := false, laid := [("vidimus/algorithms.sequence", laid_vidimus_algorithms_sequence), ("vidimus/algorithms.oid", laid_vidimus_algorithms_oid)], narrowed := true }
def AlgorithmsErrorsUptoSaid : Prop := algorithmsErrorsUptoRow.holds Tryd.pinned (OpenSpec.upto algorithmsErrorsSpec)

/-- 'vidimuslaw13.AlgorithmsSame', WHERE WHAT IT READS IS OF BULK AT MOST 1048576: true; the input reads as it did. -/
def algorithmsSameUptoRow : OpenClaim := { program := "ytbiildmljbcmeaadoor", sum := "209a72c8aec28243343d15373cf05f0224b0fe6a3c7a7f610326ffce8a25ebfe", func := "vidimus/vidimuslaw13.AlgorithmsSame", spec := "algorithmsSame", unfollowed := true, recurses := true, named := ["vidimus/algorithms.oid", "vidimus/algorithms.sequence"], plainKeys := false, apart := false, laid := [("vidimus/algorithms.sequence", laid_vidimus_algorithms_sequence), ("vidimus/algorithms.oid", laid_vidimus_algorithms_oid)], narrowed := true }
def AlgorithmsSameUptoSaid : Prop := algorithmsSameUptoRow.holds Tryd.pinned (OpenSpec.upto algorithmsSameSpec)

/-- 'vidimuslaw13.AlgorithmsKeys', WHERE WHAT IT READS IS OF BULK AT MOST 1048576: true; the input reads as it did. -/
def algorithmsKeysUptoRow : OpenClaim := { program := "ytbiildmljbcmeaadoor", sum := "209a72c8aec28243343d15373cf05f0224b0fe6a3c7a7f610326ffce8a25ebfe", func := "vidimus/vidimuslaw13.AlgorithmsKeys", spec := "algorithmsKeys", unfollowed := true, recurses := true, named := ["vidimus/algorithms.oid", "vidimus/algorithms.sequence", "vidimus/algorithms.bits"], loops := true, plainKeys := false, apart := false, laid := [("vidimus/algorithms.sequence", laid_vidimus_algorithms_sequence), ("vidimus/algorithms.oid", laid_vidimus_algorithms_oid), ("vidimus/algorithms.bits", laid_vidimus_algorithms_bits)], narrowed := true }
def AlgorithmsKeysUptoSaid : Prop := algorithmsKeysUptoRow.holds Tryd.pinned (OpenSpec.upto algorithmsKeysSpec)

/-- 'vidimuslaw13.AlgorithmsBack', WHERE WHAT IT READS IS OF BULK AT MOST 1048576: true; the input reads as it did. -/
def algorithmsBackUptoRow : OpenClaim := { program := "ytbiildmljbcmeaadoor", sum := "209a72c8aec28243343d15373cf05f0224b0fe6a3c7a7f610326ffce8a25ebfe", func := "vidimus/vidimuslaw13.AlgorithmsBack", spec := "algorithmsBack", unfollowed := true, recurses := true, named := ["vidimus/algorithms.oid", "vidimus/algorithms.sequence", "vidimus/algorithms.bits"], plainKeys := false, apart := false, laid := [("vidimus/algorithms.sequence", laid_vidimus_algorithms_sequence), ("vidimus/algorithms.oid", laid_vidimus_algorithms_oid), ("vidimus/algorithms.bits", laid_vidimus_algorithms_bits)], narrowed := true }
def AlgorithmsBackUptoSaid : Prop := algorithmsBackUptoRow.holds Tryd.pinned (OpenSpec.upto algorithmsBackSpec)

/-- 'vidimuslaw13.AlgorithmsKnown', WHERE WHAT IT READS IS OF BULK AT MOST 1048576: true; the input reads as it did. -/
def algorithmsKnownUptoRow : OpenClaim := { program := "ytbiildmljbcmeaadoor", sum := "209a72c8aec28243343d15373cf05f0224b0fe6a3c7a7f610326ffce8a25ebfe", func := "vidimus/vidimuslaw13.AlgorithmsKnown", spec := "algorithmsKnown", unfollowed := true, recurses := true, named := ["vidimus/algorithms.sequence", "vidimus/algorithms.oid", "vidimus/algorithms.bits"], plainKeys := false, apart := false, laid := [("vidimus/algorithms.sequence", laid_vidimus_algorithms_sequence), ("vidimus/algorithms.oid", laid_vidimus_algorithms_oid), ("vidimus/algorithms.bits", laid_vidimus_algorithms_bits)], narrowed := true }
def AlgorithmsKnownUptoSaid : Prop := algorithmsKnownUptoRow.holds Tryd.pinned (OpenSpec.upto algorithmsKnownSpec)

/-- 'vidimuslaw19.ConstraintsOf', WHERE WHAT IT READS IS OF BULK AT MOST 1048576: true; the input reads as it did. -/
def constraintsOfUptoRow : OpenClaim := { program := "ytbiildmljbcmeaadoor", sum := "209a72c8aec28243343d15373cf05f0224b0fe6a3c7a7f610326ffce8a25ebfe", func := "vidimus/vidimuslaw19.ConstraintsOf", spec := "constraintsOf", unfollowed := true, recurses := true, named := ["vidimus/constraints.sequence", "vidimus/constraints.integer"], loops := true, plainKeys := false, apart := false, laid := [("vidimus/constraints.sequence", laid_vidimus_constraints_sequence), ("vidimus/constraints.integer", laid_vidimus_constraints_integer)], narrowed := true }
def ConstraintsOfUptoSaid : Prop := constraintsOfUptoRow.holds Tryd.pinned (OpenSpec.upto constraintsOfSpec)

/-- 'vidimuslaw19.ConstraintsGet', WHERE WHAT IT READS IS OF BULK AT MOST 1048576: true; the input reads as it did. -/
def constraintsGetUptoRow : OpenClaim := { program := "ytbiildmljbcmeaadoor", sum := "209a72c8aec28243343d15373cf05f0224b0fe6a3c7a7f610326ffce8a25ebfe", func := "vidimus/vidimuslaw19.ConstraintsGet", spec := "constraintsGet", unfollowed := true, recurses := true, named := ["vidimus/constraints.sequence", "vidimus/constraints.integer"], plainKeys := false, apart := false, laid := [("vidimus/constraints.sequence", laid_vidimus_constraints_sequence), ("vidimus/constraints.integer", laid_vidimus_constraints_integer)], narrowed := true }
def ConstraintsGetUptoSaid : Prop := constraintsGetUptoRow.holds Tryd.pinned (OpenSpec.upto constraintsGetSpec)

/-- 'vidimuslaw18.MappingsGet', WHERE WHAT IT READS IS OF BULK AT MOST 1048576: true; the input reads as it did. -/
def mappingsGetUptoRow : OpenClaim := { program := "ytbiildmljbcmeaadoor", sum := "209a72c8aec28243343d15373cf05f0224b0fe6a3c7a7f610326ffce8a25ebfe", func := "vidimus/vidimuslaw18.MappingsGet", spec := "mappingsGet", unfollowed := true, recurses := true, named := ["vidimus/mappings.sequence", "vidimus/mappings.oid"], plainKeys := false, apart := false, laid := [("vidimus/mappings.sequence", laid_vidimus_mappings_sequence), ("vidimus/mappings.oid", laid_vidimus_mappings_oid)], narrowed := true }
def MappingsGetUptoSaid : Prop := mappingsGetUptoRow.holds Tryd.pinned (OpenSpec.upto mappingsGetSpec)

/-- 'vidimuslaw18.MappingsTurned', WHERE WHAT IT READS IS OF BULK AT MOST 1048576: true; the input reads as it did. -/
def mappingsTurnedUptoRow : OpenClaim := { program := "ytbiildmljbcmeaadoor", sum := "209a72c8aec28243343d15373cf05f0224b0fe6a3c7a7f610326ffce8a25ebfe", func := "vidimus/vidimuslaw18.MappingsTurned", spec := "mappingsTurned", unfollowed := true, recurses := true, named := ["vidimus/mappings.sequence", "vidimus/mappings.oid"], plainKeys := false, apart := false, laid := [("vidimus/mappings.sequence", laid_vidimus_mappings_sequence), ("vidimus/mappings.oid", laid_vidimus_mappings_oid)], narrowed := true }
def MappingsTurnedUptoSaid : Prop := mappingsTurnedUptoRow.holds Tryd.pinned (OpenSpec.upto mappingsTurnedSpec)

end Rows
end Go.Proofs.YtbiildmljbcmeaaDoor
