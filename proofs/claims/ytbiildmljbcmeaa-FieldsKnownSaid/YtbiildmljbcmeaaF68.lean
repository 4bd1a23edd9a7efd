/- The law FieldsKnown at the evaluator: its second part, which the kernel evaluates; FieldsPlaces and lives as what is proved of them. No conditions. -/
import Derived.Test.YtbiildmljbcmeaaTabE
import Derived.Test.YtbiildmljbcmeaaB42
import Derived.KernelRfl
open Ab Go TabE
set_option maxRecDepth 100000
namespace F68
def p15 : List AV → Option AV
  | [.agg [.sl false [.int .u8 0, .int .u8 4, .int .u8 6, .int .u8 15, .int .u8 5] _], .sl false [.int .u8 0, .int .u8 1] _] => some (.bool true)
  | _ => none
def p50 : List AV → Option AV
  | [] => some (.bool true)
  | _ => none
def prims (f : FuncId) : Option (List AV → Option AV) := if f = 15 then some p15 else if f = 50 then some p50 else E.prim f
def E2 : Env := { E with prim := prims }
def rest : List (Option Nat × Code) := ((flat fn17.body).drop 8).map fun c => (none, c)
def s1 : St := ⟨[(66, .bool false)], []⟩
def out : Option (ARes × Heap) := finA E2 fn17 (aCodesG E2 (site fn17 (aRun E2 200)) (dcall (aRun E2 200)) 200 1 fn17 rest s1)
theorem true_ : out.map (·.1) = some (.ret (.bool true)) := by kernel_rfl
end F68
