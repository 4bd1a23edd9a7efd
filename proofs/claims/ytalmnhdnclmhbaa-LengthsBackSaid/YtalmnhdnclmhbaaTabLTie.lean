/- The tables are the translation's: written by gen.py. No conditions. -/
import Derived.Test.YtalmnhdnclmhbaaTabL
import Derived.Test.YtalmnhdnclmhbaaAb26
import Derived.Test.YtalmnhdnclmhbaaProg
import Derived.KernelRfl
set_option maxRecDepth 100000
set_option maxHeartbeats 4000000
namespace TabL
open Go Ab Go.Proofs

theorem ok3 : FnOK Try.prog 3 fn3 := .of (by kernel_rfl)
theorem ok4 : FnOK Try.prog 4 fn4 := .of (by kernel_rfl)
theorem ok5 : FnOK Try.prog 5 fn5 := .of (by kernel_rfl)
theorem ok6 : FnOK Try.prog 6 fn6 := .of (by kernel_rfl)
theorem ok7 : FnOK Try.prog 7 fn7 := .of (by kernel_rfl)
theorem ok13 : FnOK Try.prog 13 fn13 := .of (by kernel_rfl)
theorem ok14 : FnOK Try.prog 14 fn14 := .of (by kernel_rfl)
theorem ok15 : FnOK Try.prog 15 fn15 := .of (by kernel_rfl)
theorem ok16 : FnOK Try.prog 16 fn16 := .of (by kernel_rfl)
theorem ok17 : FnOK Try.prog 17 fn17 := .of (by kernel_rfl)
theorem ok18 : FnOK Try.prog 18 fn18 := .of (by kernel_rfl)
theorem ok19 : FnOK Try.prog 19 fn19 := .of (by kernel_rfl)
theorem ok20 : FnOK Try.prog 20 fn20 := .of (by kernel_rfl)
theorem ok42 : FnOK Try.prog 42 fn42 := .of (by kernel_rfl)
theorem ok43 : FnOK Try.prog 43 fn43 := .of (by kernel_rfl)
theorem ok44 : FnOK Try.prog 44 fn44 := .of (by kernel_rfl)
theorem allFn : AllFn Try.prog 0 fnTab := ⟨ok3, ok4, ok5, ok6, ok7, ok13, ok14, ok15, ok16, ok17, ok18, ok19, ok20, ok42, ok43, ok44, trivial⟩
theorem tySums_ok : tySums Try.prog 0 tyTab = tyTold tyTab := by kernel_rfl
theorem tyFit_ok : tyFit tyTab = true := by kernel_rfl
theorem mixed : Try.prog.follows .mixedOrders = true := by kernel_rfl
theorem fnsOK : FnsOK Try.prog E := .of rfl allFn (fun f p h => by cases h)
end TabL
