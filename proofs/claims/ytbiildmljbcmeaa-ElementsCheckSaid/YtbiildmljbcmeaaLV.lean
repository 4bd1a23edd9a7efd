/- The examples of the chapters, at the evaluator. No conditions. -/
import Derived.Test.YtbiildmljbcmeaaEl
import Derived.Test.YtbiildmljbcmeaaB40
import Derived.KernelRfl
open Ab Go TabE
set_option maxRecDepth 100000
namespace LV
theorem l04 : Con E 200 18 [] (.bool true) := by
  obtain ⟨g, h⟩ := isT_some (show isT (aCall E 200 0 18 [] []) = true by kernel_rfl)
  exact .of (g := g) rfl h
end LV
