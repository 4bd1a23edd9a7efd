/- The examples of the chapter at the evaluator. No conditions. -/
import Derived.Test.YtbgmkcmailcciaaDoorTabC
import Derived.Test.YtbgmkcmailcciaaDoorB30
import Derived.KernelRfl
open Ab Go TabC
set_option maxRecDepth 100000
namespace N0
theorem livesT : isT (aCall E 200 0 10 [] []) = true := by kernel_rfl
theorem lives : Con E 200 10 [] (.bool true) := by
  obtain ⟨g, h⟩ := isT_some livesT
  exact .of (g := g) rfl h
end N0
