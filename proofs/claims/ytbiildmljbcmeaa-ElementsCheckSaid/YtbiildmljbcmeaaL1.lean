/- ElementsCheck, from laid arguments. No conditions. -/
import Derived.Test.YtbiildmljbcmeaaE18
import Derived.Test.YtbiildmljbcmeaaEW
open Ab Go TabE
set_option linter.unusedVariables false
namespace L1
theorem law {n0 : Nat} {a0 : AV} (h0 : Shp Go.Proofs.Try.prog n0 30 a0.cells) (s0 : a0.scal = !aggTy Go.Proofs.Try.prog 30) (t0 : ∀ x, a0 ≠ .tup x) :
    ∃ N, Con E N 9 [a0] (.bool true) := by
  obtain ⟨e, rfl, he⟩ := EW.el n0 a0 (by rw [s0]; unfold aggTy; rw [Go.Proofs.Try.underlying30]; rfl) h0
  exact E18.law e he
end L1
