/- AlgorithmsOf, from a laid element. No conditions. -/
import Derived.Test.YtbiildmljbcmeaaDoorA8
import Derived.Test.YtbiildmljbcmeaaDoorEV
open Ab Go TabE
set_option linter.unusedVariables false
namespace LA1
theorem law {n0:Nat} {a0:AV} (h0:Shp Go.Proofs.Tryd.prog n0 29 a0.cells) (s0:a0.scal = !aggTy Go.Proofs.Tryd.prog 29) (t0:∀ x,a0 ≠ .tup x) :
    ∃ N,Con E N 3 [a0] (.bool true):=by
  obtain ⟨e,rfl,he,hn⟩:=EV.el n0 a0 (by rw [s0]; unfold aggTy; rw [Go.Proofs.Tryd.underlying29]; rfl) h0
  exact A8.law e he hn
end LA1
