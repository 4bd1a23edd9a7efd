/- BitstringsNamed, from laid arguments. No conditions. -/
import Derived.Test.YtalmnhdnclmhbaaT31
import Derived.Test.YtalmnhdnclmhbaaB38
import Derived.Test.YtalmnhdnclmhbaaTabBTie
open Ab Go TabB
namespace T32
theorem law {n0 n1 : Nat} {a0 a1 : AV} (h0 : Shp Go.Proofs.Try.prog n0 45 a0.cells) (s0 : a0.scal = !aggTy Go.Proofs.Try.prog 45) (t0 : ∀ x, a0 ≠ .tup x) (h1 : Shp Go.Proofs.Try.prog n1 5 a1.cells) (s1 : a1.scal = !aggTy Go.Proofs.Try.prog 5) (t1 : ∀ x, a1 ≠ .tup x) :
    ∃ N, Con E N 9 [a0, a1] (.bool true) := by
  obtain ⟨w, e0, w0, w1⟩ := h0.int Go.Proofs.Try.underlying45
  obtain ⟨k, e1, k0, k1⟩ := h1.int Go.Proofs.Try.underlying5
  obtain rfl := cells_one e0 (by rw [s0]; rfl)
  obtain rfl := cells_one e1 (by rw [s1]; rfl)
  simp [IntKind.min, IntKind.max, IntKind.signed, IntKind.bits] at w0 w1 k0 k1
  exact ⟨1200, T31.law w k w0 (by omega) k0 (by omega)⟩
end T32
