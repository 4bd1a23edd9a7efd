/- What the functions of elements come to, in plain Lean. No conditions. -/
import Derived.Test.YtbiildmljbcmeaaEl
open Ab Go TabE
set_option linter.unusedVariables false
set_option linter.unusedSimpArgs false
namespace Sp
mutual
/-- Of an element at a depth, behind so many others of so many levels: the error, the number of elements, the levels. -/
def chk : Cr → Int → Int → Int → Int × Int × Int
  | .mk c k n b s, d, m, l =>
    if tagE c k n ≠ 0 then (tagE c k n, m, l)
    else if (k = true ∧ b ≠ []) ∨ (k = false ∧ s ≠ []) then (1, m, l)
    else if 16 < d then (12, m, l)
    else if m = 8192 then (3, m, l)
    else chks s (d + 1) (m + 1) (max l d)
def chks : List Cr → Int → Int → Int → Int × Int × Int
  | [], _, m, l => (0, m, l)
  | x :: r, d, m, l => if (chk x d m l).1 ≠ 0 then chk x d m l else chks r d (chk x d m l).2.1 (chk x d m l).2.2
end
theorem chk_eq (e : El) (d m l : Int) : chk e.core d m l = if tagE e.c e.k e.n ≠ 0 then (tagE e.c e.k e.n, m, l)
    else if (e.k = true ∧ e.b ≠ []) ∨ (e.k = false ∧ e.s ≠ []) then (1, m, l)
    else if 16 < d then (12, m, l)
    else if m = 8192 then (3, m, l)
    else chks (El.cores e.s) (d + 1) (m + 1) (max l d) := by
  rw [El.core_eq, chk]
  have : El.cores e.s ≠ [] ↔ e.s ≠ [] := by rw [El.cores_map]; cases e.s <;> simp
  simp only [this]
end Sp
