/- The evaluator: own work, no conditions. -/
import Derived.Test.YtbiildmljbcmeaaB40
import Derived.ChangeArms
import Derived.Test.YtbiildmljbcmeaaB42
/- What a laid argument is, for the evaluator: numbers, bools, strings, slices, structs and arrays of them. Own work, no conditions. -/
set_option linter.unusedVariables false
set_option linter.unusedSimpArgs false
namespace Ab
open Go
def layF (P : Program) (S : TypeId → Bool) : List Field → Nat → Option Nat
  | [], k => some k
  | f :: r, k => if f.offset = k ∧ S f.type = true then layF P S r (k + P.cellsOf f.type) else none
def okTy (P : Program) (S : TypeId → Bool) (t : TypeId) : Bool := match P.underlying t with
  | some .bool | some (.int _) | some .string => P.cellsOf t == 1
  | some (.slice e) => P.cellsOf t == 1 && S e && decide (0 < P.cellsOf e)
  | some (.struct fs) => layF P S fs.toList 0 == some (P.cellsOf t)
  | some (.array m e) => S e && P.cellsOf t == m * P.cellsOf e
  | _ => false
section
variable {H : Type} {enc : TypeId × Value → H} {P : Program} {W : World}
end
end Ab

/- What the evaluator may know of a laid argument. Own work, no conditions. -/
set_option linter.unusedVariables false
set_option linter.unusedSimpArgs false
namespace Ab
open Go
theorem allTy {P : Program} {L : List TypeId} (h : L.all (okTy P fun t => L.contains t) = true) : ∀ t, L.contains t = true → okTy P (fun t => L.contains t) t = true := fun t ht => List.all_eq_true.1 h t (by simpa using ht)
section
variable {H : Type} {enc : TypeId × Value → H} {P : Program} {W : World}
end
section
variable {P : Program} {n : Nat} {t : TypeId}
end
end Ab
