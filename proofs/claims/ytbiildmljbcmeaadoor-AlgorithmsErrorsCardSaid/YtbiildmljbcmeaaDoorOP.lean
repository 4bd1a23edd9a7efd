/- oids.Put, in plain Lean: it stands in for the function. No conditions. -/
import Derived.Test.YtbiildmljbcmeaaDoorOG
set_option linter.unusedSimpArgs false
set_option linter.unusedVariables false
open Ab Go
namespace OP
def ints:List AV → Option (List Int)
  | [] => some []
  | .int .u32 x :: r => if 0 ≤ x ∧ x < 4294967296 then (ints r).map (x :: ·) else none
  | _ => none
def okB (n:Int) (xs:List Int):Bool :=
  match xs with
  | x :: y :: _ => decide (2 ≤ n ∧ n ≤ 16 ∧ x ≤ 2 ∧ (x < 2 → y ≤ 39) ∧ y ≤ 4294967215) && (xs.drop n.toNat).all (· == 0)
  | _ => false
def subs (n:Int) (xs:List Int):List Int :=
  match xs with
  | x :: y :: r => (y + 40 * x) :: r.take (n.toNat - 2)
  | _ => []
def octs (n:Int) (xs:List Int):List Int:=(subs n xs).flatMap OG.grp
def checkP:List AV → Option AV
  | [.agg (.int .u8 n :: l)] => (ints l).bind fun xs => if 0 ≤ n ∧ n < 256 ∧ xs.length=16 then some (.int .i64 (if okB n xs then 0 else 1)) else none
  | _ => none
def oidP:List AV → Option AV
  | [.agg (.int .u8 n :: l)] => (ints l).bind fun xs => if 0 ≤ n ∧ n < 256 ∧ xs.length=16 then
      some (if okB n xs then .tup [.sl false ((octs n xs).map (AV.int .u8)) (some (octs n xs).length),.int .i64 0] else .tup [.sl true [] (some 0),.int .i64 1]) else none
  | _ => none
end OP
