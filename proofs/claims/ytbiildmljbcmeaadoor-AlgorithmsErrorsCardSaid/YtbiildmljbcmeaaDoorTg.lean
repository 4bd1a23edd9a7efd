/- tags.Put, in plain Lean: it stands in for the function. No conditions. -/
import Derived.Test.YtbiildmljbcmeaaDoorOP
set_option linter.unusedSimpArgs false
set_option linter.unusedVariables false
open Ab Go
namespace Sp
def tagE (c:Int) (k:Bool) (n:Int):Int:=if 3 < c ∨ 268435455 < n then 1 else if c=0 ∧ (n=0 ∨ (k=false ∧ (n=16 ∨ n=17))) then 9 else 0
end Sp
namespace TG
def top (v:Int):Nat:=if v < 128 then 0 else if v < 16384 then 1 else if v < 2097152 then 2 else 3
def oct (v:Int) (k:Nat):Int:=v / 2 ^ (7 * k) % 128 + if k=0 then 0 else 128
def grp (v:Int):List Int:=match top v with
  | 0 => [oct v 0]
  | 1 => [oct v 1,oct v 0]
  | 2 => [oct v 2,oct v 1,oct v 0]
  | _ => [oct v 3,oct v 2,oct v 1,oct v 0]
def tagO (c:Int) (k:Bool) (n:Int):List Int:=if n < 31 then [64 * c + (if k then 32 else 0) + n] else (64 * c + (if k then 32 else 0) + 31) :: grp n
def tagP:List AV → Option AV
  | [.agg [.int .u8 c,.bool k,.int .u32 n]] => if 0 ≤ c ∧ c < 256 ∧ 0 ≤ n ∧ n < 4294967296 then
      some (.tup [if Sp.tagE c k n=0 then .sl false ((TG.tagO c k n).map (AV.int .u8)) (some (TG.tagO c k n).length) else .sl true [] (some 0),.int .i64 (Sp.tagE c k n)]) else none
  | _ => none
end TG
namespace TabE
def primT:FuncId → Option (List AV → Option AV)
  | 159 => some TG.tagP
  | 21 => some OP.checkP
  | 117 => some OP.oidP
  | _ => none
end TabE
