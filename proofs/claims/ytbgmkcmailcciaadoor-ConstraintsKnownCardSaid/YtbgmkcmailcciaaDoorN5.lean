/- ConstraintsErrors at the two inputs of the closed statement. No conditions. -/
import Derived.Test.YtbgmkcmailcciaaDoorN3
import Derived.Test.YtbgmkcmailcciaaDoorB35
import Derived.Test.YtbgmkcmailcciaaDoorTabCTie
open Ab Go TabC
set_option maxRecDepth 100000
set_option linter.unusedVariables false
namespace N5
def p10 : List AV → Option AV
  | [] => some (.bool true)
  | _ => none
def p14 : List AV → Option AV
  | [.agg [.int .i64 a, .int .i64 b]] => some (.int .i64 (N2.chkI a b))
  | _ => none
def prims : FuncId → Option (List AV → Option AV)
  | 10 => some p10
  | 14 => some p14
  | 25 => some p14
  | _ => none
def E2 : Env := { E with prim := prims }
theorem e1 : isT (aCall E2 200 0 6 [.int .i64 2147483648, .int .i64 (-1)] []) = true := by kernel_rfl
theorem e2 : isT (aCall E2 200 0 6 [.int .i64 (-9223372036854775808), .int .i64 0] []) = true := by kernel_rfl
theorem env2 : EnvOK Go.Proofs.Tryd.prog E2 := .of rfl tySums_ok tyFit_ok cmpOK extOK
theorem fns2 : FnsOK Go.Proofs.Tryd.prog E2 := .of rfl allFn (by
  intro f p h
  have h : prims f = some p := h
  unfold prims at h
  split at h
  · cases h
    refine prim_of (E2 := E2) env fnsOK mixed rfl E_fn10 rfl fun args v h => ?_
    unfold p10 at h
    split at h
    · cases h; exact ⟨_, N0.lives⟩
    · cases h
  · cases h
    refine prim_of (E2 := E2) env fnsOK mixed rfl E_fn14 rfl fun args v h => ?_
    unfold p14 at h
    split at h
    · cases h; exact ⟨_, N2.chk _ _⟩
    · cases h
  · cases h
    refine prim_of (E2 := E2) env fnsOK mixed rfl E_fn25 rfl fun args v h => ?_
    unfold p14 at h
    split at h
    · cases h; exact ⟨_, N2.chkR _ _⟩
    · cases h
  · cases h)
end N5
