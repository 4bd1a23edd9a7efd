/- The closed statement AlgorithmsKnown at the evaluator. No conditions. -/
import Derived.Test.YtbiildmljbcmeaaDoorKN1
import Derived.Test.YtbiildmljbcmeaaDoorKN2
import Derived.Test.YtbiildmljbcmeaaDoorG3
import Derived.Test.YtbiildmljbcmeaaDoorB35
open Ab Go TabE
set_option maxRecDepth 20000
set_option linter.unusedSimpArgs false
set_option linter.unusedVariables false
namespace KN3
def p14:List AV → Option AV
  | [] => some (.bool true)
  | _ => none
theorem ok14 (args v) (h:p14 args=some v):∃ N,Con E N 14 args v:=by
  unfold p14 at h
  split at h
  · cases h; exact ⟨200,.of (g:=[]) rfl KN1.lives⟩
  · cases h
def p5:List AV → Option AV
  | [.agg [.int .u8 a,.sl true [] (some 0),.sl true [] (some 0),.int .u8 0],.agg [.int .u8 b,.sl true [] (some 0),.sl true [] (some 0),.int .u8 0]] => if a=1 ∧ b=2 then some (.bool true) else none
  | _ => none
theorem ok5 (args v) (h:p5 args=some v):∃ N,Con E N 5 args v:=by
  unfold p5 at h
  split at h
  · split at h
    · rename_i e; obtain ⟨rfl,rfl⟩:=e
      cases h; exact ⟨300,.of (g:=[]) rfl KN1.same12⟩
    · cases h
  · cases h
def p7:List AV → Option AV
  | [.agg [.int .u8 a,.sl false [.int .u8 b] (some 1),.sl false [.int .u8 c] (some 1),.int .u8 d]] => if a=7 ∧ b=3 ∧ c=255 ∧ d=7 then some (.bool true) else none
  | _ => none
theorem ok7 (args v) (h:p7 args=some v):∃ N,Con E N 7 args v:=by
  unfold p7 at h
  split at h
  · split at h
    · rename_i e; obtain ⟨rfl,rfl,rfl,rfl⟩:=e
      cases h; exact ⟨300,.of (g:=[]) rfl KN2.back7⟩
    · cases h
  · cases h
def prims (i:FuncId):Option (List AV → Option AV):=if i=5 then some p5 else if i=7 then some p7 else if i=14 then some p14 else primT i
def E2:Env:={ E with prim:=prims }
theorem known:aCall E2 300 0 8 [] []=some (.ret (.bool true),[]):=by kernel_rfl
theorem env2:EnvOK Go.Proofs.Tryd.prog E2:=.of rfl tySums_ok tyFit_ok cmpOK extOK
theorem fns2:FnsOK Go.Proofs.Tryd.prog E2:=.of rfl allFn (by
  intro f p h
  have h:prims f=some p:=h
  unfold prims at h
  split at h
  · rename_i e; subst e; cases h; exact prim_of (E2:=E2) env G3.fnsOK mixed rfl E_fn5 rfl ok5
  split at h
  · rename_i e; subst e; cases h; exact prim_of (E2:=E2) env G3.fnsOK mixed rfl E_fn7 rfl ok7
  split at h
  · rename_i e; subst e; cases h; exact prim_of (E2:=E2) env G3.fnsOK mixed rfl E_fn14 rfl ok14
  unfold primT at h
  split at h
  · cases h; exact ⟨G3.prim.fn,fun args v hv hpa hpv base c vals H hb G hvs => G3.prim.call args v hv hpa hpv base c vals H hb (fun i cs hi => G i cs hi) hvs⟩
  · cases h; exact GO5.prim21 E2
  · cases h; exact GO5.prim117 E2
  · cases h)
end KN3
namespace KN3
theorem law:∃ N,Con E2 N 8 [] (.bool true):=⟨300,.of (g:=[]) rfl known⟩
end KN3
