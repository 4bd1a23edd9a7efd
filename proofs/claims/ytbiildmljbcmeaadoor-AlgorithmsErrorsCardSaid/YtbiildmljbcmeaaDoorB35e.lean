/- The evaluator: own work, no conditions. -/
import Derived.Test.YtbiildmljbcmeaaDoorB40e
/- What is proved of a function stands in for it. Own work, no conditions. -/
set_option linter.unusedVariables false
set_option linter.unusedSimpArgs false
namespace Ab
open Go
theorem prim_of {P:Program} {E:Env} (O:EnvOK P E) (Fs:FnsOK P E) (hm:P.follows .mixedOrders=true) {E2:Env} (hg:E2.glob=E.glob) {f:FuncId} {fn:AFn} (hf:E.fn f=some fn) (hgr:E.grd f=none) {p:List AV → Option AV}
    (hp:∀ args v,p args=some v → ∃ N,Con E N f args v):PrimOK P E2 f p:=by
  obtain ⟨F,code,q1,q2,q3,q4,q5,q6⟩:=(Fs.fn f fn hf hgr).out
  have hb:F.body.isNone=false:=by rw [q2]; rfl
  refine ⟨⟨F,q1,hb,q6⟩,?_⟩
  intro args v hv _ _ base c vals H hbase G2 hvs
  obtain ⟨N,hN⟩:=hp args v hv
  have G:GOK E c:=fun i cs hi => G2 i cs (by rw [hg]; exact hi)
  obtain ⟨g,vals',h1,h2⟩:=aCall_sound O Fs (draw_sound O hm) N base c 0 f args vals _ _ (hN N (Nat.le_refl _) 0 c.h) H hbase G hvs
  rw [run_enter q1 hb q6] at h1
  simp only [Result.ok.injEq,Next.enter.injEq,and_true] at h1
  obtain ⟨rfl,rfl⟩:=h1
  refine h2.mono ?_
  rintro e w' ⟨c',a1,a2,a3,a4,val,a5,a6⟩
  exact ⟨c',a1,a2,a3,a4,val,a5,a6⟩
end Ab
