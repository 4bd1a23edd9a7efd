/- A law's call. Own work, no conditions. -/
import Derived.Test.YtbgmkcmailcciaaDoorB30
import Derived.Below
set_option linter.unusedVariables false
set_option linter.unusedSimpArgs false
namespace Ab
open Go
theorem law_calls {P : Program} {E : Env} (O : EnvOK P E) (Fs : FnsOK P E) (hm : P.follows .mixedOrders = true) {n : Nat} {f : FuncId} {fn : AFn} (hf : E.fn f = some fn) (hgr : E.grd f = none) {args : List AV} {vals : List Value} {h : Heap} {w : World} (G : GOK E (cx0 w))
    (hrun : aCall E n 0 f args [] = some (.ret (.bool true), h)) (hv : RVs (cx0 w) args vals) :
    Calls P f ⟨vals⟩ w fun e w' => e = .returned (.bool true) ∧ RowKit.Below w.heap.size w w' := by
  obtain ⟨g, vals', h1, h2⟩ := law_true O Fs hm G hrun hv
  obtain ⟨F, code, q1, q2, q3, q4, q5, q6⟩ := (Fs.fn f fn hf hgr).out
  rw [run_enter q1 (by rw [q2]; rfl) q6] at h1
  have e := h1
  simp only [Result.ok.injEq, Next.enter.injEq, and_true] at e
  obtain ⟨rfl, rfl⟩ := e
  exact h2.mono fun e w' ⟨a, b, c, d, i, j⟩ => ⟨a, b, c, d, i, j⟩
end Ab
