/- FieldsKnown: the two parts, and what the second takes as known. No conditions. -/
import Derived.Test.YtbiildmljbcmeaaF33
import Derived.Test.YtbiildmljbcmeaaF52
import Derived.Test.YtbiildmljbcmeaaG3
import Derived.Test.YtbiildmljbcmeaaTabETie
import Derived.Test.YtbiildmljbcmeaaB35
open Ab Go TabE Sp F68
set_option maxRecDepth 20000
set_option linter.unusedVariables false
set_option linter.unusedSimpArgs false
namespace L13
theorem env2 : EnvOK Go.Proofs.Try.prog E2 := .of rfl tySums_ok tyFit_ok cmpOK extOK
theorem p15_ok (args : List AV) (v : AV) (h : p15 args = some v) : ∃ N, Con E N 15 args v := by
  unfold p15 at h
  split at h
  · cases h
    have hb : isB [0, 4, 6, 15, 5] := by intro x hx; simp at hx; omega
    have hl : isB [0, 1] := by intro x hx; simp at hx; omega
    exact F52.law false _ [0, 4, 6, 15, 5] hb false _ [0, 1] hl
  · cases h
theorem p50_ok (args : List AV) (v : AV) (h : p50 args = some v) : ∃ N, Con E N 50 args v := by
  unfold p50 at h
  split at h
  · cases h; exact ⟨_, LW.l12⟩
  · cases h
theorem fns2 : FnsOK Go.Proofs.Try.prog E2 := .of rfl allFn (by
  intro f p h
  have h : prims f = some p := h
  unfold prims at h
  split at h
  · rename_i e; subst e; cases h
    exact prim_of (E2 := E2) env G3.fnsOK mixed rfl E_fn15 rfl p15_ok
  · split at h
    · rename_i e; subst e; cases h
      exact prim_of (E2 := E2) env G3.fnsOK mixed rfl E_fn50 rfl p50_ok
    · have q := G3.fnsOK.prim f p h
      exact ⟨q.fn, fun args v a b c base cx vals H hb G hv => q.call args v a b c base cx vals H hb (fun i cs hi => G i cs hi) hv⟩)
theorem run2 : ∃ h, finA E2 fn17 (aCodesG E2 (site fn17 (aRun E2 200)) (dcall (aRun E2 200)) 200 1 fn17 F68.rest s1) = some (.ret (.bool true), h) := by
  have t : out.map (·.1) = some (.ret (.bool true)) := true_
  have e : finA E2 fn17 (aCodesG E2 (site fn17 (aRun E2 200)) (dcall (aRun E2 200)) 200 1 fn17 F68.rest s1) = out := rfl
  rw [e]
  generalize out = o at t
  cases o with
  | none => cases t
  | some p => obtain ⟨r, h⟩ := p; simp at t; exact ⟨h, by rw [t]⟩
theorem calls {w : World} (G : GOK E (cx0 w)) : Calls Go.Proofs.Try.prog 17 ⟨[]⟩ w fun e w' => e = .returned (.bool true) ∧ Go.RowKit.Below w.heap.size w w' := by
  obtain ⟨h, h2⟩ := run2
  exact law_callsG env G3.fnsOK env2 fns2 rfl mixed E_fn17 rfl G F70.l1 F68.rest F70.l_eq (Nat.zero_le _) s1 (F70.run1 400 (by omega)) h2 .nil
end L13
