/- ElementsCheck answers true at every element. No conditions. -/
import Derived.Test.YtbiildmljbcmeaaL1
import Derived.Test.YtbiildmljbcmeaaG3
import Derived.Test.YtbiildmljbcmeaaB38
import Derived.Test.YtbiildmljbcmeaaTabETie
import Derived.Test.YtbiildmljbcmeaaRows
import Derived.WalkKit
import Derived.ProofKit
import Derived.OpenShut
import Derived.ShutString
import Derived.ChangeOld
import Derived.Below
import Derived.SizedLaws
namespace Go.Proofs.Ytbiildmljbcmeaa.elementsCheck
open Go.ChangeShapes Go.WideShapes Go.ChangeAt Go.RowKit
set_option linter.unusedVariables false
theorem own : ownKnob Try.prog.godebug = none := by kernel_rfl
theorem laidOut : laidOutB Try.prog = true := by kernel_rfl
theorem tys : ∀ t, ([30,27,24,4,25,22,5,28] : List TypeId).contains t = true → Ab.okTy Try.prog (fun t => ([30,27,24,4,25,22,5,28] : List TypeId).contains t) t = true := Ab.allTy (by kernel_rfl)
set_option maxRecDepth 100000 in
theorem lifted (os : Os) (started : os.Started) (H : Type) (enc : TypeId × Value → H) :
    ReturnsInHanded {} Try.checked os 9 .any (Rows.elementsCheckSpec.pre6 enc Try.prog Try.f9 Rows.elementsCheckRow.domain false) (Rows.elementsCheckSpec.post enc Try.prog Try.f9 false true false false) := by
  refine returnsInHanded_of_change_sized (C := Try.checked) own started (by kernel_rfl) Try.func9
    (ChangeSpec.witness6 (enc := enc) (C := Try.checked) false ⟨#[], #[.agg #[.int .u8 0, .bool false, .int .u32 0, .slice none 0 0, .slice none 0 0]], []⟩ 20 (by kernel_rfl) (by kernel_rfl) (by kernel_rfl) (by kernel_rfl)) ?_
  intro W base args ds gs before hval0 hW hcnd hsz0 _
  have hval : ∀ (j : Nat) t v, Try.f9.params[j]? = some t → args[j]? = some v → Value.okWide Try.prog W .any base t v := hval0
  have hW' := hW
  obtain ⟨p, q, hA0, hV, rfl, hfz, hnd⟩ := hW
  have hA : DataW.TrodAll enc Try.prog W 0 (fun _ => true) true Try.f9.params.toList args.toList ds p := hA0
  rw [Try.params9] at hA hval
  obtain ⟨v0, vs0, d0, ds0, p0, q0, hargs, rfl, rfl, h0, r0⟩ := trodAll_cons hA
  obtain ⟨rfl, rfl, rfl⟩ := trodAll_nil r0
  obtain rfl : args = #[v0] := by cases args; simp_all
  obtain ⟨rfl, rfl⟩ := trodVars_none hV
  have lt0 : ∀ x ∈ p0, x.block < W.heap.size := by obtain ⟨m, hm⟩ := h0; exact DataW.trod_lt m _ _ _ hm
  obtain ⟨m0, a0, rv0, pu0, sc0, nt0, sh0⟩ := Ab.arg_RV tys (t := 30) (by kernel_rfl) (hval 0 30 v0 rfl rfl) h0
  clear hA0 hval0 hsz0
  obtain ⟨n, hn⟩ := L1.law sh0 sc0 nt0
  refine (Ab.law_calls TabE.env G3.fnsOK TabE.mixed (fn := TabE.fn9) rfl rfl (fun i cs h => by cases h) (args := [a0]) (vals := [v0]) (hn n (Nat.le_refl _) 0 []) (.cons _ _ _ _ rv0 .nil)).mono fun e W' ⟨he, bel⟩ => ?_
  subst he
  exact ⟨_, rfl, _, _, _, [], _, [], hW', trodAll_mk1 (shut_bool Try.underlying4 _), (trodAll_cons_mk (Below.trod laidOut (by kernel_rfl) (of_decide_eq_true (by kernel_rfl)) h0 bel lt0) trodAll_mk0), rfl, bel.frame _, fun h => by cases h⟩
theorem over : Rows.elementsCheckRow.holds Try.pinned (OpenSpec.ofChange Rows.elementsCheckSpec) :=
  OpenClaim.holds_of_wide 9 Try.f9 rfl rfl rfl rfl rfl rfl rfl ⟨rfl, rfl, rfl, rfl, rfl⟩ rfl rfl rfl rfl rfl (by kernel_rfl) Try.func9 (by kernel_rfl)
    (of_decide_eq_true (by kernel_rfl)) (by unfold Func.isWrapper; first | (rw [if_pos (by decide +kernel)]; kernel_rfl) | (rw [if_neg (by decide +kernel)]; exact ⟨rfl, rfl⟩))
    (fun os started H enc _ => lifted os started H enc)
theorem proved : Rows.ElementsCheckSaid := over
#print axioms proved
end Go.Proofs.Ytbiildmljbcmeaa.elementsCheck
namespace Go.Proofs.Ytbiildmljbcmeaa
/-- The row, under a short name, for the claim. -/
theorem elementsCheck_holds : Rows.ElementsCheckSaid := elementsCheck.proved
end Go.Proofs.Ytbiildmljbcmeaa
