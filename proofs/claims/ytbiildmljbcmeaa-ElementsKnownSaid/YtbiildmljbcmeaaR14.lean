/- ElementsKnown answers true. No conditions. -/
import Derived.Test.YtbiildmljbcmeaaL12
import Derived.Test.YtbiildmljbcmeaaG3
import Derived.Test.YtbiildmljbcmeaaB41
import Derived.Test.YtbiildmljbcmeaaTabETie
import Derived.Test.YtbiildmljbcmeaaRows
import Derived.WalkKit
import Derived.ProofKit
import Derived.OpenShut
import Derived.ShutString
import Derived.ChangeOld
import Derived.Below
import Derived.SizedLaws
namespace Go.Proofs.Ytbiildmljbcmeaa.elementsKnown
open Go.ChangeShapes Go.WideShapes Go.ChangeAt Go.RowKit
set_option linter.unusedVariables false
theorem own : ownKnob Try.prog.godebug = none := by kernel_rfl
theorem laidOut : laidOutB Try.prog = true := by kernel_rfl
theorem tys : ∀ t, ([4] : List TypeId).contains t = true → Ab.okTy Try.prog (fun t => ([4] : List TypeId).contains t) t = true := Ab.allTy (by kernel_rfl)
set_option maxRecDepth 100000 in
theorem lifted (os : Os) (started : os.Started) (H : Type) (enc : TypeId × Value → H) :
    ReturnsInHanded {} Try.checked os 6 .any (Rows.elementsKnownSpec.pre6 enc Try.prog Try.f6 Rows.elementsKnownRow.domain false) (Rows.elementsKnownSpec.post enc Try.prog Try.f6 false true false false) := by
  refine returnsInHanded_of_change_sized (C := Try.checked) own started (by kernel_rfl) Try.func6
    (ChangeSpec.witness6 (enc := enc) (C := Try.checked) false ⟨#[], #[], []⟩ 20 (by kernel_rfl) (by kernel_rfl) (by kernel_rfl) (by kernel_rfl)) ?_
  intro W base args ds gs before hval0 hW hcnd hsz0 _
  have hval : ∀ (j : Nat) t v, Try.f6.params[j]? = some t → args[j]? = some v → Value.okWide Try.prog W .any base t v := hval0
  have hW' := hW
  obtain ⟨p, q, hA0, hV, rfl, hfz, hnd⟩ := hW
  have hA : DataW.TrodAll enc Try.prog W 0 (fun _ => true) true Try.f6.params.toList args.toList ds p := hA0
  rw [Try.params6] at hA hval
  obtain ⟨rfl, rfl, rfl⟩ := trodAll_none hA
  obtain ⟨rfl, rfl⟩ := trodVars_none hV
  clear hA0 hval0 hsz0
  obtain ⟨n, hn⟩ := L12.law
  refine (Ab.law_calls TabE.env G3.fnsOK TabE.mixed (fn := TabE.fn6) rfl rfl (fun i cs h => by cases h) (args := []) (vals := []) (hn n (Nat.le_refl _) 0 []) .nil).mono fun e W' ⟨he, bel⟩ => ?_
  subst he
  exact ⟨_, rfl, _, _, _, [], _, [], hW', trodAll_mk1 (shut_bool Try.underlying4 _), trodAll_mk0, rfl, bel.frame _, fun h => by cases h⟩
theorem over : Rows.elementsKnownRow.holds Try.pinned (OpenSpec.ofChange Rows.elementsKnownSpec) :=
  OpenClaim.holds_of_wide 6 Try.f6 rfl rfl rfl rfl rfl rfl rfl ⟨rfl, rfl, rfl, rfl, rfl⟩ rfl rfl rfl rfl rfl (by kernel_rfl) Try.func6 (by kernel_rfl)
    (of_decide_eq_true (by kernel_rfl)) (by unfold Func.isWrapper; first | (rw [if_pos (by decide +kernel)]; kernel_rfl) | (rw [if_neg (by decide +kernel)]; exact ⟨rfl, rfl⟩))
    (fun os started H enc _ => lifted os started H enc)
theorem proved : Rows.ElementsKnownSaid := over
#print axioms proved
end Go.Proofs.Ytbiildmljbcmeaa.elementsKnown
namespace Go.Proofs.Ytbiildmljbcmeaa
theorem elementsKnown_holds : Rows.ElementsKnownSaid := elementsKnown.proved
end Go.Proofs.Ytbiildmljbcmeaa
