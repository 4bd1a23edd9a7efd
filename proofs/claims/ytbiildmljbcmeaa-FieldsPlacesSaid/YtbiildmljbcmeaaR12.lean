/- FieldsPlaces answers true at every row of codes and every path. No conditions. -/
import Derived.Test.YtbiildmljbcmeaaL10
import Derived.Test.YtbiildmljbcmeaaG3
import Derived.Test.YtbiildmljbcmeaaB38
import Derived.Test.YtbiildmljbcmeaaTabETie
import Derived.Test.YtbiildmljbcmeaaRows
import Derived.WalkKit
import Derived.ProofKit
import Derived.OpenShut
import Derived.ShutString
import Derived.ChangeOld
import Derived.Below
import Derived.SizedLaws
namespace Go.Proofs.Ytbiildmljbcmeaa.fieldsPlaces
open Go.ChangeShapes Go.WideShapes Go.ChangeAt Go.RowKit
set_option linter.unusedVariables false
theorem own : ownKnob Try.prog.godebug = none := by kernel_rfl
theorem laidOut : laidOutB Try.prog = true := by kernel_rfl
theorem tys : ∀ t, ([65,22,5] : List TypeId).contains t = true → Ab.okTy Try.prog (fun t => ([65,22,5] : List TypeId).contains t) t = true := Ab.allTy (by kernel_rfl)
set_option maxRecDepth 100000 in
theorem lifted (os : Os) (started : os.Started) (H : Type) (enc : TypeId × Value → H) :
    ReturnsInHanded {} Try.checked os 15 .any (Rows.fieldsPlacesSpec.pre6 enc Try.prog Try.f15 Rows.fieldsPlacesRow.domain false) (Rows.fieldsPlacesSpec.post enc Try.prog Try.f15 false true false false) := by
  refine returnsInHanded_of_change_sized (C := Try.checked) own started (by kernel_rfl) Try.func15
    (ChangeSpec.witness6 (enc := enc) (C := Try.checked) false ⟨#[], #[.agg #[.slice none 0 0], .slice none 0 0], []⟩ 20 (by kernel_rfl) (by kernel_rfl) (by kernel_rfl) (by kernel_rfl)) ?_
  intro W base args ds gs before hval0 hW hcnd hsz0 _
  have hval : ∀ (j : Nat) t v, Try.f15.params[j]? = some t → args[j]? = some v → Value.okWide Try.prog W .any base t v := hval0
  have hW' := hW
  obtain ⟨p, q, hA0, hV, rfl, hfz, hnd⟩ := hW
  have hA : DataW.TrodAll enc Try.prog W 0 (fun _ => true) true Try.f15.params.toList args.toList ds p := hA0
  rw [Try.params15] at hA hval
  obtain ⟨v0, vs0, d0, ds0, p0, q0, hargs, rfl, rfl, h0, r0⟩ := trodAll_cons hA
  obtain ⟨v1, vs1, d1, ds1, p1, q1, rfl, rfl, rfl, h1, r1⟩ := trodAll_cons r0
  obtain ⟨rfl, rfl, rfl⟩ := trodAll_nil r1
  obtain rfl : args = #[v0, v1] := by cases args; simp_all
  obtain ⟨rfl, rfl⟩ := trodVars_none hV
  have lt0 : ∀ x ∈ p0, x.block < W.heap.size := by obtain ⟨m, hm⟩ := h0; exact DataW.trod_lt m _ _ _ hm
  obtain ⟨m0, a0, rv0, pu0, sc0, nt0, sh0⟩ := Ab.arg_RV tys (t := 65) (by kernel_rfl) (hval 0 65 v0 rfl rfl) h0
  have lt1 : ∀ x ∈ p1, x.block < W.heap.size := by obtain ⟨m, hm⟩ := h1; exact DataW.trod_lt m _ _ _ hm
  obtain ⟨m1, a1, rv1, pu1, sc1, nt1, sh1⟩ := Ab.arg_RV tys (t := 22) (by kernel_rfl) (hval 1 22 v1 rfl rfl) h1
  clear hA0 hval0 hsz0
  obtain ⟨n, hn⟩ := L10.law sh0 sc0 nt0 sh1 sc1 nt1
  refine (Ab.law_calls TabE.env G3.fnsOK TabE.mixed (fn := TabE.fn15) rfl rfl (fun i cs h => by cases h) (args := [a0, a1]) (vals := [v0, v1]) (hn n (Nat.le_refl _) 0 []) (.cons _ _ _ _ rv0 (.cons _ _ _ _ rv1 .nil))).mono fun e W' ⟨he, bel⟩ => ?_
  subst he
  exact ⟨_, rfl, _, _, _, [], _, [], hW', trodAll_mk1 (shut_bool Try.underlying4 _), (trodAll_cons_mk (Below.trod laidOut (by kernel_rfl) (of_decide_eq_true (by kernel_rfl)) h0 bel lt0) (trodAll_cons_mk (Below.trod laidOut (by kernel_rfl) (of_decide_eq_true (by kernel_rfl)) h1 bel lt1) trodAll_mk0)), rfl, bel.frame _, fun h => by cases h⟩
theorem over : Rows.fieldsPlacesRow.holds Try.pinned (OpenSpec.ofChange Rows.fieldsPlacesSpec) :=
  OpenClaim.holds_of_wide 15 Try.f15 rfl rfl rfl rfl rfl rfl rfl ⟨rfl, rfl, rfl, rfl, rfl⟩ rfl rfl rfl rfl rfl (by kernel_rfl) Try.func15 (by kernel_rfl)
    (of_decide_eq_true (by kernel_rfl)) (by unfold Func.isWrapper; first | (rw [if_pos (by decide +kernel)]; kernel_rfl) | (rw [if_neg (by decide +kernel)]; exact ⟨rfl, rfl⟩))
    (fun os started H enc _ => lifted os started H enc)
theorem proved : Rows.FieldsPlacesSaid := over
#print axioms proved
end Go.Proofs.Ytbiildmljbcmeaa.fieldsPlaces
namespace Go.Proofs.Ytbiildmljbcmeaa
theorem fieldsPlaces_holds : Rows.FieldsPlacesSaid := fieldsPlaces.proved
end Go.Proofs.Ytbiildmljbcmeaa
