/- BitstringsBack answers true at every row of bits and every number. No conditions. -/
import Derived.Test.YtalmnhdnclmhbaaL46
import Derived.Test.YtalmnhdnclmhbaaB38
import Derived.Test.YtalmnhdnclmhbaaTabBTie
import Derived.Test.YtalmnhdnclmhbaaRows
import Derived.WalkKit
import Derived.ProofKit
import Derived.OpenShut
import Derived.ShutString
import Derived.ChangeOld
import Derived.Below
import Derived.SizedLaws
namespace Go.Proofs.Ytalmnhdnclmhbaa.bitstringsBack
open Go.ChangeShapes Go.WideShapes Go.ChangeAt Go.RowKit
set_option linter.unusedVariables false
theorem own : ownKnob Try.prog.godebug = none := by kernel_rfl
theorem laidOut : laidOutB Try.prog = true := by kernel_rfl
theorem tys : ∀ t, ([64,63,22,5,3] : List TypeId).contains t = true → Ab.okTy Try.prog (fun t => ([64,63,22,5,3] : List TypeId).contains t) t = true := Ab.allTy (by kernel_rfl)
set_option maxRecDepth 100000 in
theorem lifted (os : Os) (started : os.Started) (H : Type) (enc : TypeId × Value → H) :
    ReturnsInHanded {} Try.checked os 11 .any (Rows.bitstringsBackSpec.pre6 enc Try.prog Try.f11 Rows.bitstringsBackRow.domain false) (Rows.bitstringsBackSpec.post enc Try.prog Try.f11 false true false false) := by
  refine returnsInHanded_of_change_sized (C := Try.checked) own started (by kernel_rfl) Try.func11
    (ChangeSpec.witness6 (enc := enc) (C := Try.checked) false ⟨#[], #[.agg #[.slice none 0 0], .int .i64 0], []⟩ 20 (by kernel_rfl) (by kernel_rfl) (by kernel_rfl) (by kernel_rfl)) ?_
  intro W base args ds gs before hval0 hW hcnd hsz0 _
  have hval : ∀ (j : Nat) t v, Try.f11.params[j]? = some t → args[j]? = some v → Value.okWide Try.prog W .any base t v := hval0
  have hW' := hW
  obtain ⟨p, q, hA0, hV, rfl, hfz, hnd⟩ := hW
  have hA : DataW.TrodAll enc Try.prog W 0 (fun _ => true) true Try.f11.params.toList args.toList ds p := hA0
  rw [Try.params11] at hA hval
  obtain ⟨v0, vs0, d0, ds0, p0, q0, hargs, rfl, rfl, h0, r0⟩ := trodAll_cons hA
  obtain ⟨v1, vs1, d1, ds1, p1, q1, rfl, rfl, rfl, h1, r1⟩ := trodAll_cons r0
  obtain ⟨rfl, rfl, rfl⟩ := trodAll_nil r1
  obtain rfl : args = #[v0, v1] := by cases args; simp_all
  obtain ⟨rfl, rfl⟩ := trodVars_none hV
  have lt0 : ∀ x ∈ p0, x.block < W.heap.size := by obtain ⟨m, hm⟩ := h0; exact DataW.trod_lt m _ _ _ hm
  obtain ⟨m0, a0, rv0, pu0, sc0, nt0, sh0⟩ := Ab.arg_RV tys (t := 64) (by kernel_rfl) (hval 0 64 v0 rfl rfl) h0
  have lt1 : ∀ x ∈ p1, x.block < W.heap.size := by obtain ⟨m, hm⟩ := h1; exact DataW.trod_lt m _ _ _ hm
  obtain ⟨m1, a1, rv1, pu1, sc1, nt1, sh1⟩ := Ab.arg_RV tys (t := 3) (by kernel_rfl) (hval 1 3 v1 rfl rfl) h1
  clear hA0 hval0 hsz0
  obtain ⟨n, hn⟩ := L42.law sh0 sc0 nt0 sh1 sc1 nt1
  refine (Ab.law_calls TabB.env TabB.fnsOK TabB.mixed (fn := TabB.fn11) rfl rfl (fun i cs h => by cases h) (args := [a0, a1]) (vals := [v0, v1]) (hn n (Nat.le_refl _) 0 []) (.cons _ _ _ _ rv0 (.cons _ _ _ _ rv1 .nil))).mono fun e W' ⟨he, bel⟩ => ?_
  subst he
  exact ⟨_, rfl, _, _, _, [], _, [], hW', trodAll_mk1 (shut_bool Try.underlying4 _), (trodAll_cons_mk (Below.trod laidOut (by kernel_rfl) (of_decide_eq_true (by kernel_rfl)) h0 bel lt0) (trodAll_cons_mk (Below.trod laidOut (by kernel_rfl) (of_decide_eq_true (by kernel_rfl)) h1 bel lt1) trodAll_mk0)), rfl, bel.frame _, fun h => by cases h⟩
theorem over : Rows.bitstringsBackRow.holds Try.pinned (OpenSpec.ofChange Rows.bitstringsBackSpec) :=
  OpenClaim.holds_of_wide 11 Try.f11 rfl rfl rfl rfl rfl rfl rfl ⟨rfl, rfl, rfl, rfl, rfl⟩ rfl rfl rfl rfl rfl (by kernel_rfl) Try.func11 (by kernel_rfl)
    (of_decide_eq_true (by kernel_rfl)) (by unfold Func.isWrapper; first | (rw [if_pos (by decide +kernel)]; kernel_rfl) | (rw [if_neg (by decide +kernel)]; exact ⟨rfl, rfl⟩))
    (fun os started H enc _ => lifted os started H enc)
theorem proved : Rows.BitstringsBackSaid := over
#print axioms proved
end Go.Proofs.Ytalmnhdnclmhbaa.bitstringsBack
namespace Go.Proofs.Ytalmnhdnclmhbaa
theorem bitstringsBack_holds : Rows.BitstringsBackSaid := bitstringsBack.proved
end Go.Proofs.Ytalmnhdnclmhbaa
