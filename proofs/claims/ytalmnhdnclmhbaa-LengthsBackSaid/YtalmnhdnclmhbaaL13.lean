/- LengthsBack: at every number, row of bytes and byte the law answers true, and the arguments read as before. No conditions. -/
import Derived.Test.YtalmnhdnclmhbaaL12
import Derived.Test.YtalmnhdnclmhbaaAb33
import Derived.Test.YtalmnhdnclmhbaaTabLTie
import Derived.Test.YtalmnhdnclmhbaaRows
import Derived.WalkKit
import Derived.ProofKit
import Derived.OpenShut
import Derived.ShutString
import Derived.ChangeOld
import Derived.Below
import Derived.SizedLaws
namespace Go.Proofs.Ytalmnhdnclmhbaa.lengthsBack
open Go.ChangeShapes Go.WideShapes Go.ChangeAt Go.RowKit
set_option linter.unusedVariables false
theorem own : ownKnob Try.prog.godebug = none := by kernel_rfl
theorem env : Ab.EnvOK Try.prog TabL.E := .of rfl TabL.tySums_ok TabL.tyFit_ok (by
  intro t ht
  have : Ab.cmps 0 TabL.tyTab = [] := by kernel_rfl
  rw [this] at ht
  cases ht)
theorem laidOut : laidOutB Try.prog = true := by kernel_rfl
theorem wfle {k : IntKind} {n : Int} (h : (Lit.int k n).wf = true) : k.min ≤ n ∧ n ≤ k.max := by simpa [Lit.wf] using h
set_option maxRecDepth 100000 in
theorem lifted (os : Os) (started : os.Started) (H : Type) (enc : TypeId × Value → H) :
    ReturnsInHanded {} Try.checked os 4 .any (Rows.lengthsBackSpec.pre6 enc Try.prog Try.f4 Rows.lengthsBackRow.domain false) (Rows.lengthsBackSpec.post enc Try.prog Try.f4 false true false false) := by
  refine returnsInHanded_of_change_sized (C := Try.checked) own started (by kernel_rfl) Try.func4
    (ChangeSpec.witness6 (enc := enc) (C := Try.checked) false ⟨#[], #[.int .u32 0, .slice none 0 0, .int .u8 0], []⟩ 8 (by kernel_rfl) (by kernel_rfl) (by kernel_rfl) (by kernel_rfl)) ?_
  intro W base args ds gs before hval0 hW hcnd hsz0 _
  have hval : ∀ (j : Nat) t v, Try.f4.params[j]? = some t → args[j]? = some v → Value.okWide Try.prog W .any base t v := hval0
  have hW' := hW
  obtain ⟨p, q, hA0, hV, rfl, hfz, hnd⟩ := hW
  have hA : DataW.TrodAll enc Try.prog W 0 (fun _ => true) true Try.f4.params.toList args.toList ds p := hA0
  rw [Try.params4] at hA hval
  obtain ⟨v0, vs0, d0, ds0, p0, q0, hargs, rfl, rfl, h0, r0⟩ := trodAll_cons hA
  obtain ⟨v1, vs1, d1, ds1, p1, q1, rfl, rfl, rfl, h1, r1⟩ := trodAll_cons r0
  obtain ⟨v2, vs2, d2, ds2, p2, q2, rfl, rfl, rfl, h2, r2⟩ := trodAll_cons r1
  obtain ⟨rfl, rfl, rfl⟩ := trodAll_nil r2
  obtain rfl : args = #[v0, v1, v2] := by cases args; simp_all
  obtain ⟨rfl, rfl⟩ := trodVars_none hV
  obtain ⟨a0, rfl, rfl, rfl, w0⟩ := open_int Try.underlying31 (hval 0 31 v0 rfl rfl) h0
  obtain ⟨s1, len1, cap1, rfl⟩ := okWide_slice Try.underlying22 (hval 1 22 v1 rfl rfl)
  have k1 := h1
  have lt1 : ∀ x ∈ p1, x.block < W.heap.size := by obtain ⟨m, hm⟩ := k1; exact DataW.trod_lt m _ _ _ hm
  obtain ⟨f1, a1, b1, rv1⟩ : ∃ f xs, Ab.isB xs ∧ Ab.RV (Ab.cx0 W) (.sl f (Ab.bs xs) none) (.slice s1 len1 cap1) := by
    obtain ⟨fuel, hf⟩ := h1
    rcases open_ints Try.underlying22 Try.underlying5 (by kernel_rfl) hf with ⟨hcs, _⟩ | ⟨x, l, c, zs, hcs, _, hl, hm, hz, _, hcell, hwz⟩
    · simp [Value.cells] at hcs
      obtain ⟨rfl, rfl, rfl⟩ := hcs
      exact Ab.row_RV (.inl ⟨rfl, rfl, rfl, (rfl : ([] : List Int) = [])⟩)
    · simp [Value.cells] at hcs
      obtain ⟨rfl, rfl, rfl⟩ := hcs
      exact Ab.row_RV (.inr ⟨_, rfl, hl, by simpa using hz, hcell, hwz⟩)
  obtain ⟨a2, rfl, rfl, rfl, w2⟩ := open_int Try.underlying5 (hval 2 5 v2 rfl rfl) h2
  clear hA0 hval0 hsz0
  have b0 := wfle w0
  simp only [IntKind.min, IntKind.max, IntKind.signed, IntKind.bits] at b0
  simp at b0
  have b2 := wfle w2
  simp only [IntKind.min, IntKind.max, IntKind.signed, IntKind.bits] at b2
  simp at b2
  refine (Ab.law_calls env TabL.fnsOK TabL.mixed (fun _ => rfl) TabL.E_fn4 (args := [.int .u32 a0, .sl f1 (Ab.bs a1) none, .int .u8 a2]) (vals := [.int .u32 a0, .slice s1 len1 cap1, .int .u8 a2]) (L12.back a0 a2 f1 a1 none (by omega) (by omega) (by omega) 60 (Nat.le_refl _) 0 []) (.cons _ _ _ _ (.int _ _) (.cons _ _ _ _ rv1 (.cons _ _ _ _ (.int _ _) .nil)))).mono fun e W' ⟨he, bel⟩ => ?_
  subst he
  exact ⟨_, rfl, _, _, _, [], _, [], hW', trodAll_mk1 (shut_bool Try.underlying4 _), (trodAll_cons_mk (shut_int Try.underlying31 w0) (trodAll_cons_mk (Below.trod laidOut (by kernel_rfl) (of_decide_eq_true (by kernel_rfl)) k1 bel lt1) (trodAll_cons_mk (shut_int Try.underlying5 w2) trodAll_mk0))), rfl, bel.frame _, fun h => by cases h⟩
theorem over : Rows.lengthsBackRow.holds Try.pinned (OpenSpec.ofChange Rows.lengthsBackSpec) :=
  OpenClaim.holds_of_wide 4 Try.f4 rfl rfl rfl rfl rfl rfl rfl ⟨rfl, rfl, rfl, rfl, rfl⟩ rfl rfl rfl rfl rfl (by kernel_rfl) Try.func4 (by kernel_rfl)
    (of_decide_eq_true (by kernel_rfl)) (by unfold Func.isWrapper; first | (rw [if_pos (by decide +kernel)]; kernel_rfl) | (rw [if_neg (by decide +kernel)]; exact ⟨rfl, rfl⟩))
    (fun os started H enc _ => lifted os started H enc)
theorem proved : Rows.LengthsBackSaid := over
#print axioms proved
end Go.Proofs.Ytalmnhdnclmhbaa.lengthsBack
namespace Go.Proofs.Ytalmnhdnclmhbaa
/-- The row, under a short name, for the claim. -/
theorem lengthsBack_holds : Rows.LengthsBackSaid := lengthsBack.proved
end Go.Proofs.Ytalmnhdnclmhbaa
