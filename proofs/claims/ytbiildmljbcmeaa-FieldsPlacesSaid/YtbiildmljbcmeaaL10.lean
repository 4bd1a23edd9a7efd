/- Own work, no conditions. -/
import Derived.Test.YtbiildmljbcmeaaF34
import Derived.Test.YtbiildmljbcmeaaB38
import Derived.Test.YtbiildmljbcmeaaTabETie
import Derived.Test.YtbiildmljbcmeaaF52
set_option maxRecDepth 20000
set_option linter.unusedSimpArgs false
set_option linter.unusedVariables false
set_option maxHeartbeats 16000000
section
open Ab Go TabE F6
namespace L7
theorem tt {n : Nat} {a : AV} (sh : Shp Go.Proofs.Try.prog n 65 a.cells) (sa : a.scal = !aggTy Go.Proofs.Try.prog 65) (nt : ∀ x, a ≠ .tup x) : ∃ (f : Bool) (cs : List Int), a = .agg [.sl f (bs cs) none] ∧ isB cs := by
  have sa : a.scal = false := by rw [sa]; unfold aggTy; rw [Go.Proofs.Try.underlying65]; rfl
  obtain ⟨m, rfl, hl, hf⟩ := sh.strct Go.Proofs.Try.underlying65
  have c1 : Go.Proofs.Try.prog.cellsOf 65 = 1 := by kernel_rfl
  have c2 : Go.Proofs.Try.prog.cellsOf 22 = 1 := by kernel_rfl
  rw [c1] at hl
  obtain ⟨cs, rfl⟩ : ∃ cs, a = .agg cs := by
    cases a <;> first | exact ⟨_, rfl⟩ | (exfalso; simp [AV.scal] at sa; done) | exact absurd rfl (nt _)
  obtain ⟨x1, rfl⟩ : ∃ x1, cs = [x1] := List.length_eq_one_iff.1 hl
  simp [AV.cells, c2] at hf
  obtain ⟨f, b, e5, _, hb⟩ := hf.bytes Go.Proofs.Try.underlying22 Go.Proofs.Try.underlying5
  obtain rfl : x1 = _ := by simpa using e5
  exact ⟨f, b, rfl, hb⟩
end L7
end
section
open Ab Go TabE
namespace L10
theorem law {n0 n1 : Nat} {a0 a1 : AV} (h0 : Shp Go.Proofs.Try.prog n0 65 a0.cells) (s0 : a0.scal = !aggTy Go.Proofs.Try.prog 65) (t0 : ∀ x, a0 ≠ .tup x) (h1 : Shp Go.Proofs.Try.prog n1 22 a1.cells) (s1 : a1.scal = !aggTy Go.Proofs.Try.prog 22) (t1 : ∀ x, a1 ≠ .tup x) :
    ∃ N, Con E N 15 [a0, a1] (.bool true) := by
  obtain ⟨f, cs, rfl, hb⟩ := L7.tt h0 s0 t0
  obtain ⟨f2, ls, e1, _, hl⟩ := h1.bytes Go.Proofs.Try.underlying22 Go.Proofs.Try.underlying5
  obtain rfl := cells_one e1 (by rw [s1]; unfold aggTy; rw [Go.Proofs.Try.underlying22]; rfl)
  exact F52.law f none cs hb f2 none ls hl
end L10
end
