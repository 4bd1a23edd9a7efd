/- Own work, no conditions. -/
import Derived.Test.YtbiildmljbcmeaaF16
import Derived.Test.YtbiildmljbcmeaaB38
import Derived.Test.YtbiildmljbcmeaaTabETie
section
/- Laid T, F and numbers, for the evaluator: the laws FieldsSequence, FieldsRows, FieldsList. No conditions. -/
open Ab Go TabE F6
set_option linter.unusedVariables false
set_option linter.unusedSimpArgs false
namespace L7
theorem tt {n : Nat} {a : AV} (sh : Shp Go.Proofs.Try.prog n 65 a.cells) (sa : a.scal = !aggTy Go.Proofs.Try.prog 65) (nt : ∀ x, a ≠ .tup x) : ∃ (f : Bool) (cs : List Int), a = .agg [.sl f (bs cs) none] ∧ isB cs := by
  have sa : a.scal = false := by rw [sa]; unfold aggTy; rw [Go.Proofs.Try.underlying65]; rfl
  obtain ⟨m, rfl, hl, hf⟩ := sh.strct Go.Proofs.Try.underlying65
  have c1 : Go.Proofs.Try.prog.cellsOf 65 = 1 := by kernel_rfl
  have c2 : Go.Proofs.Try.prog.cellsOf 22 = 1 := by kernel_rfl
  rw [c1] at hl
  obtain ⟨cs, rfl⟩ : ∃ cs, a = .agg cs := by
    cases a <;> first | exact ⟨_, rfl⟩ | (exfalso; simp [AV.scal] at sa; done) | exact absurd rfl (nt _)
  obtain ⟨x1, rfl⟩ : ∃ x1, cs = [x1] := List.length_eq_one_iff.1 hl
  simp [AV.cells, c2] at hf
  obtain ⟨f, b, e5, _, hb⟩ := hf.bytes Go.Proofs.Try.underlying22 Go.Proofs.Try.underlying5
  obtain rfl : x1 = _ := by simpa using e5
  exact ⟨f, b, rfl, hb⟩
theorem fa_one {m : Nat} {a : AV} (sa : a.scal = false) (sh : Shp Go.Proofs.Try.prog m 125 a.cells) : ∃ g : Fa, a = g.av ∧ g.ok := by
  obtain ⟨m, rfl, hl, hf⟩ := sh.strct Go.Proofs.Try.underlying125
  have c2 : Go.Proofs.Try.prog.cellsOf 125 = 2 := by kernel_rfl
  have c8 : Go.Proofs.Try.prog.cellsOf 5 = 1 := by kernel_rfl
  rw [c2] at hl
  obtain ⟨cs, rfl⟩ : ∃ cs, a = .agg cs := by
    cases a <;> first | exact ⟨_, rfl⟩ | (exfalso; simp [AV.scal] at sa; done) | (exfalso; simp [AV.cells] at hl; done)
  obtain ⟨x1, x2, rfl⟩ : ∃ x1 x2, cs = [x1, x2] := by
    simp only [AV.cells] at hl
    rcases cs with _ | ⟨x1, _ | ⟨x2, _ | ⟨x3, r⟩⟩⟩ <;> simp at hl
    exact ⟨_, _, rfl⟩
  simp [AV.cells, c8] at hf
  obtain ⟨hf1, hf2⟩ := hf
  obtain ⟨a, e1, a0, a1⟩ := hf1.int Go.Proofs.Try.underlying5
  obtain ⟨b, e2, b0, b1⟩ := hf2.int Go.Proofs.Try.underlying5
  obtain rfl : x1 = _ := by simpa using e1
  obtain rfl : x2 = _ := by simpa using e2
  simp [IntKind.min, IntKind.max, IntKind.signed, IntKind.bits] at a0 a1 b0 b1
  exact ⟨⟨a, b⟩, rfl, ⟨a0, by simp only; omega⟩, ⟨b0, by simp only; omega⟩⟩
theorem fa_list {m : Nat} : ∀ xs : List AV, (∀ x ∈ xs, Shp Go.Proofs.Try.prog m 125 x.cells ∧ x.scal = false) → ∃ l : List Fa, xs = l.map Fa.av ∧ ∀ g ∈ l, g.ok
  | [], _ => ⟨[], rfl, fun e h => by cases h⟩
  | x :: r, h => by
    obtain ⟨l, rfl, hl⟩ := fa_list r fun y hy => h y (List.mem_cons_of_mem _ hy)
    obtain ⟨h1, h2⟩ := h x (List.mem_cons_self ..)
    obtain ⟨e, rfl, he⟩ := fa_one h2 h1
    exact ⟨e :: l, rfl, fun y hy => (List.mem_cons.1 hy).elim (fun q => q ▸ he) (hl y)⟩
theorem ff {n : Nat} {a : AV} (sh : Shp Go.Proofs.Try.prog n 66 a.cells) (sa : a.scal = !aggTy Go.Proofs.Try.prog 66) : ∃ (f : Bool) (l : List Fa), a = .sl f (l.map Fa.av) none ∧ (∀ g ∈ l, g.ok) ∧ l.length ≤ 9223372036854775807 := by
  obtain ⟨m', f, xs, _, e5, lx, hx⟩ := sh.slice Go.Proofs.Try.underlying66
  obtain rfl := cells_one e5 (by rw [sa]; unfold aggTy; rw [Go.Proofs.Try.underlying66]; rfl)
  obtain ⟨l, rfl, hl⟩ := fa_list xs fun x hx' => ⟨(hx x hx').1, by rw [(hx x hx').2]; unfold aggTy; rw [Go.Proofs.Try.underlying125]; rfl⟩
  have ml : maxLen = 9223372036854775807 := by decide +kernel
  rw [List.length_map, ml] at lx
  exact ⟨f, l, rfl, hl, lx⟩
theorem two {n : Nat} {a : AV} (sh : Shp Go.Proofs.Try.prog n 82 a.cells) (sa : a.scal = !aggTy Go.Proofs.Try.prog 82) (nt : ∀ x, a ≠ .tup x) : ∃ x y : Int, a = .agg [.int .i64 x, .int .i64 y] := by
  have sa : a.scal = false := by rw [sa]; unfold aggTy; rw [Go.Proofs.Try.underlying82]; rfl
  obtain ⟨m, rfl, hl, hf⟩ := sh.arr Go.Proofs.Try.underlying82
  have c1 : Go.Proofs.Try.prog.cellsOf 82 = 2 := by kernel_rfl
  have c2 : Go.Proofs.Try.prog.cellsOf 3 = 1 := by kernel_rfl
  rw [c1] at hl
  obtain ⟨cs, rfl⟩ : ∃ cs, a = .agg cs := by
    cases a <;> first | exact ⟨_, rfl⟩ | (exfalso; simp [AV.scal] at sa; done) | exact absurd rfl (nt _)
  obtain ⟨x1, x2, rfl⟩ : ∃ x1 x2, cs = [x1, x2] := by
    simp only [AV.cells] at hl
    rcases cs with _ | ⟨x1, _ | ⟨x2, _ | ⟨x3, r⟩⟩⟩ <;> simp at hl
    exact ⟨_, _, rfl⟩
  have h0 := hf 0 (by omega)
  have h1 := hf 1 (by omega)
  simp [AV.cells, c2] at h0 h1
  obtain ⟨a, e1, a0, a1⟩ := h0.int Go.Proofs.Try.underlying3
  obtain ⟨b, e2, b0, b1⟩ := h1.int Go.Proofs.Try.underlying3
  obtain rfl : x1 = _ := by simpa using e1
  obtain rfl : x2 = _ := by simpa using e2
  exact ⟨a, b, rfl⟩
theorem seq {n0 n1 n2 : Nat} {a0 a1 a2 : AV} (h0 : Shp Go.Proofs.Try.prog n0 65 a0.cells) (s0 : a0.scal = !aggTy Go.Proofs.Try.prog 65) (t0 : ∀ x, a0 ≠ .tup x) (h1 : Shp Go.Proofs.Try.prog n1 66 a1.cells) (s1 : a1.scal = !aggTy Go.Proofs.Try.prog 66) (t1 : ∀ x, a1 ≠ .tup x) (h2 : Shp Go.Proofs.Try.prog n2 5 a2.cells) (s2 : a2.scal = !aggTy Go.Proofs.Try.prog 5) (t2 : ∀ x, a2 ≠ .tup x) :
    ∃ N, Con E N 10 [a0, a1, a2] (.bool true) := by
  obtain ⟨f, cs, rfl, hb⟩ := tt h0 s0 t0
  obtain ⟨g, l, rfl, hl, ll⟩ := ff h1 s1
  obtain ⟨x, e2, x0, x1⟩ := h2.int Go.Proofs.Try.underlying5
  obtain rfl := cells_one e2 (by rw [s2]; unfold aggTy; rw [Go.Proofs.Try.underlying5]; rfl)
  simp [IntKind.min, IntKind.max, IntKind.signed, IntKind.bits] at x0 x1
  exact F12.seq f g none none cs l x hb hl ll x0 (by omega)
theorem rows {n0 n1 : Nat} {a0 a1 : AV} (h0 : Shp Go.Proofs.Try.prog n0 65 a0.cells) (s0 : a0.scal = !aggTy Go.Proofs.Try.prog 65) (t0 : ∀ x, a0 ≠ .tup x) (h1 : Shp Go.Proofs.Try.prog n1 66 a1.cells) (s1 : a1.scal = !aggTy Go.Proofs.Try.prog 66) (t1 : ∀ x, a1 ≠ .tup x) :
    ∃ N, Con E N 11 [a0, a1] (.bool true) := by
  obtain ⟨f, cs, rfl, hb⟩ := tt h0 s0 t0
  obtain ⟨g, l, rfl, hl, ll⟩ := ff h1 s1
  exact F12.rows f g none none cs l hb hl ll
theorem list {n0 n1 n2 : Nat} {a0 a1 a2 : AV} (h0 : Shp Go.Proofs.Try.prog n0 65 a0.cells) (s0 : a0.scal = !aggTy Go.Proofs.Try.prog 65) (t0 : ∀ x, a0 ≠ .tup x) (h1 : Shp Go.Proofs.Try.prog n1 82 a1.cells) (s1 : a1.scal = !aggTy Go.Proofs.Try.prog 82) (t1 : ∀ x, a1 ≠ .tup x) (h2 : Shp Go.Proofs.Try.prog n2 25 a2.cells) (s2 : a2.scal = !aggTy Go.Proofs.Try.prog 25) (t2 : ∀ x, a2 ≠ .tup x) :
    ∃ N, Con E N 14 [a0, a1, a2] (.bool true) := by
  obtain ⟨f, cs, rfl, hb⟩ := tt h0 s0 t0
  obtain ⟨z0, z1, rfl⟩ := two h1 s1 t1
  obtain ⟨x, e2, x0, x1⟩ := h2.int Go.Proofs.Try.underlying25
  obtain rfl := cells_one e2 (by rw [s2]; unfold aggTy; rw [Go.Proofs.Try.underlying25]; rfl)
  simp [IntKind.min, IntKind.max, IntKind.signed, IntKind.bits] at x0 x1
  exact F13.list f none cs z0 z1 x hb x0 (by omega)
end L7

end
section
/- FieldsUnder, from laid arguments. No conditions. -/
open Ab Go TabE F1
set_option linter.unusedVariables false
set_option linter.unusedSimpArgs false
namespace L8
theorem law {n0 n1 n2 : Nat} {a0 a1 a2 : AV} (h0 : Shp Go.Proofs.Try.prog n0 47 a0.cells) (s0 : a0.scal = !aggTy Go.Proofs.Try.prog 47) (t0 : ∀ x, a0 ≠ .tup x) (h1 : Shp Go.Proofs.Try.prog n1 5 a1.cells) (s1 : a1.scal = !aggTy Go.Proofs.Try.prog 5) (t1 : ∀ x, a1 ≠ .tup x) (h2 : Shp Go.Proofs.Try.prog n2 82 a2.cells) (s2 : a2.scal = !aggTy Go.Proofs.Try.prog 82) (t2 : ∀ x, a2 ≠ .tup x) :
    ∃ N, Con E N 13 [a0, a1, a2] (.bool true) := by
  obtain ⟨f, ps, e1, _, _⟩ := h0.ints Go.Proofs.Try.underlying47 Go.Proofs.Try.underlying3
  obtain rfl := cells_one e1 (by rw [s0]; unfold aggTy; rw [Go.Proofs.Try.underlying47]; rfl)
  obtain ⟨z0, z1, rfl⟩ := L7.two h2 s2 t2
  obtain ⟨x, e2, x0, x1⟩ := h1.int Go.Proofs.Try.underlying5
  obtain rfl := cells_one e2 (by rw [s1]; unfold aggTy; rw [Go.Proofs.Try.underlying5]; rfl)
  simp [IntKind.min, IntKind.max, IntKind.signed, IntKind.bits] at x0 x1
  exact F16.law f none ps x z0 z1 x0 (by omega)
end L8

end
