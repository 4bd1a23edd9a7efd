/- Own work, no conditions. -/
import Derived.Test.YtbiildmljbcmeaaP5
import Derived.Test.YtbiildmljbcmeaaB38
import Derived.Test.YtbiildmljbcmeaaTabETie
import Derived.Test.YtbiildmljbcmeaaE23
import Derived.Test.YtbiildmljbcmeaaE62
section
/- Laid elements, for the evaluator. No conditions. -/
open Ab Go TabE
set_option linter.unusedVariables false
set_option linter.unusedSimpArgs false
namespace EW
theorem el_list (m : Nat) (ih : ∀ a : AV, a.scal = false → Shp Go.Proofs.Try.prog m 30 a.cells → ∃ e : El, a = e.av ∧ e.ok) : ∀ xs : List AV, (∀ x ∈ xs, Shp Go.Proofs.Try.prog m 30 x.cells ∧ x.scal = false) → ∃ l : List El, xs = El.avs l ∧ ∀ e ∈ l, e.ok
  | [], _ => ⟨[], rfl, fun e h => by cases h⟩
  | x :: r, h => by
    obtain ⟨l, rfl, hl⟩ := el_list m ih r fun y hy => h y (List.mem_cons_of_mem _ hy)
    obtain ⟨h1, h2⟩ := h x (List.mem_cons_self ..)
    obtain ⟨e, rfl, he⟩ := ih x h2 h1
    exact ⟨e :: l, by rw [El.avs], fun y hy => (List.mem_cons.1 hy).elim (fun q => q ▸ he) (hl y)⟩
theorem el : ∀ (n : Nat) (a : AV), a.scal = false → Shp Go.Proofs.Try.prog n 30 a.cells → ∃ e : El, a = e.av ∧ e.ok := by
  intro n
  induction n using Nat.strongRecOn with
  | ind n IH =>
    intro a sa sh
    obtain ⟨m, rfl, hl, hf⟩ := sh.strct Go.Proofs.Try.underlying30
    have c5 : Go.Proofs.Try.prog.cellsOf 30 = 5 := by kernel_rfl
    have c3 : Go.Proofs.Try.prog.cellsOf 27 = 3 := by kernel_rfl
    have cb : Go.Proofs.Try.prog.cellsOf 22 = 1 := by kernel_rfl
    have ce : Go.Proofs.Try.prog.cellsOf 28 = 1 := by kernel_rfl
    have cc : Go.Proofs.Try.prog.cellsOf 24 = 1 := by kernel_rfl
    have co : Go.Proofs.Try.prog.cellsOf 4 = 1 := by kernel_rfl
    have cu : Go.Proofs.Try.prog.cellsOf 25 = 1 := by kernel_rfl
    rw [c5] at hl
    obtain ⟨cs, rfl⟩ : ∃ cs, a = .agg cs := by
      cases a <;> first | exact ⟨_, rfl⟩ | (exfalso; simp [AV.scal] at sa; done) | (exfalso; simp [AV.cells] at hl; done)
    obtain ⟨x1, x2, x3, x4, x5, rfl⟩ : ∃ x1 x2 x3 x4 x5, cs = [x1, x2, x3, x4, x5] := by
      simp only [AV.cells] at hl
      rcases cs with _ | ⟨x1, _ | ⟨x2, _ | ⟨x3, _ | ⟨x4, _ | ⟨x5, _ | ⟨x6, r⟩⟩⟩⟩⟩⟩ <;> simp at hl
      exact ⟨_, _, _, _, _, rfl⟩
    simp [AV.cells, c3, cb, ce] at hf
    obtain ⟨hf1, hf2, hf3⟩ := hf
    obtain ⟨q, rfl, _, ht⟩ := hf1.strct Go.Proofs.Try.underlying27
    simp [cc, co, cu] at ht
    obtain ⟨ht1, ht2, ht3⟩ := ht
    obtain ⟨c, e1, c0, c1⟩ := ht1.int Go.Proofs.Try.underlying24
    obtain ⟨k, e2⟩ := ht2.bool Go.Proofs.Try.underlying4
    obtain ⟨n, e3, n0, n1⟩ := ht3.int Go.Proofs.Try.underlying25
    obtain ⟨fb, b, e4, lb, hb⟩ := hf2.bytes Go.Proofs.Try.underlying22 Go.Proofs.Try.underlying5
    obtain ⟨m', fs, xs, e6, e5, lx, hx⟩ := hf3.slice Go.Proofs.Try.underlying28
    obtain ⟨s, rfl, hs⟩ := el_list m' (fun a ha hq => IH m' (by omega) a ha hq) xs fun x hx' => ⟨(hx x hx').1, by rw [(hx x hx').2]; unfold aggTy; rw [Go.Proofs.Try.underlying30]; rfl⟩
    obtain rfl : x1 = _ := by simpa using e1
    obtain rfl : x2 = _ := by simpa using e2
    obtain rfl : x3 = _ := by simpa using e3
    obtain rfl : x4 = _ := by simpa using e4
    obtain rfl : x5 = _ := by simpa using e5
    have ml : maxLen = 9223372036854775807 := by decide +kernel
    rw [El.avs_len, ml] at lx
    rw [ml] at lb
    simp [IntKind.min, IntKind.max, IntKind.signed, IntKind.bits] at c0 c1 n0 n1
    exact ⟨.mk c k n fb b none fs s none, by rw [El.av], by rw [El.ok_eq]; exact ⟨⟨by simpa [El.c] using c0, by simp [El.c]; omega⟩, ⟨by simpa [El.n] using n0, by simp [El.n]; omega⟩, hb, lb, lx, hs⟩⟩
end EW

end
section
/- Laid recipes of elements, for the evaluator. No conditions. -/
open Ab Go TabE E22
set_option linter.unusedVariables false
set_option linter.unusedSimpArgs false
namespace EG
theorem g_one {m : Nat} {a : AV} (sa : a.scal = false) (sh : Shp Go.Proofs.Try.prog m 107 a.cells) : ∃ g : G, a = g.av ∧ g.ok := by
  obtain ⟨m, rfl, hl, hf⟩ := sh.strct Go.Proofs.Try.underlying107
  have c6 : Go.Proofs.Try.prog.cellsOf 107 = 6 := by kernel_rfl
  have c3 : Go.Proofs.Try.prog.cellsOf 105 = 3 := by kernel_rfl
  have cb : Go.Proofs.Try.prog.cellsOf 22 = 1 := by kernel_rfl
  have c8 : Go.Proofs.Try.prog.cellsOf 5 = 1 := by kernel_rfl
  have cu : Go.Proofs.Try.prog.cellsOf 25 = 1 := by kernel_rfl
  rw [c6] at hl
  obtain ⟨cs, rfl⟩ : ∃ cs, a = .agg cs := by
    cases a <;> first | exact ⟨_, rfl⟩ | (exfalso; simp [AV.scal] at sa; done) | (exfalso; simp [AV.cells] at hl; done)
  obtain ⟨x1, x2, x3, x4, x5, x6, rfl⟩ : ∃ x1 x2 x3 x4 x5 x6, cs = [x1, x2, x3, x4, x5, x6] := by
    simp only [AV.cells] at hl
    rcases cs with _ | ⟨x1, _ | ⟨x2, _ | ⟨x3, _ | ⟨x4, _ | ⟨x5, _ | ⟨x6, _ | ⟨x7, r⟩⟩⟩⟩⟩⟩⟩ <;> simp at hl
    exact ⟨_, _, _, _, _, _, rfl⟩
  simp [AV.cells, c3, cb, c8] at hf
  obtain ⟨hf1, hf2, hf3, hf4⟩ := hf
  obtain ⟨q, rfl, _, ht⟩ := hf3.strct Go.Proofs.Try.underlying105
  simp [c8, cu] at ht
  obtain ⟨ht1, ht2, ht3⟩ := ht
  obtain ⟨a, e1, a0, a1⟩ := hf1.int Go.Proofs.Try.underlying5
  obtain ⟨b, e2, b0, b1⟩ := hf2.int Go.Proofs.Try.underlying5
  obtain ⟨c, e3, c0, c1⟩ := ht1.int Go.Proofs.Try.underlying5
  obtain ⟨k, e4, k0, k1⟩ := ht2.int Go.Proofs.Try.underlying5
  obtain ⟨n, e5, n0, n1⟩ := ht3.int Go.Proofs.Try.underlying25
  obtain ⟨f, x, e6, lx, hx⟩ := hf4.bytes Go.Proofs.Try.underlying22 Go.Proofs.Try.underlying5
  obtain rfl : x1 = _ := by simpa using e1
  obtain rfl : x2 = _ := by simpa using e2
  obtain rfl : x3 = _ := by simpa using e3
  obtain rfl : x4 = _ := by simpa using e4
  obtain rfl : x5 = _ := by simpa using e5
  obtain rfl : x6 = _ := by simpa using e6
  have ml : maxLen = 9223372036854775807 := by decide +kernel
  rw [ml] at lx
  simp [IntKind.min, IntKind.max, IntKind.signed, IntKind.bits] at a0 a1 b0 b1 c0 c1 k0 k1 n0 n1
  exact ⟨⟨a, b, c, k, n, f, x, none⟩, rfl, by unfold G.ok; exact ⟨by simp only []; omega, by simp only []; omega, by simp only []; omega, by simp only []; omega, by simp only []; omega, hx, lx⟩⟩
theorem g_list {m : Nat} : ∀ xs : List AV, (∀ x ∈ xs, Shp Go.Proofs.Try.prog m 107 x.cells ∧ x.scal = false) → ∃ l : List G, xs = l.map G.av ∧ ∀ g ∈ l, g.ok
  | [], _ => ⟨[], rfl, fun e h => by cases h⟩
  | x :: r, h => by
    obtain ⟨l, rfl, hl⟩ := g_list r fun y hy => h y (List.mem_cons_of_mem _ hy)
    obtain ⟨h1, h2⟩ := h x (List.mem_cons_self ..)
    obtain ⟨e, rfl, he⟩ := g_one h2 h1
    exact ⟨e :: l, rfl, fun y hy => (List.mem_cons.1 hy).elim (fun q => q ▸ he) (hl y)⟩
theorem recipe {n : Nat} {a : AV} (sh : Shp Go.Proofs.Try.prog n 40 a.cells) (sa : a.scal = !aggTy Go.Proofs.Try.prog 40) (nt : ∀ x, a ≠ .tup x) : ∃ (f : Bool) (l : List G), a = .agg [.sl f (l.map G.av) none] ∧ (∀ g ∈ l, g.ok) ∧ l.length ≤ 9223372036854775807 := by
  have sa : a.scal = false := by rw [sa]; unfold aggTy; rw [Go.Proofs.Try.underlying40]; rfl
  obtain ⟨m, rfl, hl, hf⟩ := sh.strct Go.Proofs.Try.underlying40
  have c1 : Go.Proofs.Try.prog.cellsOf 40 = 1 := by kernel_rfl
  have c2 : Go.Proofs.Try.prog.cellsOf 38 = 1 := by kernel_rfl
  rw [c1] at hl
  obtain ⟨cs, rfl⟩ : ∃ cs, a = .agg cs := by
    cases a <;> first | exact ⟨_, rfl⟩ | (exfalso; simp [AV.scal] at sa; done) | exact absurd rfl (nt _)
  obtain ⟨x1, rfl⟩ : ∃ x1, cs = [x1] := List.length_eq_one_iff.1 hl
  simp [AV.cells, c2] at hf
  obtain ⟨m', f, xs, _, e5, lx, hx⟩ := hf.slice Go.Proofs.Try.underlying38
  obtain ⟨l, rfl, hgl⟩ := g_list xs fun x hx' => ⟨(hx x hx').1, by rw [(hx x hx').2]; unfold aggTy; rw [Go.Proofs.Try.underlying107]; rfl⟩
  obtain rfl : x1 = _ := by simpa using e5
  have ml : maxLen = 9223372036854775807 := by decide +kernel
  rw [List.length_map, ml] at lx
  exact ⟨f, l, rfl, hgl, lx⟩
end EG

end
section
/- ElementsCut, from laid arguments. No conditions. -/
open Ab Go TabE
set_option linter.unusedVariables false
namespace L5
theorem law {n0 n1 : Nat} {a0 a1 : AV} (h0 : Shp Go.Proofs.Try.prog n0 40 a0.cells) (s0 : a0.scal = !aggTy Go.Proofs.Try.prog 40) (t0 : ∀ x, a0 ≠ .tup x) (h1 : Shp Go.Proofs.Try.prog n1 41 a1.cells) (s1 : a1.scal = !aggTy Go.Proofs.Try.prog 41) (t1 : ∀ x, a1 ≠ .tup x) :
    ∃ N, Con E N 4 [a0, a1] (.bool true) := by
  obtain ⟨f, l, rfl, hl, ll⟩ := EG.recipe h0 s0 t0
  obtain ⟨k, e1, k0, k1⟩ := h1.int Go.Proofs.Try.underlying41
  obtain rfl := cells_one e1 (by rw [s1]; unfold aggTy; rw [Go.Proofs.Try.underlying41]; rfl)
  simp [IntKind.min, IntKind.max, IntKind.signed, IntKind.bits] at k0 k1
  exact E62.cut f none l k hl ll k0 (by omega)
end L5

end
