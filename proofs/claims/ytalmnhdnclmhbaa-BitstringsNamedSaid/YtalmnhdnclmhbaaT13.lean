/- The bits that are left over are zero exactly if the last octet's low part is. No conditions. -/
import Derived.Test.YtalmnhdnclmhbaaT12
set_option maxRecDepth 20000
set_option linter.unusedSimpArgs false
set_option linter.unusedVariables false
open Ab T1 T2 T4 T5 T6 T12
namespace T13
theorem low (z : Int) (h0 : 0 ≤ z) (h1 : z < 256) (x t : Nat) (hx : x ≤ 7) (ht : t < 8) (hxt : 8 ≤ x + t) (hm : z % 2 ^ x = 0) : (b8 z)[t]? = some 0 := by
  have hx : x = 0 ∨ x = 1 ∨ x = 2 ∨ x = 3 ∨ x = 4 ∨ x = 5 ∨ x = 6 ∨ x = 7 := by omega
  have ht : t = 0 ∨ t = 1 ∨ t = 2 ∨ t = 3 ∨ t = 4 ∨ t = 5 ∨ t = 6 ∨ t = 7 := by omega
  rcases hx with rfl | rfl | rfl | rfl | rfl | rfl | rfl | rfl <;> rcases ht with rfl | rfl | rfl | rfl | rfl | rfl | rfl | rfl <;>
    first
    | (exfalso; omega)
    | (simp only [Int.reducePow] at hm; simp only [b8, List.getElem?_cons_succ, List.getElem?_cons_zero, Option.some.injEq]; omega)
theorem high (z : Int) (h0 : 0 ≤ z) (h1 : z < 256) (x : Nat) (hx : x ≤ 7) (h : ∀ t, t < 8 → 8 ≤ x + t → (b8 z)[t]? = some 0) : z % 2 ^ x = 0 := by
  have hx : x = 0 ∨ x = 1 ∨ x = 2 ∨ x = 3 ∨ x = 4 ∨ x = 5 ∨ x = 6 ∨ x = 7 := by omega
  have g : ∀ t, t < 8 → 8 ≤ x + t → ∀ v, (b8 z)[t]? = some v → v = 0 := fun t a b v e => by rw [h t a b] at e; exact (Option.some.inj e).symm
  rcases hx with rfl | rfl | rfl | rfl | rfl | rfl | rfl | rfl
  · omega
  · have := g 7 (by omega) (by omega) _ rfl
    simp only [Int.reducePow]; omega
  · have := g 7 (by omega) (by omega) _ rfl
    have := g 6 (by omega) (by omega) _ rfl
    simp only [Int.reducePow]; omega
  · have := g 7 (by omega) (by omega) _ rfl
    have := g 6 (by omega) (by omega) _ rfl
    have := g 5 (by omega) (by omega) _ rfl
    simp only [Int.reducePow]; omega
  · have := g 7 (by omega) (by omega) _ rfl
    have := g 6 (by omega) (by omega) _ rfl
    have := g 5 (by omega) (by omega) _ rfl
    have := g 4 (by omega) (by omega) _ rfl
    simp only [Int.reducePow]; omega
  · have := g 7 (by omega) (by omega) _ rfl
    have := g 6 (by omega) (by omega) _ rfl
    have := g 5 (by omega) (by omega) _ rfl
    have := g 4 (by omega) (by omega) _ rfl
    have := g 3 (by omega) (by omega) _ rfl
    simp only [Int.reducePow]; omega
  · have := g 7 (by omega) (by omega) _ rfl
    have := g 6 (by omega) (by omega) _ rfl
    have := g 5 (by omega) (by omega) _ rfl
    have := g 4 (by omega) (by omega) _ rfl
    have := g 3 (by omega) (by omega) _ rfl
    have := g 2 (by omega) (by omega) _ rfl
    simp only [Int.reducePow]; omega
  · have := g 7 (by omega) (by omega) _ rfl
    have := g 6 (by omega) (by omega) _ rfl
    have := g 5 (by omega) (by omega) _ rfl
    have := g 4 (by omega) (by omega) _ rfl
    have := g 3 (by omega) (by omega) _ rfl
    have := g 2 (by omega) (by omega) _ rfl
    have := g 1 (by omega) (by omega) _ rfl
    simp only [Int.reducePow]; omega
theorem first : ∀ (m : Nat) {l : List Int} {n : Nat}, n + m = l.length → (∀ i, n ≤ i → i < l.length → l[i]? = some 0) ∨ ∃ j y, l[n + j]? = some y ∧ ¬ y = 0 ∧ ∀ i, i < j → l[n + i]? = some 0
  | 0, l, n, e => .inl fun i h1 h2 => by omega
  | m + 1, l, n, e => by
    obtain ⟨y, hy⟩ : ∃ y, l[n]? = some y := ⟨l[n], by simp⟩
    by_cases h0 : y = 0
    · subst h0
      rcases first m (l := l) (n := n + 1) (by omega) with h | ⟨j, v, h1, h2, h3⟩
      · refine .inl fun i a b => ?_
        by_cases e : i = n
        · rw [e]; exact hy
        · exact h i (by omega) b
      · refine .inr ⟨j + 1, v, by rw [← h1]; congr 1; omega, h2, fun i hi => ?_⟩
        cases i with
        | zero => exact hy
        | succ i => have := h3 i (by omega); rw [← this]; congr 1; omega
    · exact .inr ⟨0, y, hy, h0, fun i hi => by omega⟩
/-- The bits from n on are zero exactly if the last octet's low part is. -/
theorem tail (ys : List Int) (hb : isB ys) (x n : Nat) (z : Int) (hx : x ≤ 7) (hy : ys ≠ []) (hn : n + x = 8 * ys.length) (hz : ys[ys.length - 1]? = some z) :
    (∀ i, n ≤ i → i < (bits ys).length → (bits ys)[i]? = some 0) ↔ z % 2 ^ x = 0 := by
  have hzb := hb z (List.mem_of_getElem? hz)
  have bl := bits_length ys
  have hl : 0 < ys.length := List.length_pos_iff.2 hy
  have g : ∀ t, t < 8 → (bits ys)[8 * (ys.length - 1) + t]? = (b8 z)[t]? := fun t ht => by rw [bits_get ys _ t ht, hz]; rfl
  constructor
  · intro h
    refine high z hzb.1 hzb.2 x hx fun t ht hxt => ?_
    rw [← g t ht]
    exact h _ (by omega) (by omega)
  · intro h i hi hi2
    obtain ⟨t, ht, rfl⟩ : ∃ t, t < 8 ∧ i = 8 * (ys.length - 1) + t := ⟨i - 8 * (ys.length - 1), by omega, by omega⟩
    rw [g t ht]
    exact low z hzb.1 hzb.2 x t hx ht (by omega) h
end T13
