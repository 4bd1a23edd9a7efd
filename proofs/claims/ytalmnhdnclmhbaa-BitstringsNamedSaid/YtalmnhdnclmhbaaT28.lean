/- Every number has its bits; octets made of bits give the bits. No conditions. -/
import Derived.Test.YtalmnhdnclmhbaaT23
set_option maxRecDepth 20000
set_option linter.unusedSimpArgs false
set_option linter.unusedVariables false
open Ab Go T1 T2 T4 T5 T6 T12 T14
namespace T28
/-- The bits of a number, the lowest first, no zero at the end. -/
theorem bitsOf : ∀ (k : Nat) (w : Int), 0 ≤ w → w < 2 ^ k → ∃ l : List Int, isBit l ∧ W l = w ∧ l.length ≤ k ∧ (l ≠ [] → l[l.length - 1]? = some 1) ∧ (w = 0 → l = []) ∧ (0 < w → l ≠ [])
  | 0, w, h0, h1 => ⟨[], fun x hx => by simp at hx, by simp at h1; simp [W]; omega, by simp, fun h => absurd rfl h, fun _ => rfl, fun h => by simp at h1; omega⟩
  | k + 1, w, h0, h1 => by
    by_cases hw : w = 0
    · exact ⟨[], fun x hx => by simp at hx, by simp [W, hw], by simp, fun h => absurd rfl h, fun _ => rfl, fun h => by omega⟩
    obtain ⟨l, a1, a2, a3, a4, a5, a6⟩ := bitsOf k (w / 2) (by omega) (by rw [Int.pow_succ] at h1; omega)
    refine ⟨(w % 2) :: l, ?_, by simp only [W, a2]; omega, by simpa using a3, fun _ => ?_, fun h => absurd h hw, fun _ => by simp⟩
    · intro x hx
      rcases List.mem_cons.1 hx with rfl | hx
      · omega
      · exact a1 x hx
    · by_cases hl : l = []
      · subst hl
        simp [W] at a2
        have : w % 2 = 1 := by omega
        simp [this]
      · have := a4 hl
        have hp : 0 < l.length := List.length_pos_iff.2 hl
        rw [List.length_cons, show l.length + 1 - 1 = (l.length - 1) + 1 by omega, List.getElem?_cons_succ]
        exact this
theorem b8_of (c0 c1 c2 c3 c4 c5 c6 c7 : Int) (h0 : c0 = 0 ∨ c0 = 1) (h1 : c1 = 0 ∨ c1 = 1) (h2 : c2 = 0 ∨ c2 = 1) (h3 : c3 = 0 ∨ c3 = 1) (h4 : c4 = 0 ∨ c4 = 1) (h5 : c5 = 0 ∨ c5 = 1) (h6 : c6 = 0 ∨ c6 = 1) (h7 : c7 = 0 ∨ c7 = 1) :
    b8 (128 * c0 + 64 * c1 + 32 * c2 + 16 * c3 + 8 * c4 + 4 * c5 + 2 * c6 + c7) = [c0, c1, c2, c3, c4, c5, c6, c7] := by
  have l0 : 0 ≤ c0 ∧ c0 ≤ 1 := by omega
  have l1 : 0 ≤ c1 ∧ c1 ≤ 1 := by omega
  have l2 : 0 ≤ c2 ∧ c2 ≤ 1 := by omega
  have l3 : 0 ≤ c3 ∧ c3 ≤ 1 := by omega
  have l4 : 0 ≤ c4 ∧ c4 ≤ 1 := by omega
  have l5 : 0 ≤ c5 ∧ c5 ≤ 1 := by omega
  have l6 : 0 ≤ c6 ∧ c6 ≤ 1 := by omega
  have l7 : 0 ≤ c7 ∧ c7 ≤ 1 := by omega
  clear h0 h1 h2 h3 h4 h5 h6 h7
  unfold b8
  congr 1
  · omega
  congr 1
  · omega
  congr 1
  · omega
  congr 1
  · omega
  congr 1
  · omega
  congr 1
  · omega
  congr 1
  · omega
  congr 1
  omega
theorem b8_val (l : List Int) (hb : isBit l) (p t : Nat) (ht : t < 8) : (b8 (val l p 8))[t]? = some (bit l (p + t)) := by
  rw [val_eight, b8_of _ _ _ _ _ _ _ _ (bit_01 hb p) (bit_01 hb _) (bit_01 hb _) (bit_01 hb _) (bit_01 hb _) (bit_01 hb _) (bit_01 hb _) (bit_01 hb _)]
  have ht2 : t = 0 ∨ t = 1 ∨ t = 2 ∨ t = 3 ∨ t = 4 ∨ t = 5 ∨ t = 6 ∨ t = 7 := by omega
  rcases ht2 with rfl | rfl | rfl | rfl | rfl | rfl | rfl | rfl <;> rfl
theorem upto_get (l : List Int) (L j : Nat) (h : j < L) : (upto l L)[j]? = some (val l (8 * j) 8) := by unfold upto; simp [h]
theorem bytesOf_isB (l : List Int) (hb : isBit l) : isB (bytesOf l) := by
  intro x hx
  unfold bytesOf upto at hx
  obtain ⟨j, _, rfl⟩ := List.mem_map.1 hx
  exact val_256 hb _ 8 (by omega)
theorem bytesOf_length (l : List Int) : (bytesOf l).length = (l.length + 7) / 8 := T6.upto_length _ _
theorem bits_bytesOf (l : List Int) (hb : isBit l) (i : Nat) (h : i < 8 * ((l.length + 7) / 8)) : (bits (bytesOf l))[i]? = some (bit l i) := by
  obtain ⟨j, t, ht, rfl⟩ : ∃ j t, t < 8 ∧ i = 8 * j + t := ⟨i / 8, i % 8, by omega, by omega⟩
  rw [bits_get _ j t ht]
  have : (bytesOf l)[j]? = some (val l (8 * j) 8) := upto_get l _ j (by omega)
  rw [this]
  exact b8_val l hb (8 * j) t ht
theorem take_bytesOf (l : List Int) (hb : isBit l) : (bits (bytesOf l)).take l.length = l := by
  have bl := bits_length (bytesOf l)
  rw [bytesOf_length] at bl
  apply List.ext_getElem?
  intro i
  by_cases h : i < l.length
  · rw [List.getElem?_take_of_lt h, bits_bytesOf l hb i (by omega)]
    unfold bit
    rw [List.getElem?_eq_getElem h]; rfl
  · rw [List.getElem?_eq_none (by simp; omega), List.getElem?_eq_none (by omega)]
theorem tail_bytesOf (l : List Int) (hb : isBit l) : ∀ i, l.length ≤ i → i < (bits (bytesOf l)).length → (bits (bytesOf l))[i]? = some 0 := by
  intro i h1 h2
  have bl := bits_length (bytesOf l)
  rw [bytesOf_length] at bl
  rw [bits_bytesOf l hb i (by omega)]
  unfold bit
  rw [List.getElem?_eq_none (by omega)]; rfl
end T28
