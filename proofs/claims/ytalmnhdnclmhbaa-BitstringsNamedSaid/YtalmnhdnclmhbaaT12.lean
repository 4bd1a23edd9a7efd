/- Octets and their bits: plain arithmetic. No conditions. -/
import Derived.Test.YtalmnhdnclmhbaaT6
set_option maxRecDepth 20000
set_option linter.unusedSimpArgs false
set_option linter.unusedVariables false
open Ab T1 T2 T4 T5 T6
namespace T12
theorem bits_get : ∀ (ys : List Int) (j t : Nat), t < 8 → (bits ys)[8 * j + t]? = (ys[j]?).bind fun y => (b8 y)[t]?
  | [], j, t, ht => by simp [T2.bits]
  | y :: ys, 0, t, ht => by
    have e : bits (y :: ys) = b8 y ++ bits ys := rfl
    rw [e, List.getElem?_append_left (by rw [b8_length]; omega)]
    simp
  | y :: ys, j + 1, t, ht => by
    have e : bits (y :: ys) = b8 y ++ bits ys := rfl
    rw [e, List.getElem?_append_right (by rw [b8_length]; omega), b8_length]
    have : 8 * (j + 1) + t - 8 = 8 * j + t := by omega
    rw [this, bits_get ys j t ht]
    simp
theorem b8_bit (y : Int) (h : isB [y]) : isBit (b8 y) := by
  have hy := h y (by simp)
  intro x hx
  simp only [b8, List.mem_cons, List.not_mem_nil, or_false] at hx
  rcases hx with rfl | rfl | rfl | rfl | rfl | rfl | rfl | rfl <;> omega
theorem bits_bit : ∀ (ys : List Int), isB ys → isBit (bits ys)
  | [], _ => fun x hx => by simp [T2.bits] at hx
  | y :: ys, h => by
    have e : bits (y :: ys) = b8 y ++ bits ys := rfl
    intro x hx
    rw [e, List.mem_append] at hx
    rcases hx with hx | hx
    · exact b8_bit y (fun z hz => h z (by simp at hz; simp [hz])) x hx
    · exact bits_bit ys (fun z hz => h z (by simp [hz])) x hx
theorem val_eight (l : List Int) (p : Nat) : val l p 8 = 128 * bit l p + 64 * bit l (p + 1) + 32 * bit l (p + 2) + 16 * bit l (p + 3) + 8 * bit l (p + 4) + 4 * bit l (p + 5) + 2 * bit l (p + 6) + bit l (p + 7) := by
  simp only [val, Nat.add_zero]
  omega
theorem byte_sum (y : Int) (h0 : 0 ≤ y) (h1 : y < 256) : 128 * (y / 128 % 2) + 64 * (y / 64 % 2) + 32 * (y / 32 % 2) + 16 * (y / 16 % 2) + 8 * (y / 8 % 2) + 4 * (y / 4 % 2) + 2 * (y / 2 % 2) + y / 1 % 2 = y := by omega
theorem val_bits (ys : List Int) (hb : isB ys) (j : Nat) (y : Int) (h : ys[j]? = some y) : val (bits ys) (8 * j) 8 = y := by
  have hy := hb y (List.mem_of_getElem? h)
  have g : ∀ t, t < 8 → bit (bits ys) (8 * j + t) = ((b8 y)[t]?).getD 0 := fun t ht => by unfold bit; rw [bits_get ys j t ht, h]; rfl
  have g0 := g 0 (by omega)
  rw [Nat.add_zero] at g0
  rw [val_eight, g0, g 1 (by omega), g 2 (by omega), g 3 (by omega), g 4 (by omega), g 5 (by omega), g 6 (by omega), g 7 (by omega)]
  exact byte_sum y hy.1 hy.2
/-- Where the bits left out are zero, the octets are the same. -/
theorem bit_take (l : List Int) (n : Nat) (hz : ∀ i, n ≤ i → i < l.length → l[i]? = some 0) (i : Nat) : bit (l.take n) i = bit l i := by
  unfold bit
  by_cases h : i < n
  · rw [List.getElem?_take_of_lt h]
  · rw [List.getElem?_eq_none (by simp; omega)]
    by_cases h2 : i < l.length
    · rw [hz i (by omega) h2]; rfl
    · rw [List.getElem?_eq_none (by omega)]
theorem bytes_back (ys : List Int) (hb : isB ys) (n : Nat) (x : Nat) (hx : x ≤ 7) (hn : n + x = 8 * ys.length) (hz : ∀ i, n ≤ i → i < (bits ys).length → (bits ys)[i]? = some 0) : bytesOf ((bits ys).take n) = ys := by
  have bl := bits_length ys
  have e : ((bits ys).take n).length = n := by rw [List.length_take]; omega
  unfold bytesOf
  rw [e]
  have e2 : (n + 7) / 8 = ys.length := by omega
  rw [e2]
  unfold upto
  apply List.ext_getElem?
  intro j
  by_cases hj : j < ys.length
  · have h : ys[j]? = some ys[j] := List.getElem?_eq_getElem hj
    have v := val_bits ys hb j _ h
    have v2 : val ((bits ys).take n) (8 * j) 8 = val (bits ys) (8 * j) 8 := by
      rw [val_eight, val_eight]
      simp only [bit_take _ _ hz]
    rw [h]
    simp [hj, v2, v]
  · rw [List.getElem?_eq_none (by simp; omega), List.getElem?_eq_none (by omega)]
end T12
