/- Named bits as octets: plain arithmetic. No conditions. -/
import Derived.Test.YtalmnhdnclmhbaaT21
import Derived.Test.YtalmnhdnclmhbaaT13
set_option maxRecDepth 20000
set_option linter.unusedSimpArgs false
set_option linter.unusedVariables false
open Ab Go T1 T2 T4 T5 T6 T14 T21
namespace T22
theorem W_bit : ∀ (l : List Int), isBit l → ∀ (k : Nat) (x : Int), l[k]? = some x → W l / 2 ^ k % 2 = x
  | [], _, k, x, h => by simp at h
  | y :: r, hb, 0, x, h => by
    have b := hb y (by simp)
    simp at h; subst h
    simp only [W, Int.pow_zero, Int.ediv_one]
    omega
  | y :: r, hb, k + 1, x, h => by
    have b := hb y (by simp)
    have ih := W_bit r (fun z hz => hb z (by simp [hz])) k x (by simpa using h)
    have e : (2 * W r + y) / 2 = W r := by omega
    simp only [W]
    rw [Int.pow_succ, Int.mul_comm ((2 : Int) ^ k) 2, ← Int.ediv_ediv_of_nonneg (by decide), e]
    exact ih
theorem and1 (v : Int) (h0 : 0 ≤ v) (h1 : v < 18446744073709551616) : andU v 1 = v % 2 := by
  obtain ⟨n, rfl⟩ := Int.eq_ofNat_of_zero_le h0
  unfold andU
  have e1 : (1 : Int) = ((1 : Nat) : Int) := rfl
  rw [e1, BitVec.ofInt_natCast, BitVec.ofInt_natCast, BitVec.toNat_and, BitVec.toNat_ofNat, BitVec.toNat_ofNat, Nat.mod_eq_of_lt (by omega), Nat.mod_eq_of_lt (by omega), Nat.and_one_is_mod, w_u64]
  omega
theorem bit_upd (l : List Int) (k i : Nat) (x : Int) (h : l[k]? = some x) : bit (l.take (k + 1)) i = if i = k then x else bit (l.take k) i := by
  unfold bit
  rw [List.take_add_one, h]
  have lk : (l.take k).length = k := by rw [List.length_take]; have := (List.getElem?_eq_some_iff.1 h).1; omega
  by_cases e : i = k
  · subst e
    rw [List.getElem?_append_right (by omega), lk]; simp
  · rw [if_neg e]
    by_cases e2 : i < k
    · rw [List.getElem?_append_left (by omega)]
    · rw [List.getElem?_eq_none (by simp; omega), List.getElem?_eq_none (by omega)]
theorem bit_out (l : List Int) (k i : Nat) (h : k ≤ i) : bit (l.take k) i = 0 := by
  unfold bit
  rw [List.getElem?_eq_none (by simp; omega)]; rfl
/-- A round that finds no bit changes nothing. -/
theorem row_zero (l : List Int) (L k : Nat) (h : l[k]? = some 0) : upto (l.take (k + 1)) L = upto (l.take k) L := by
  unfold upto
  refine List.map_congr_left fun j _ => ?_
  rw [T12.val_eight, T12.val_eight]
  have g : ∀ i, bit (l.take (k + 1)) i = bit (l.take k) i := fun i => by
    rw [bit_upd l k i 0 h]
    split
    · rename_i e; subst e; rw [bit_out l i i (by omega)]
    · rfl
  simp only [g]
theorem val_one (l : List Int) (j t : Nat) (ht : t < 8) (h : l[8 * j + t]? = some 1) : val (l.take (8 * j + t + 1)) (8 * j) 8 = val (l.take (8 * j + t)) (8 * j) 8 + 128 / 2 ^ t := by
  rw [T12.val_eight, T12.val_eight]
  have g := fun i => bit_upd l (8 * j + t) i 1 h
  have z := bit_out l (8 * j + t) (8 * j + t) (by omega)
  have ht2 : t = 0 ∨ t = 1 ∨ t = 2 ∨ t = 3 ∨ t = 4 ∨ t = 5 ∨ t = 6 ∨ t = 7 := by omega
  rcases ht2 with rfl | rfl | rfl | rfl | rfl | rfl | rfl | rfl <;> (try simp only [Nat.add_zero] at g z ⊢) <;> simp [g, z] <;> omega
theorem row_one (l : List Int) (L j t : Nat) (ht : t < 8) (hj : j < L) (h : l[8 * j + t]? = some 1) : upto (l.take (8 * j + t + 1)) L = (upto (l.take (8 * j + t)) L).set j (val (l.take (8 * j + t)) (8 * j) 8 + 128 / 2 ^ t) := by
  apply List.ext_getElem?
  intro i
  rw [List.getElem?_set]
  unfold upto
  by_cases hi : i < L
  · by_cases e : j = i
    · subst e
      simp [hi, val_one l j t ht h]
    · rw [if_neg e]
      simp only [List.getElem?_map, List.getElem?_range hi, Option.map_some, Option.some.injEq]
      rw [T12.val_eight, T12.val_eight]
      have g : ∀ s, s < 8 → bit (l.take (8 * j + t + 1)) (8 * i + s) = bit (l.take (8 * j + t)) (8 * i + s) := fun s hs => by
        rw [bit_upd l _ _ 1 h, if_neg (by omega)]
      have g0 : bit (l.take (8 * j + t + 1)) (8 * i) = bit (l.take (8 * j + t)) (8 * i) := g 0 (by omega)
      rw [g0, g 1 (by omega), g 2 (by omega), g 3 (by omega), g 4 (by omega), g 5 (by omega), g 6 (by omega), g 7 (by omega)]
  · rw [List.getElem?_eq_none (by simp; omega)]
    split
    · rename_i e; subst e; omega
    · rw [List.getElem?_eq_none (by simp; omega)]
end T22
