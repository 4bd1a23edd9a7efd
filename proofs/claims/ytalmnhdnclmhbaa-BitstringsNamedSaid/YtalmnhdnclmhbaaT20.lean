/- math/bits.Len64 at the evaluator: every number. No conditions. -/
import Derived.Test.YtalmnhdnclmhbaaT19
open Ab Go TabB T1 T2 T3 T19
set_option maxRecDepth 20000
set_option linter.unusedVariables false
set_option maxHeartbeats 8000000
namespace T20
theorem len1 (w : Int) (r : Nat) (r0 : 1 ≤ r) (r1 : r ≤ 16) (lo : 2 ^ (r - 1) ≤ w) (hi : w < 2 ^ r) : Con E 5 49 [.int .u64 w] (.int .i64 (r : Int)) := by
  have hr : r = 1 ∨ r = 2 ∨ r = 3 ∨ r = 4 ∨ r = 5 ∨ r = 6 ∨ r = 7 ∨ r = 8 ∨ r = 9 ∨ r = 10 ∨ r = 11 ∨ r = 12 ∨ r = 13 ∨ r = 14 ∨ r = 15 ∨ r = 16 := by omega
  rcases hr with rfl | rfl | rfl | rfl | rfl | rfl | rfl | rfl | rfl | rfl | rfl | rfl | rfl | rfl | rfl | rfl
  · simp only [Nat.reduceSub, Int.reducePow] at lo hi
    have q := len000 w (by omega) (by omega) (by omega) (by omega) (by omega)
    have e : len8 (w) = 1 := by unfold len8; rw [if_neg (by omega), if_pos (by omega)]
    rw [e] at q
    exact q
  · simp only [Nat.reduceSub, Int.reducePow] at lo hi
    have q := len000 w (by omega) (by omega) (by omega) (by omega) (by omega)
    have e : len8 (w) = 2 := by unfold len8; rw [if_neg (by omega), if_neg (by omega), if_pos (by omega)]
    rw [e] at q
    exact q
  · simp only [Nat.reduceSub, Int.reducePow] at lo hi
    have q := len000 w (by omega) (by omega) (by omega) (by omega) (by omega)
    have e : len8 (w) = 3 := by unfold len8; rw [if_neg (by omega), if_neg (by omega), if_neg (by omega), if_pos (by omega)]
    rw [e] at q
    exact q
  · simp only [Nat.reduceSub, Int.reducePow] at lo hi
    have q := len000 w (by omega) (by omega) (by omega) (by omega) (by omega)
    have e : len8 (w) = 4 := by unfold len8; rw [if_neg (by omega), if_neg (by omega), if_neg (by omega), if_neg (by omega), if_pos (by omega)]
    rw [e] at q
    exact q
  · simp only [Nat.reduceSub, Int.reducePow] at lo hi
    have q := len000 w (by omega) (by omega) (by omega) (by omega) (by omega)
    have e : len8 (w) = 5 := by unfold len8; rw [if_neg (by omega), if_neg (by omega), if_neg (by omega), if_neg (by omega), if_neg (by omega), if_pos (by omega)]
    rw [e] at q
    exact q
  · simp only [Nat.reduceSub, Int.reducePow] at lo hi
    have q := len000 w (by omega) (by omega) (by omega) (by omega) (by omega)
    have e : len8 (w) = 6 := by unfold len8; rw [if_neg (by omega), if_neg (by omega), if_neg (by omega), if_neg (by omega), if_neg (by omega), if_neg (by omega), if_pos (by omega)]
    rw [e] at q
    exact q
  · simp only [Nat.reduceSub, Int.reducePow] at lo hi
    have q := len000 w (by omega) (by omega) (by omega) (by omega) (by omega)
    have e : len8 (w) = 7 := by unfold len8; rw [if_neg (by omega), if_neg (by omega), if_neg (by omega), if_neg (by omega), if_neg (by omega), if_neg (by omega), if_neg (by omega), if_pos (by omega)]
    rw [e] at q
    exact q
  · simp only [Nat.reduceSub, Int.reducePow] at lo hi
    have q := len000 w (by omega) (by omega) (by omega) (by omega) (by omega)
    have e : len8 (w) = 8 := by unfold len8; rw [if_neg (by omega), if_neg (by omega), if_neg (by omega), if_neg (by omega), if_neg (by omega), if_neg (by omega), if_neg (by omega), if_neg (by omega)]
    rw [e] at q
    exact q
  · simp only [Nat.reduceSub, Int.reducePow] at lo hi
    have q := len001 w (by omega) (by omega) (by omega) (by omega) (by omega)
    have e : len8 (w / 256) = 1 := by unfold len8; rw [if_neg (by omega), if_pos (by omega)]
    rw [e] at q
    exact q
  · simp only [Nat.reduceSub, Int.reducePow] at lo hi
    have q := len001 w (by omega) (by omega) (by omega) (by omega) (by omega)
    have e : len8 (w / 256) = 2 := by unfold len8; rw [if_neg (by omega), if_neg (by omega), if_pos (by omega)]
    rw [e] at q
    exact q
  · simp only [Nat.reduceSub, Int.reducePow] at lo hi
    have q := len001 w (by omega) (by omega) (by omega) (by omega) (by omega)
    have e : len8 (w / 256) = 3 := by unfold len8; rw [if_neg (by omega), if_neg (by omega), if_neg (by omega), if_pos (by omega)]
    rw [e] at q
    exact q
  · simp only [Nat.reduceSub, Int.reducePow] at lo hi
    have q := len001 w (by omega) (by omega) (by omega) (by omega) (by omega)
    have e : len8 (w / 256) = 4 := by unfold len8; rw [if_neg (by omega), if_neg (by omega), if_neg (by omega), if_neg (by omega), if_pos (by omega)]
    rw [e] at q
    exact q
  · simp only [Nat.reduceSub, Int.reducePow] at lo hi
    have q := len001 w (by omega) (by omega) (by omega) (by omega) (by omega)
    have e : len8 (w / 256) = 5 := by unfold len8; rw [if_neg (by omega), if_neg (by omega), if_neg (by omega), if_neg (by omega), if_neg (by omega), if_pos (by omega)]
    rw [e] at q
    exact q
  · simp only [Nat.reduceSub, Int.reducePow] at lo hi
    have q := len001 w (by omega) (by omega) (by omega) (by omega) (by omega)
    have e : len8 (w / 256) = 6 := by unfold len8; rw [if_neg (by omega), if_neg (by omega), if_neg (by omega), if_neg (by omega), if_neg (by omega), if_neg (by omega), if_pos (by omega)]
    rw [e] at q
    exact q
  · simp only [Nat.reduceSub, Int.reducePow] at lo hi
    have q := len001 w (by omega) (by omega) (by omega) (by omega) (by omega)
    have e : len8 (w / 256) = 7 := by unfold len8; rw [if_neg (by omega), if_neg (by omega), if_neg (by omega), if_neg (by omega), if_neg (by omega), if_neg (by omega), if_neg (by omega), if_pos (by omega)]
    rw [e] at q
    exact q
  · simp only [Nat.reduceSub, Int.reducePow] at lo hi
    have q := len001 w (by omega) (by omega) (by omega) (by omega) (by omega)
    have e : len8 (w / 256) = 8 := by unfold len8; rw [if_neg (by omega), if_neg (by omega), if_neg (by omega), if_neg (by omega), if_neg (by omega), if_neg (by omega), if_neg (by omega), if_neg (by omega)]
    rw [e] at q
    exact q
theorem len17 (w : Int) (r : Nat) (r0 : 17 ≤ r) (r1 : r ≤ 32) (lo : 2 ^ (r - 1) ≤ w) (hi : w < 2 ^ r) : Con E 5 49 [.int .u64 w] (.int .i64 (r : Int)) := by
  have hr : r = 17 ∨ r = 18 ∨ r = 19 ∨ r = 20 ∨ r = 21 ∨ r = 22 ∨ r = 23 ∨ r = 24 ∨ r = 25 ∨ r = 26 ∨ r = 27 ∨ r = 28 ∨ r = 29 ∨ r = 30 ∨ r = 31 ∨ r = 32 := by omega
  rcases hr with rfl | rfl | rfl | rfl | rfl | rfl | rfl | rfl | rfl | rfl | rfl | rfl | rfl | rfl | rfl | rfl
  · simp only [Nat.reduceSub, Int.reducePow] at lo hi
    have q := len010 w (by omega) (by omega) (by omega) (by omega) (by omega)
    have e : len8 (w / 65536) = 1 := by unfold len8; rw [if_neg (by omega), if_pos (by omega)]
    rw [e] at q
    exact q
  · simp only [Nat.reduceSub, Int.reducePow] at lo hi
    have q := len010 w (by omega) (by omega) (by omega) (by omega) (by omega)
    have e : len8 (w / 65536) = 2 := by unfold len8; rw [if_neg (by omega), if_neg (by omega), if_pos (by omega)]
    rw [e] at q
    exact q
  · simp only [Nat.reduceSub, Int.reducePow] at lo hi
    have q := len010 w (by omega) (by omega) (by omega) (by omega) (by omega)
    have e : len8 (w / 65536) = 3 := by unfold len8; rw [if_neg (by omega), if_neg (by omega), if_neg (by omega), if_pos (by omega)]
    rw [e] at q
    exact q
  · simp only [Nat.reduceSub, Int.reducePow] at lo hi
    have q := len010 w (by omega) (by omega) (by omega) (by omega) (by omega)
    have e : len8 (w / 65536) = 4 := by unfold len8; rw [if_neg (by omega), if_neg (by omega), if_neg (by omega), if_neg (by omega), if_pos (by omega)]
    rw [e] at q
    exact q
  · simp only [Nat.reduceSub, Int.reducePow] at lo hi
    have q := len010 w (by omega) (by omega) (by omega) (by omega) (by omega)
    have e : len8 (w / 65536) = 5 := by unfold len8; rw [if_neg (by omega), if_neg (by omega), if_neg (by omega), if_neg (by omega), if_neg (by omega), if_pos (by omega)]
    rw [e] at q
    exact q
  · simp only [Nat.reduceSub, Int.reducePow] at lo hi
    have q := len010 w (by omega) (by omega) (by omega) (by omega) (by omega)
    have e : len8 (w / 65536) = 6 := by unfold len8; rw [if_neg (by omega), if_neg (by omega), if_neg (by omega), if_neg (by omega), if_neg (by omega), if_neg (by omega), if_pos (by omega)]
    rw [e] at q
    exact q
  · simp only [Nat.reduceSub, Int.reducePow] at lo hi
    have q := len010 w (by omega) (by omega) (by omega) (by omega) (by omega)
    have e : len8 (w / 65536) = 7 := by unfold len8; rw [if_neg (by omega), if_neg (by omega), if_neg (by omega), if_neg (by omega), if_neg (by omega), if_neg (by omega), if_neg (by omega), if_pos (by omega)]
    rw [e] at q
    exact q
  · simp only [Nat.reduceSub, Int.reducePow] at lo hi
    have q := len010 w (by omega) (by omega) (by omega) (by omega) (by omega)
    have e : len8 (w / 65536) = 8 := by unfold len8; rw [if_neg (by omega), if_neg (by omega), if_neg (by omega), if_neg (by omega), if_neg (by omega), if_neg (by omega), if_neg (by omega), if_neg (by omega)]
    rw [e] at q
    exact q
  · simp only [Nat.reduceSub, Int.reducePow] at lo hi
    have q := len011 w (by omega) (by omega) (by omega) (by omega) (by omega)
    have e : len8 (w / 16777216) = 1 := by unfold len8; rw [if_neg (by omega), if_pos (by omega)]
    rw [e] at q
    exact q
  · simp only [Nat.reduceSub, Int.reducePow] at lo hi
    have q := len011 w (by omega) (by omega) (by omega) (by omega) (by omega)
    have e : len8 (w / 16777216) = 2 := by unfold len8; rw [if_neg (by omega), if_neg (by omega), if_pos (by omega)]
    rw [e] at q
    exact q
  · simp only [Nat.reduceSub, Int.reducePow] at lo hi
    have q := len011 w (by omega) (by omega) (by omega) (by omega) (by omega)
    have e : len8 (w / 16777216) = 3 := by unfold len8; rw [if_neg (by omega), if_neg (by omega), if_neg (by omega), if_pos (by omega)]
    rw [e] at q
    exact q
  · simp only [Nat.reduceSub, Int.reducePow] at lo hi
    have q := len011 w (by omega) (by omega) (by omega) (by omega) (by omega)
    have e : len8 (w / 16777216) = 4 := by unfold len8; rw [if_neg (by omega), if_neg (by omega), if_neg (by omega), if_neg (by omega), if_pos (by omega)]
    rw [e] at q
    exact q
  · simp only [Nat.reduceSub, Int.reducePow] at lo hi
    have q := len011 w (by omega) (by omega) (by omega) (by omega) (by omega)
    have e : len8 (w / 16777216) = 5 := by unfold len8; rw [if_neg (by omega), if_neg (by omega), if_neg (by omega), if_neg (by omega), if_neg (by omega), if_pos (by omega)]
    rw [e] at q
    exact q
  · simp only [Nat.reduceSub, Int.reducePow] at lo hi
    have q := len011 w (by omega) (by omega) (by omega) (by omega) (by omega)
    have e : len8 (w / 16777216) = 6 := by unfold len8; rw [if_neg (by omega), if_neg (by omega), if_neg (by omega), if_neg (by omega), if_neg (by omega), if_neg (by omega), if_pos (by omega)]
    rw [e] at q
    exact q
  · simp only [Nat.reduceSub, Int.reducePow] at lo hi
    have q := len011 w (by omega) (by omega) (by omega) (by omega) (by omega)
    have e : len8 (w / 16777216) = 7 := by unfold len8; rw [if_neg (by omega), if_neg (by omega), if_neg (by omega), if_neg (by omega), if_neg (by omega), if_neg (by omega), if_neg (by omega), if_pos (by omega)]
    rw [e] at q
    exact q
  · simp only [Nat.reduceSub, Int.reducePow] at lo hi
    have q := len011 w (by omega) (by omega) (by omega) (by omega) (by omega)
    have e : len8 (w / 16777216) = 8 := by unfold len8; rw [if_neg (by omega), if_neg (by omega), if_neg (by omega), if_neg (by omega), if_neg (by omega), if_neg (by omega), if_neg (by omega), if_neg (by omega)]
    rw [e] at q
    exact q
theorem len33 (w : Int) (r : Nat) (r0 : 33 ≤ r) (r1 : r ≤ 48) (lo : 2 ^ (r - 1) ≤ w) (hi : w < 2 ^ r) : Con E 5 49 [.int .u64 w] (.int .i64 (r : Int)) := by
  have hr : r = 33 ∨ r = 34 ∨ r = 35 ∨ r = 36 ∨ r = 37 ∨ r = 38 ∨ r = 39 ∨ r = 40 ∨ r = 41 ∨ r = 42 ∨ r = 43 ∨ r = 44 ∨ r = 45 ∨ r = 46 ∨ r = 47 ∨ r = 48 := by omega
  rcases hr with rfl | rfl | rfl | rfl | rfl | rfl | rfl | rfl | rfl | rfl | rfl | rfl | rfl | rfl | rfl | rfl
  · simp only [Nat.reduceSub, Int.reducePow] at lo hi
    have q := len100 w (by omega) (by omega) (by omega) (by omega) (by omega)
    have e : len8 (w / 4294967296) = 1 := by unfold len8; rw [if_neg (by omega), if_pos (by omega)]
    rw [e] at q
    exact q
  · simp only [Nat.reduceSub, Int.reducePow] at lo hi
    have q := len100 w (by omega) (by omega) (by omega) (by omega) (by omega)
    have e : len8 (w / 4294967296) = 2 := by unfold len8; rw [if_neg (by omega), if_neg (by omega), if_pos (by omega)]
    rw [e] at q
    exact q
  · simp only [Nat.reduceSub, Int.reducePow] at lo hi
    have q := len100 w (by omega) (by omega) (by omega) (by omega) (by omega)
    have e : len8 (w / 4294967296) = 3 := by unfold len8; rw [if_neg (by omega), if_neg (by omega), if_neg (by omega), if_pos (by omega)]
    rw [e] at q
    exact q
  · simp only [Nat.reduceSub, Int.reducePow] at lo hi
    have q := len100 w (by omega) (by omega) (by omega) (by omega) (by omega)
    have e : len8 (w / 4294967296) = 4 := by unfold len8; rw [if_neg (by omega), if_neg (by omega), if_neg (by omega), if_neg (by omega), if_pos (by omega)]
    rw [e] at q
    exact q
  · simp only [Nat.reduceSub, Int.reducePow] at lo hi
    have q := len100 w (by omega) (by omega) (by omega) (by omega) (by omega)
    have e : len8 (w / 4294967296) = 5 := by unfold len8; rw [if_neg (by omega), if_neg (by omega), if_neg (by omega), if_neg (by omega), if_neg (by omega), if_pos (by omega)]
    rw [e] at q
    exact q
  · simp only [Nat.reduceSub, Int.reducePow] at lo hi
    have q := len100 w (by omega) (by omega) (by omega) (by omega) (by omega)
    have e : len8 (w / 4294967296) = 6 := by unfold len8; rw [if_neg (by omega), if_neg (by omega), if_neg (by omega), if_neg (by omega), if_neg (by omega), if_neg (by omega), if_pos (by omega)]
    rw [e] at q
    exact q
  · simp only [Nat.reduceSub, Int.reducePow] at lo hi
    have q := len100 w (by omega) (by omega) (by omega) (by omega) (by omega)
    have e : len8 (w / 4294967296) = 7 := by unfold len8; rw [if_neg (by omega), if_neg (by omega), if_neg (by omega), if_neg (by omega), if_neg (by omega), if_neg (by omega), if_neg (by omega), if_pos (by omega)]
    rw [e] at q
    exact q
  · simp only [Nat.reduceSub, Int.reducePow] at lo hi
    have q := len100 w (by omega) (by omega) (by omega) (by omega) (by omega)
    have e : len8 (w / 4294967296) = 8 := by unfold len8; rw [if_neg (by omega), if_neg (by omega), if_neg (by omega), if_neg (by omega), if_neg (by omega), if_neg (by omega), if_neg (by omega), if_neg (by omega)]
    rw [e] at q
    exact q
  · simp only [Nat.reduceSub, Int.reducePow] at lo hi
    have q := len101 w (by omega) (by omega) (by omega) (by omega) (by omega)
    have e : len8 (w / 1099511627776) = 1 := by unfold len8; rw [if_neg (by omega), if_pos (by omega)]
    rw [e] at q
    exact q
  · simp only [Nat.reduceSub, Int.reducePow] at lo hi
    have q := len101 w (by omega) (by omega) (by omega) (by omega) (by omega)
    have e : len8 (w / 1099511627776) = 2 := by unfold len8; rw [if_neg (by omega), if_neg (by omega), if_pos (by omega)]
    rw [e] at q
    exact q
  · simp only [Nat.reduceSub, Int.reducePow] at lo hi
    have q := len101 w (by omega) (by omega) (by omega) (by omega) (by omega)
    have e : len8 (w / 1099511627776) = 3 := by unfold len8; rw [if_neg (by omega), if_neg (by omega), if_neg (by omega), if_pos (by omega)]
    rw [e] at q
    exact q
  · simp only [Nat.reduceSub, Int.reducePow] at lo hi
    have q := len101 w (by omega) (by omega) (by omega) (by omega) (by omega)
    have e : len8 (w / 1099511627776) = 4 := by unfold len8; rw [if_neg (by omega), if_neg (by omega), if_neg (by omega), if_neg (by omega), if_pos (by omega)]
    rw [e] at q
    exact q
  · simp only [Nat.reduceSub, Int.reducePow] at lo hi
    have q := len101 w (by omega) (by omega) (by omega) (by omega) (by omega)
    have e : len8 (w / 1099511627776) = 5 := by unfold len8; rw [if_neg (by omega), if_neg (by omega), if_neg (by omega), if_neg (by omega), if_neg (by omega), if_pos (by omega)]
    rw [e] at q
    exact q
  · simp only [Nat.reduceSub, Int.reducePow] at lo hi
    have q := len101 w (by omega) (by omega) (by omega) (by omega) (by omega)
    have e : len8 (w / 1099511627776) = 6 := by unfold len8; rw [if_neg (by omega), if_neg (by omega), if_neg (by omega), if_neg (by omega), if_neg (by omega), if_neg (by omega), if_pos (by omega)]
    rw [e] at q
    exact q
  · simp only [Nat.reduceSub, Int.reducePow] at lo hi
    have q := len101 w (by omega) (by omega) (by omega) (by omega) (by omega)
    have e : len8 (w / 1099511627776) = 7 := by unfold len8; rw [if_neg (by omega), if_neg (by omega), if_neg (by omega), if_neg (by omega), if_neg (by omega), if_neg (by omega), if_neg (by omega), if_pos (by omega)]
    rw [e] at q
    exact q
  · simp only [Nat.reduceSub, Int.reducePow] at lo hi
    have q := len101 w (by omega) (by omega) (by omega) (by omega) (by omega)
    have e : len8 (w / 1099511627776) = 8 := by unfold len8; rw [if_neg (by omega), if_neg (by omega), if_neg (by omega), if_neg (by omega), if_neg (by omega), if_neg (by omega), if_neg (by omega), if_neg (by omega)]
    rw [e] at q
    exact q
theorem len49 (w : Int) (r : Nat) (r0 : 49 ≤ r) (r1 : r ≤ 64) (lo : 2 ^ (r - 1) ≤ w) (hi : w < 2 ^ r) : Con E 5 49 [.int .u64 w] (.int .i64 (r : Int)) := by
  have hr : r = 49 ∨ r = 50 ∨ r = 51 ∨ r = 52 ∨ r = 53 ∨ r = 54 ∨ r = 55 ∨ r = 56 ∨ r = 57 ∨ r = 58 ∨ r = 59 ∨ r = 60 ∨ r = 61 ∨ r = 62 ∨ r = 63 ∨ r = 64 := by omega
  rcases hr with rfl | rfl | rfl | rfl | rfl | rfl | rfl | rfl | rfl | rfl | rfl | rfl | rfl | rfl | rfl | rfl
  · simp only [Nat.reduceSub, Int.reducePow] at lo hi
    have q := len110 w (by omega) (by omega) (by omega) (by omega) (by omega)
    have e : len8 (w / 281474976710656) = 1 := by unfold len8; rw [if_neg (by omega), if_pos (by omega)]
    rw [e] at q
    exact q
  · simp only [Nat.reduceSub, Int.reducePow] at lo hi
    have q := len110 w (by omega) (by omega) (by omega) (by omega) (by omega)
    have e : len8 (w / 281474976710656) = 2 := by unfold len8; rw [if_neg (by omega), if_neg (by omega), if_pos (by omega)]
    rw [e] at q
    exact q
  · simp only [Nat.reduceSub, Int.reducePow] at lo hi
    have q := len110 w (by omega) (by omega) (by omega) (by omega) (by omega)
    have e : len8 (w / 281474976710656) = 3 := by unfold len8; rw [if_neg (by omega), if_neg (by omega), if_neg (by omega), if_pos (by omega)]
    rw [e] at q
    exact q
  · simp only [Nat.reduceSub, Int.reducePow] at lo hi
    have q := len110 w (by omega) (by omega) (by omega) (by omega) (by omega)
    have e : len8 (w / 281474976710656) = 4 := by unfold len8; rw [if_neg (by omega), if_neg (by omega), if_neg (by omega), if_neg (by omega), if_pos (by omega)]
    rw [e] at q
    exact q
  · simp only [Nat.reduceSub, Int.reducePow] at lo hi
    have q := len110 w (by omega) (by omega) (by omega) (by omega) (by omega)
    have e : len8 (w / 281474976710656) = 5 := by unfold len8; rw [if_neg (by omega), if_neg (by omega), if_neg (by omega), if_neg (by omega), if_neg (by omega), if_pos (by omega)]
    rw [e] at q
    exact q
  · simp only [Nat.reduceSub, Int.reducePow] at lo hi
    have q := len110 w (by omega) (by omega) (by omega) (by omega) (by omega)
    have e : len8 (w / 281474976710656) = 6 := by unfold len8; rw [if_neg (by omega), if_neg (by omega), if_neg (by omega), if_neg (by omega), if_neg (by omega), if_neg (by omega), if_pos (by omega)]
    rw [e] at q
    exact q
  · simp only [Nat.reduceSub, Int.reducePow] at lo hi
    have q := len110 w (by omega) (by omega) (by omega) (by omega) (by omega)
    have e : len8 (w / 281474976710656) = 7 := by unfold len8; rw [if_neg (by omega), if_neg (by omega), if_neg (by omega), if_neg (by omega), if_neg (by omega), if_neg (by omega), if_neg (by omega), if_pos (by omega)]
    rw [e] at q
    exact q
  · simp only [Nat.reduceSub, Int.reducePow] at lo hi
    have q := len110 w (by omega) (by omega) (by omega) (by omega) (by omega)
    have e : len8 (w / 281474976710656) = 8 := by unfold len8; rw [if_neg (by omega), if_neg (by omega), if_neg (by omega), if_neg (by omega), if_neg (by omega), if_neg (by omega), if_neg (by omega), if_neg (by omega)]
    rw [e] at q
    exact q
  · simp only [Nat.reduceSub, Int.reducePow] at lo hi
    have q := len111 w (by omega) (by omega) (by omega) (by omega) (by omega)
    have e : len8 (w / 72057594037927936) = 1 := by unfold len8; rw [if_neg (by omega), if_pos (by omega)]
    rw [e] at q
    exact q
  · simp only [Nat.reduceSub, Int.reducePow] at lo hi
    have q := len111 w (by omega) (by omega) (by omega) (by omega) (by omega)
    have e : len8 (w / 72057594037927936) = 2 := by unfold len8; rw [if_neg (by omega), if_neg (by omega), if_pos (by omega)]
    rw [e] at q
    exact q
  · simp only [Nat.reduceSub, Int.reducePow] at lo hi
    have q := len111 w (by omega) (by omega) (by omega) (by omega) (by omega)
    have e : len8 (w / 72057594037927936) = 3 := by unfold len8; rw [if_neg (by omega), if_neg (by omega), if_neg (by omega), if_pos (by omega)]
    rw [e] at q
    exact q
  · simp only [Nat.reduceSub, Int.reducePow] at lo hi
    have q := len111 w (by omega) (by omega) (by omega) (by omega) (by omega)
    have e : len8 (w / 72057594037927936) = 4 := by unfold len8; rw [if_neg (by omega), if_neg (by omega), if_neg (by omega), if_neg (by omega), if_pos (by omega)]
    rw [e] at q
    exact q
  · simp only [Nat.reduceSub, Int.reducePow] at lo hi
    have q := len111 w (by omega) (by omega) (by omega) (by omega) (by omega)
    have e : len8 (w / 72057594037927936) = 5 := by unfold len8; rw [if_neg (by omega), if_neg (by omega), if_neg (by omega), if_neg (by omega), if_neg (by omega), if_pos (by omega)]
    rw [e] at q
    exact q
  · simp only [Nat.reduceSub, Int.reducePow] at lo hi
    have q := len111 w (by omega) (by omega) (by omega) (by omega) (by omega)
    have e : len8 (w / 72057594037927936) = 6 := by unfold len8; rw [if_neg (by omega), if_neg (by omega), if_neg (by omega), if_neg (by omega), if_neg (by omega), if_neg (by omega), if_pos (by omega)]
    rw [e] at q
    exact q
  · simp only [Nat.reduceSub, Int.reducePow] at lo hi
    have q := len111 w (by omega) (by omega) (by omega) (by omega) (by omega)
    have e : len8 (w / 72057594037927936) = 7 := by unfold len8; rw [if_neg (by omega), if_neg (by omega), if_neg (by omega), if_neg (by omega), if_neg (by omega), if_neg (by omega), if_neg (by omega), if_pos (by omega)]
    rw [e] at q
    exact q
  · simp only [Nat.reduceSub, Int.reducePow] at lo hi
    have q := len111 w (by omega) (by omega) (by omega) (by omega) (by omega)
    have e : len8 (w / 72057594037927936) = 8 := by unfold len8; rw [if_neg (by omega), if_neg (by omega), if_neg (by omega), if_neg (by omega), if_neg (by omega), if_neg (by omega), if_neg (by omega), if_neg (by omega)]
    rw [e] at q
    exact q
theorem len64 (w : Int) (r : Nat) (r0 : 1 ≤ r) (r1 : r ≤ 64) (lo : 2 ^ (r - 1) ≤ w) (hi : w < 2 ^ r) : Con E 5 49 [.int .u64 w] (.int .i64 (r : Int)) := by
  by_cases a : r ≤ 16
  · exact len1 w r r0 a lo hi
  by_cases b : r ≤ 32
  · exact len17 w r (by omega) b lo hi
  by_cases c : r ≤ 48
  · exact len33 w r (by omega) c lo hi
  · exact len49 w r (by omega) r1 lo hi
end T20
