/- bitstrings.PutNamed at the evaluator: what it answers. No conditions. -/
import Derived.Test.YtalmnhdnclmhbaaT22
import Derived.Test.YtalmnhdnclmhbaaT11
import Derived.Test.YtalmnhdnclmhbaaT17
import Derived.KernelRfl
open Ab Go TabB T1 T2 T3 T4 T5 T6 T11 T14 T20 T21 T22
set_option maxRecDepth 20000
set_option linter.unusedSimpArgs false
set_option linter.unusedVariables false
set_option maxHeartbeats 8000000
namespace T23
theorem or8_pow (y : Int) (m : Nat) (h0 : 0 ≤ y) (h1 : y < 256) (hm : m ≤ 7) (hd : y % 2 ^ (m + 1) = 0) : or8 y (2 ^ m) = y + 2 ^ m := by
  obtain ⟨a, rfl⟩ := Int.eq_ofNat_of_zero_le h0
  have e : ((2 : Int) ^ m) = ((2 ^ m : Nat) : Int) := by exact_mod_cast rfl
  have e2 : ((2 : Int) ^ (m + 1)) = ((2 ^ (m + 1) : Nat) : Int) := by exact_mod_cast rfl
  rw [e2] at hd
  have hd' : a % 2 ^ (m + 1) = 0 := by exact_mod_cast hd
  have pm : 2 ^ m < 2 ^ (m + 1) := Nat.pow_lt_pow_right (by decide) (by omega)
  have p7 : 2 ^ m ≤ 2 ^ 7 := Nat.pow_le_pow_right (by decide) hm
  obtain ⟨q, hq⟩ : ∃ q, a = q * 2 ^ (m + 1) := ⟨a / 2 ^ (m + 1), by have := Nat.div_add_mod a (2 ^ (m + 1)); rw [hd', Nat.add_zero, Nat.mul_comm] at this; exact this.symm⟩
  have o := Nat.shiftLeft_add_eq_or_of_lt pm q
  rw [Nat.shiftLeft_eq, ← hq] at o
  have al : a < 256 := by omega
  have sum : a + 2 ^ m < 256 := by
    rw [o]; exact Nat.or_lt_two_pow (n := 8) al (by omega)
  unfold or8
  rw [e, BitVec.ofInt_natCast, BitVec.ofInt_natCast, BitVec.toNat_or, BitVec.toNat_ofNat, BitVec.toNat_ofNat, Nat.mod_eq_of_lt al, Nat.mod_eq_of_lt (by omega), ← o, w_u8]
  omega
theorem low_zero (l : List Int) (hb : isBit l) (j t : Nat) (ht : t < 8) : val (l.take (8 * j + t)) (8 * j) 8 % 2 ^ (7 - t + 1) = 0 := by
  rw [T12.val_eight]
  have z := fun i h => bit_out l (8 * j + t) i h
  have ht2 : t = 0 ∨ t = 1 ∨ t = 2 ∨ t = 3 ∨ t = 4 ∨ t = 5 ∨ t = 6 ∨ t = 7 := by omega
  rcases ht2 with rfl | rfl | rfl | rfl | rfl | rfl | rfl | rfl
  · have a0 := z (8 * j) (by omega)
    rw [a0, z _ (by omega), z _ (by omega), z _ (by omega), z _ (by omega), z _ (by omega), z _ (by omega), z _ (by omega)]; rfl
  · rw [z (8 * j + 1) (by omega), z (8 * j + 2) (by omega), z (8 * j + 3) (by omega), z (8 * j + 4) (by omega), z (8 * j + 5) (by omega), z (8 * j + 6) (by omega), z (8 * j + 7) (by omega)]; simp only [Nat.reduceSub, Nat.reduceAdd, Int.reducePow]; omega
  · rw [z (8 * j + 2) (by omega), z (8 * j + 3) (by omega), z (8 * j + 4) (by omega), z (8 * j + 5) (by omega), z (8 * j + 6) (by omega), z (8 * j + 7) (by omega)]; simp only [Nat.reduceSub, Nat.reduceAdd, Int.reducePow]; omega
  · rw [z (8 * j + 3) (by omega), z (8 * j + 4) (by omega), z (8 * j + 5) (by omega), z (8 * j + 6) (by omega), z (8 * j + 7) (by omega)]; simp only [Nat.reduceSub, Nat.reduceAdd, Int.reducePow]; omega
  · rw [z (8 * j + 4) (by omega), z (8 * j + 5) (by omega), z (8 * j + 6) (by omega), z (8 * j + 7) (by omega)]; simp only [Nat.reduceSub, Nat.reduceAdd, Int.reducePow]; omega
  · rw [z (8 * j + 5) (by omega), z (8 * j + 6) (by omega), z (8 * j + 7) (by omega)]; simp only [Nat.reduceSub, Nat.reduceAdd, Int.reducePow]; omega
  · rw [z (8 * j + 6) (by omega), z (8 * j + 7) (by omega)]; simp only [Nat.reduceSub, Nat.reduceAdd, Int.reducePow]; omega
  · rw [z (8 * j + 7) (by omega)]; simp only [Nat.reduceSub, Nat.reduceAdd, Int.reducePow]; omega
theorem or_bit (l : List Int) (hb : isBit l) (j t : Nat) (ht : t < 8) : or8 (val (l.take (8 * j + t)) (8 * j) 8) (128 / 2 ^ t) = val (l.take (8 * j + t)) (8 * j) 8 + 128 / 2 ^ t := by
  have v := val_256 (l := l.take (8 * j + t)) (fun z hz => hb z (List.mem_of_mem_take hz)) (8 * j) 8 (by omega)
  have e : (128 : Int) / 2 ^ t = 2 ^ (7 - t) := by
    have ht2 : t = 0 ∨ t = 1 ∨ t = 2 ∨ t = 3 ∨ t = 4 ∨ t = 5 ∨ t = 6 ∨ t = 7 := by omega
    rcases ht2 with rfl | rfl | rfl | rfl | rfl | rfl | rfl | rfl <;> rfl
  rw [e]
  exact or8_pow _ (7 - t) v.1 v.2 (by omega) (low_zero l hb j t ht)
theorem fin (call sc) (k1 : Nat) (w n : Int) (L : Nat) (ys : List Int) :
    aCode E call sc k1 1 fn29 b29 (cleanS 1 ((firstReg b29).bind fn29.head) (S w n L ys n)) = some (.exit 0, ⟨[(0, .int .u64 w), (3, .int .i64 n), (4, .ref (1, 11, 0) 0 L (some L)), (12, .int .i64 n), (13, .int .i64 n), (14, .bool false)], [((1, 11, 0), ⟨bs ys, true, true, true, 1, false⟩)]⟩) := by
  have kk := bs_keys ys
  simp [b29, c29, ↓s_seq, ↓s_reg, ↓s_regd, ↓s_cond, ↓s_block, ↓s_cons, ↓s_consG, s_nil, s_loop, s_round, s_lpn, s_lpe, s_lpr, firstReg, s_gt, s_gf, s_wb, s_wu, s_val, s_valN, s_skip, s_calls, s_callP, s_cax, lookR, flatR, pureKs, s_ret, s_rgx, s_sqn, s_sqr, s_sqe, s_cdb, s_bkn, s_bkr, s_bke, s_exit, s_ret', s_skip', s_finr, s_finn, s_fin1, s_fix, s_clean, s_gc0, o_tmp, o_int, o_bool, o_nil, o_str, o_fn, o_nil', l_hit, l_miss, l_nil, ol_nil, ol_cons, ol_some, x_move, x_assign, x_pick, pk_t, pk_f, x_bin, bn_s, x_un, x_extract, x_callF, cl_no, x_callB, x_conv, cvx, convA, frame0, binA, intOp, resL, resA, results1, sealA, sealLW, AV.pure, AV.pureL, keepT, x_alloc, x_box, bxx, x_build, bdx, x_buildSlice, bsx, x_buildSliceF, bsf, x_load, ldx, x_store, stx, x_slice, slx, x_fieldAddr, x_field, x_index, ixx, x_indexAddr, iax, x_makeSlice, msx, x_nilCheck, newK, genOf, setK, lookK, fillA, writeL, writeC, readC, conts, TyI.mk1, sliceA, boundsA, boundsB, fitsA, numA, indexAddrA, fieldAddrA, partA, fieldA, indexA, appendA, copyA, builtinA, AV.cells, AV.scal, chunk, gcH, reach, keysT, keepK, inKs, AV.keys, AV.keysL, Ty.isAgg, eq1, eqL, convA.go, ltI, w_u8, w_u32, w_u64, w_i64, w_fdiv, w_tdiv, w_tmod, IntKind.bits, unA, kk]
theorem loop (call sc) (k1 k : Nat) (l : List Int) (hb : isBit l) (L : Nat) (hl : l.length ≤ 64) (hL : l.length ≤ 8 * L) (hk : l.length < k) :
    aLoop (aCode E call sc k1 1 fn29 b29) (cleanS 1 ((firstReg b29).bind fn29.head)) k (S (W l) (l.length : Int) L (upto [] L) 0) = some (.exit 0, ⟨[(0, .int .u64 (W l)), (3, .int .i64 (l.length : Int)), (4, .ref (1, 11, 0) 0 L (some L)), (12, .int .i64 (l.length : Int)), (13, .int .i64 (l.length : Int)), (14, .bool false)], [((1, 11, 0), ⟨bs (upto l L), true, true, true, 1, false⟩)]⟩) := by
  have wl := W_lt hb
  have p64 : (2 : Int) ^ l.length ≤ 18446744073709551616 := by
    have h : 2 ^ l.length ≤ 2 ^ 64 := Nat.pow_le_pow_right (by decide) hl
    rw [show (2 : Nat) ^ 64 = 18446744073709551616 from rfl] at h
    have e : ((2 : Int) ^ l.length) = ((2 ^ l.length : Nat) : Int) := by exact_mod_cast rfl
    rw [e]; omega
  refine loopR (fun j => S (W l) (l.length : Int) L (upto (l.take j) L) (j : Int)) l.length (by simp) (fun i hi => ?_) ?_ (by simp) hk
  · obtain ⟨x, e⟩ : ∃ x, l[i]? = some x := ⟨l[i], by simp⟩
    have hx := hb x (List.mem_of_getElem? e)
    have pk : (0 : Int) < 2 ^ i := Int.pow_pos (by decide)
    have d0 : 0 ≤ W l / 2 ^ i := Int.ediv_nonneg wl.1 (by omega)
    have d1 : W l / 2 ^ i ≤ W l := Int.ediv_le_self _ wl.1
    have an : andU (W l / 2 ^ i) 1 = x := by rw [and1 _ d0 (by omega), W_bit l hb i x e]
    rcases hx with rfl | rfl
    · rw [row_zero l L i e]
      exact zero call sc k1 (W l) (l.length : Int) L _ i (by omega) (by omega) wl.1 an
    · obtain ⟨j, t, ht, rfl⟩ : ∃ j t, t < 8 ∧ i = 8 * j + t := ⟨i / 8, i % 8, by omega, by omega⟩
      have hj : j < L := by omega
      rw [row_one l L j t ht hj e]
      exact one call sc k1 (W l) (l.length : Int) L _ j t _ _ ht (by omega) (by omega) wl.1 (T6.upto_length _ _) (by unfold upto; simp [hj]) an (or_bit l hb j t ht)
  · rw [List.take_length]
    exact fin call sc k1 (W l) (l.length : Int) L (upto l L)
theorem W_ge (l : List Int) (hb : isBit l) (h0 : 0 < l.length) (hz : l[l.length - 1]? = some 1) : 2 ^ (l.length - 1) ≤ W l := by
  have h := T17.W_take l (l.length - 1) 1 hz
  rw [show l.length - 1 + 1 = l.length by omega, List.take_length, Int.one_mul] at h
  have a := W_lt (l := l.take (l.length - 1)) fun z hz => hb z (List.mem_of_mem_take hz)
  omega
theorem upto_nil (L : Nat) : upto [] L = List.replicate L 0 := by
  unfold upto
  apply List.ext_getElem?
  intro i
  by_cases h : i < L
  · simp [h, T12.val_eight, bit]
  · rw [List.getElem?_eq_none (by simp; omega), List.getElem?_eq_none (by simp; omega)]
theorem put (l : List Int) (hb : isBit l) (h0 : 0 < l.length) (hl : l.length ≤ 64) (hz : l[l.length - 1]? = some 1) (x : Int) (hx : (8 - (l.length : Int) % 8) % 8 = x) : Con E 500 29 [.int .u64 (W l)] (.sl false (bs (x :: bytesOf l)) (some ((bytesOf l).length + 1))) := by
  refine .of (g := []) rfl ?_
  rw [aCall_fn rfl (E_fn29) rfl (Nat.le_of_ble_eq_true rfl) rfl rfl, body_29, c29]
  obtain ⟨L, eL⟩ : ∃ L, (l.length + 7) / 8 = L := ⟨_, rfl⟩
  have bl : bytesOf l = upto l L := by unfold bytesOf; rw [eL]
  have ll : (upto l L).length = L := T6.upto_length _ _
  rw [bl, ll]
  have n64 := len64 (W l) l.length h0 hl (W_ge l hb h0 hz) (W_lt hb).2
  have u := unused (l.length : Int) x (by omega) (by omega) hx
  have w1 := w64 ((l.length : Int) + 7) (by omega) (by omega)
  have q1 : ((l.length : Int) + 7).tdiv 8 = (L : Int) := by rw [Int.tdiv_eq_ediv_of_nonneg (by omega)]; omega
  have q1' : ((l.length : Int) + 7) / 8 = (L : Int) := by omega
  have w2 := w64 (L : Int) (by omega) (by omega)
  have L0 : (L : Int) ≤ 70368744177664 := by omega
  have x8 : x % 256 = x := by omega
  have z0 : List.replicate L (AV.int .u8 0) = bs (upto [] L) := by rw [upto_nil]; exact bs_zero L
  have lp := loop (aCall E 499) (dcall (aRun E 499)) 499 499 l hb L hl (by omega) (by omega)
  simp [b29, c29, firstReg] at lp
  have k1 := bs_keys (upto [] L)
  have k2 := bs_keys (upto l L)
  have sl : ∀ h cap, lookK h (1, 11, 0) = some ⟨bs (upto l L), true, true, true, 1, false⟩ → sealA 20 h (.ref (1, 11, 0) 0 L cap) = some (.sl false (bs (upto l L)) cap, setK h (1, 11, 0) ⟨bs (upto l L), true, false, true, 1, false⟩) := fun h cap hk => seal_row (n := 18) hk (by rw [bs_length, ll]) (bs_pure _)
  have j' : ∀ c, Con E 10 46 [.sl false [.int .u8 x] (some 1), .sl false (bs (upto l L)) c] (.sl false (bs (x :: upto l L)) (some (L + 1))) := fun c => by
    have := joined false false (some 1) c [x] (upto l L) (by simp) (by omega)
    rw [List.length_singleton, ll, Nat.add_comm] at this
    exact this
  simp [↓s_seq, ↓s_reg, ↓s_regd, ↓s_cond, ↓s_block, ↓s_cons, ↓s_consG, s_nil, s_loop, s_round, s_lpn, s_lpe, s_lpr, firstReg, s_gt, s_gf, s_wb, s_wu, s_val, s_valN, s_skip, s_calls, s_callP, s_cax, lookR, flatR, pureKs, s_ret, s_rgx, s_sqn, s_sqr, s_sqe, s_cdb, s_bkn, s_bkr, s_bke, s_exit, s_ret', s_skip', s_finr, s_finn, s_fin1, s_fix, s_clean, s_gc0, o_tmp, o_int, o_bool, o_nil, o_str, o_fn, o_nil', l_hit, l_miss, l_nil, ol_nil, ol_cons, ol_some, x_move, x_assign, x_pick, pk_t, pk_f, x_bin, bn_s, x_un, x_extract, x_callF, cl_no, x_callB, x_conv, cvx, convA, frame0, binA, intOp, resL, resA, results1, sealA, sealLW, AV.pure, AV.pureL, keepT, x_alloc, x_box, bxx, x_build, bdx, x_buildSlice, bsx, x_buildSliceF, bsf, x_load, ldx, x_store, stx, x_slice, slx, x_fieldAddr, x_field, x_index, ixx, x_indexAddr, iax, x_makeSlice, msx, x_nilCheck, newK, genOf, setK, lookK, fillA, writeL, writeC, readC, conts, TyI.mk1, sliceA, boundsA, boundsB, fitsA, numA, indexAddrA, fieldAddrA, partA, fieldA, indexA, appendA, copyA, builtinA, AV.cells, AV.scal, chunk, gcH, reach, keysT, keepK, inKs, AV.keys, AV.keysL, Ty.isAgg, eq1, eqL, convA.go, ltI, w_u8, w_u32, w_u64, w_i64, w_fdiv, w_tdiv, w_tmod, IntKind.bits, unA, n64, w1, q1, q1', w2, L0, z0, lp, k1, k2, sl, u, x8, j', bs_pure, -s_round, -sealA, -sealLW]
theorem put0 : Con E 500 29 [.int .u64 0] (.sl false (bs [0]) (some 1)) := .of (g := []) rfl (by kernel_rfl : aCall E 500 0 29 [.int .u64 0] [] = some (.ret (.sl false [.int .u8 0] (some 1)), []))
end T23
