/- bitstrings at the evaluator: no loops. No conditions. -/
import Derived.Test.YtalmnhdnclmhbaaT2
open Ab Go TabB T1 T2
set_option maxRecDepth 20000
set_option linter.unusedSimpArgs false
set_option linter.unusedVariables false
set_option maxHeartbeats 8000000
namespace T3
theorem bs_keys (l) : AV.keysL (bs l) = [] := AV.keysL_pure _ (bs_pure l)
theorem bs_zero (n : Nat) : List.replicate n (AV.int .u8 0) = bs (List.replicate n 0) := by simp [bs]
theorem w_first (xs : List Int) (n : Nat) : writeL (bs (List.replicate (xs.length + n) 0)) 0 (bs xs) = bs (xs ++ List.replicate n 0) := by
  simp [writeL, bs_append, bs]
theorem w_then (xs ys : List Int) : writeL (bs (xs ++ List.replicate ys.length 0)) xs.length (bs ys) = bs (xs ++ ys) := by
  unfold writeL
  rw [bs_append, List.take_left' (bs_length xs), bs_length, bs_append, List.drop_eq_nil_of_le (by simp [bs]), List.append_nil]
theorem wc1 (xs : List Int) (n : Nat) : writeC [((1, 12, 0), ⟨bs (List.replicate (xs.length + n) 0), true, true, true, 1, false⟩)] (1, 12, 0) 0 (bs xs) = some [((1, 12, 0), ⟨bs (xs ++ List.replicate n 0), true, true, true, 1, false⟩)] := by
  unfold writeC
  simp only [lookK, if_true]
  rw [if_pos ⟨trivial, trivial, by simp [bs], bs_scal xs⟩, w_first]
  simp [setK]
theorem wc2 (xs ys : List Int) : writeC [((1, 12, 0), ⟨bs (xs ++ List.replicate ys.length 0), true, true, true, 1, false⟩)] (1, 12, 0) xs.length (bs ys) = some [((1, 12, 0), ⟨bs (xs ++ ys), true, true, true, 1, false⟩)] := by
  unfold writeC
  simp only [lookK, if_true]
  rw [if_pos ⟨trivial, trivial, by simp [bs], bs_scal ys⟩, w_then]
  simp [setK]
theorem joined (f g c d) (xs ys : List Int) (hx : xs.length < 1000000) (hy : ys.length < 1000000) : Con E 10 46 [.sl f (bs xs) c, .sl g (bs ys) d] (.sl false (bs (xs ++ ys)) (some (xs.length + ys.length))) := by
  refine .of (g := []) (by simp [AV.pureL, AV.pure, bs_pure]) ?_
  rw [aCall_fn rfl (E_fn46) (by simp [AV.pureL, AV.pure, bs_pure]) (Nat.le_of_ble_eq_true rfl) rfl rfl, body_46, c46]
  have w := w64 ((xs.length : Int) + (ys.length : Int)) (by omega) (by omega)
  have n0 : (0 : Int) ≤ (xs.length : Int) + (ys.length : Int) := by omega
  have n1 : (xs.length : Int) + (ys.length : Int) ≤ 70368744177664 := by omega
  have n2 : ((xs.length : Int) + (ys.length : Int)).toNat = xs.length + ys.length := by omega
  have m1 : min xs.length (xs.length + ys.length) = xs.length := by omega
  have m2 : min ys.length ys.length = ys.length := by omega
  have w1 := wc1 xs ys.length
  have w2 := wc2 xs ys
  have w3 := w64 (xs.length : Int) (by omega) (by omega)
  have w4 := w64 (ys.length : Int) (by omega) (by omega)
  have k := bs_keys
  have sl : ∀ h, lookK h (1, 12, 0) = some ⟨bs (xs ++ ys), true, true, true, 1, false⟩ → sealA 20 h (.ref (1, 12, 0) 0 (xs.length + ys.length) (some (xs.length + ys.length))) = some (.sl false (bs (xs ++ ys)) (some (xs.length + ys.length)), setK h (1, 12, 0) ⟨bs (xs ++ ys), true, false, true, 1, false⟩) := fun h hk => seal_row (n := 18) hk (by rw [bs_length]; simp) (bs_pure _)
  by_cases hy0 : ys = []
  · subst hy0
    by_cases hx0 : xs = []
    · subst hx0
      simp [↓s_seq, ↓s_reg, ↓s_regd, ↓s_cond, ↓s_block, ↓s_cons, ↓s_consG, s_nil, s_loop, s_round, s_lpn, s_lpe, s_lpr, firstReg, s_gt, s_gf, s_wb, s_wu, s_val, s_valN, s_skip, s_calls, s_callP, s_cax, lookR, flatR, pureKs, s_ret, s_rgx, s_sqn, s_sqr, s_sqe, s_cdb, s_bkn, s_bkr, s_bke, s_exit, s_ret', s_skip', s_finr, s_finn, s_fin1, s_fix, s_clean, s_gc0, o_tmp, o_int, o_bool, o_nil, o_str, o_fn, o_nil', l_hit, l_miss, l_nil, ol_nil, ol_cons, ol_some, x_move, x_assign, x_pick, pk_t, pk_f, x_bin, bn_s, x_un, x_extract, x_callF, cl_no, x_callB, x_conv, cvx, convA, frame0, binA, intOp, resL, resA, results1, sealA, sealLW, AV.pure, AV.pureL, keepT, x_alloc, x_box, bxx, x_build, bdx, x_buildSlice, bsx, x_buildSliceF, bsf, x_load, ldx, x_store, stx, x_slice, slx, x_fieldAddr, x_field, x_index, ixx, x_indexAddr, iax, x_makeSlice, msx, x_nilCheck, newK, genOf, setK, lookK, fillA, writeL, writeC, readC, conts, TyI.mk1, sliceA, boundsA, boundsB, fitsA, numA, indexAddrA, fieldAddrA, partA, fieldA, indexA, appendA, copyA, builtinA, AV.cells, AV.scal, chunk, gcH, reach, keysT, keepK, inKs, AV.keys, AV.keysL, Ty.isAgg, eq1, eqL, convA.go, ltI, w_u8, w_u32, w_u64, w_i64, w_fdiv, w_tdiv, w_tmod, IntKind.bits, unA, bs_nil]
    · have hx1 : 0 < xs.length := List.length_pos_iff.2 hx0
      have v1 : writeC [((1, 12, 0), ⟨bs (List.replicate xs.length 0), true, true, true, 1, false⟩)] (1, 12, 0) 0 (bs xs) = some [((1, 12, 0), ⟨bs xs, true, true, true, 1, false⟩)] := by simpa using wc1 xs 0
      have v2 : (xs.length : Int) ≤ 70368744177664 := by omega
      have v3 : ∀ h, lookK h (1, 12, 0) = some ⟨bs xs, true, true, true, 1, false⟩ → sealA 20 h (.ref (1, 12, 0) 0 xs.length (some xs.length)) = some (.sl false (bs xs) (some xs.length), setK h (1, 12, 0) ⟨bs xs, true, false, true, 1, false⟩) := fun h hk => seal_row (n := 18) hk (by rw [bs_length]) (bs_pure _)
      have v4 : min xs.length xs.length = xs.length := by omega
      simp [↓s_seq, ↓s_reg, ↓s_regd, ↓s_cond, ↓s_block, ↓s_cons, ↓s_consG, s_nil, s_loop, s_round, s_lpn, s_lpe, s_lpr, firstReg, s_gt, s_gf, s_wb, s_wu, s_val, s_valN, s_skip, s_calls, s_callP, s_cax, lookR, flatR, pureKs, s_ret, s_rgx, s_sqn, s_sqr, s_sqe, s_cdb, s_bkn, s_bkr, s_bke, s_exit, s_ret', s_skip', s_finr, s_finn, s_fin1, s_fix, s_clean, s_gc0, o_tmp, o_int, o_bool, o_nil, o_str, o_fn, o_nil', l_hit, l_miss, l_nil, ol_nil, ol_cons, ol_some, x_move, x_assign, x_pick, pk_t, pk_f, x_bin, bn_s, x_un, x_extract, x_callF, cl_no, x_callB, x_conv, cvx, convA, frame0, binA, intOp, resL, resA, results1, sealA, sealLW, AV.pure, AV.pureL, keepT, x_alloc, x_box, bxx, x_build, bdx, x_buildSlice, bsx, x_buildSliceF, bsf, x_load, ldx, x_store, stx, x_slice, slx, x_fieldAddr, x_field, x_index, ixx, x_indexAddr, iax, x_makeSlice, msx, x_nilCheck, newK, genOf, setK, lookK, fillA, readC, conts, TyI.mk1, sliceA, boundsA, boundsB, fitsA, numA, indexAddrA, fieldAddrA, partA, fieldA, indexA, appendA, copyA, builtinA, AV.cells, AV.scal, chunk, gcH, reach, keysT, keepK, inKs, AV.keys, AV.keysL, Ty.isAgg, eq1, eqL, convA.go, ltI, w_u8, w_u32, w_u64, w_i64, w_fdiv, w_tdiv, w_tmod, IntKind.bits, unA, bs_pure, bs_length, bs_cells, bs_all, bs_nil, bs_zero, v1, v2, v3, v4, w3, k, hx0, hx1, -sealA, -sealLW]
  · have hy1 : 0 < ys.length := List.length_pos_iff.2 hy0
    simp [↓s_seq, ↓s_reg, ↓s_regd, ↓s_cond, ↓s_block, ↓s_cons, ↓s_consG, s_nil, s_loop, s_round, s_lpn, s_lpe, s_lpr, firstReg, s_gt, s_gf, s_wb, s_wu, s_val, s_valN, s_skip, s_calls, s_callP, s_cax, lookR, flatR, pureKs, s_ret, s_rgx, s_sqn, s_sqr, s_sqe, s_cdb, s_bkn, s_bkr, s_bke, s_exit, s_ret', s_skip', s_finr, s_finn, s_fin1, s_fix, s_clean, s_gc0, o_tmp, o_int, o_bool, o_nil, o_str, o_fn, o_nil', l_hit, l_miss, l_nil, ol_nil, ol_cons, ol_some, x_move, x_assign, x_pick, pk_t, pk_f, x_bin, bn_s, x_un, x_extract, x_callF, cl_no, x_callB, x_conv, cvx, convA, frame0, binA, intOp, resL, resA, results1, sealA, sealLW, AV.pure, AV.pureL, keepT, x_alloc, x_box, bxx, x_build, bdx, x_buildSlice, bsx, x_buildSliceF, bsf, x_load, ldx, x_store, stx, x_slice, slx, x_fieldAddr, x_field, x_index, ixx, x_indexAddr, iax, x_makeSlice, msx, x_nilCheck, newK, genOf, setK, lookK, fillA, readC, conts, TyI.mk1, sliceA, boundsA, boundsB, fitsA, numA, indexAddrA, fieldAddrA, partA, fieldA, indexA, appendA, copyA, builtinA, AV.cells, AV.scal, chunk, gcH, reach, keysT, keepK, inKs, AV.keys, AV.keysL, Ty.isAgg, eq1, eqL, convA.go, ltI, w_u8, w_u32, w_u64, w_i64, w_fdiv, w_tdiv, w_tmod, IntKind.bits, unA, bs_pure, bs_length, bs_cells, bs_all, w, n0, n1, n2, bs_zero, m1, m2, w1, w2, w3, w4, k, sl, hy0, hy1, -sealA, -sealLW]
end T3
