/- The content octets of a number at the evaluator. No conditions. -/
import Derived.Test.YtbgmkcmailcciaaDoorN3
open Ab Go TabC
set_option maxRecDepth 20000
set_option linter.unusedSimpArgs false
set_option linter.unusedVariables false
set_option maxHeartbeats 8000000
namespace R1
theorem clip (f xs c) (hp : AV.pureL xs = true) : Con E 5 52 [.sl f xs c] (.sl f xs (some xs.length)) := by
  refine .of (g := []) (by simp [AV.pureL, AV.pure, hp]) ?_
  rw [aCall_fn rfl (E_fn52) (by simp [AV.pureL, AV.pure, hp]) (Nat.le_of_ble_eq_true rfl) rfl rfl, body_52, c52]
  simp [↓s_seq, ↓s_reg, ↓s_regd, ↓s_cond, ↓s_block, ↓s_cons, ↓s_consG, s_nil, s_loop, s_round, s_lpn, s_lpe, s_lpr, firstReg, s_gt, s_gf, s_wb, s_wu, s_val, s_valN, s_skip, s_calls, s_callP, s_cax, lookR, flatR, pureKs, s_ret, s_rgx, s_sqn, s_sqr, s_sqe, s_cdb, s_bkn, s_bkr, s_bke, s_exit, s_ret', s_skip', s_finr, s_finn, s_fin1, s_fix, s_clean, s_gc0, o_tmp, o_int, o_bool, o_nil, o_str, o_fn, o_nil', l_hit, l_miss, l_nil, ol_nil, ol_cons, ol_some, x_move, x_assign, x_pick, pk_t, pk_f, x_bin, bn_s, x_un, x_extract, x_callF, cl_no, x_callB, x_conv, cvx, convA, frame0, binA, intOp, resL, resA, results1, sealA, sealLW, AV.pure, AV.pureL, keepT, x_alloc, x_box, bxx, x_build, bdx, x_buildSlice, bsx, x_buildSliceF, bsf, x_load, ldx, x_store, stx, x_slice, slx, x_fieldAddr, x_field, x_index, ixx, x_indexAddr, iax, x_makeSlice, msx, x_nilCheck, newK, genOf, setK, lookK, fillA, writeL, writeC, readC, conts, TyI.mk1, sliceA, boundsA, boundsB, fitsA, numA, indexAddrA, fieldAddrA, partA, fieldA, indexA, appendA, copyA, builtinA, AV.cells, AV.scal, chunk, gcH, reach, keysT, keepK, inKs, AV.keys, AV.keysL, Ty.isAgg, eq1, eqL, convA.go, ltI, w_u8, w_u32, w_u64, w_i64, w_fdiv, w_tdiv, w_tmod, IntKind.bits, unA, hp]
theorem sup_one (f x c) : Con E 5 51 [.sl f [.int .u8 x] c] (.bool false) := by
  refine .of (g := []) rfl ?_
  rw [aCall_fn rfl (E_fn51) rfl (Nat.le_of_ble_eq_true rfl) rfl rfl, body_51, c51]
  simp [↓s_seq, ↓s_reg, ↓s_regd, ↓s_cond, ↓s_block, ↓s_cons, ↓s_consG, s_nil, s_loop, s_round, s_lpn, s_lpe, s_lpr, firstReg, s_gt, s_gf, s_wb, s_wu, s_val, s_valN, s_skip, s_calls, s_callP, s_cax, lookR, flatR, pureKs, s_ret, s_rgx, s_sqn, s_sqr, s_sqe, s_cdb, s_bkn, s_bkr, s_bke, s_exit, s_ret', s_skip', s_finr, s_finn, s_fin1, s_fix, s_clean, s_gc0, o_tmp, o_int, o_bool, o_nil, o_str, o_fn, o_nil', l_hit, l_miss, l_nil, ol_nil, ol_cons, ol_some, x_move, x_assign, x_pick, pk_t, pk_f, x_bin, bn_s, x_un, x_extract, x_callF, cl_no, x_callB, x_conv, cvx, convA, frame0, binA, intOp, resL, resA, results1, sealA, sealLW, AV.pure, AV.pureL, keepT, x_alloc, x_box, bxx, x_build, bdx, x_buildSlice, bsx, x_buildSliceF, bsf, x_load, ldx, x_store, stx, x_slice, slx, x_fieldAddr, x_field, x_index, ixx, x_indexAddr, iax, x_makeSlice, msx, x_nilCheck, newK, genOf, setK, lookK, fillA, writeL, writeC, readC, conts, TyI.mk1, sliceA, boundsA, boundsB, fitsA, numA, indexAddrA, fieldAddrA, partA, fieldA, indexA, appendA, copyA, builtinA, AV.cells, AV.scal, chunk, gcH, reach, keysT, keepK, inKs, AV.keys, AV.keysL, Ty.isAgg, eq1, eqL, convA.go, ltI, w_u8, w_u32, w_u64, w_i64, w_fdiv, w_tdiv, w_tmod, IntKind.bits, unA]
theorem sup_yes (f x r c) (hp : AV.pureL r = true) (h : x < 128) : Con E 5 51 [.sl f (.int .u8 0 :: .int .u8 x :: r) c] (.bool true) := by
  refine .of (g := []) (by simp [AV.pureL, AV.pure, hp]) ?_
  rw [aCall_fn rfl (E_fn51) (by simp [AV.pureL, AV.pure, hp]) (Nat.le_of_ble_eq_true rfl) rfl rfl, body_51, c51]
  have e : (1 : Int) < (r.length : Int) + 1 + 1 := by omega
  have e' : (0 : Int) < (r.length : Int) + 1 + 1 := by omega
  simp [↓s_seq, ↓s_reg, ↓s_regd, ↓s_cond, ↓s_block, ↓s_cons, ↓s_consG, s_nil, s_loop, s_round, s_lpn, s_lpe, s_lpr, firstReg, s_gt, s_gf, s_wb, s_wu, s_val, s_valN, s_skip, s_calls, s_callP, s_cax, lookR, flatR, pureKs, s_ret, s_rgx, s_sqn, s_sqr, s_sqe, s_cdb, s_bkn, s_bkr, s_bke, s_exit, s_ret', s_skip', s_finr, s_finn, s_fin1, s_fix, s_clean, s_gc0, o_tmp, o_int, o_bool, o_nil, o_str, o_fn, o_nil', l_hit, l_miss, l_nil, ol_nil, ol_cons, ol_some, x_move, x_assign, x_pick, pk_t, pk_f, x_bin, bn_s, x_un, x_extract, x_callF, cl_no, x_callB, x_conv, cvx, convA, frame0, binA, intOp, resL, resA, results1, sealA, sealLW, AV.pure, AV.pureL, keepT, x_alloc, x_box, bxx, x_build, bdx, x_buildSlice, bsx, x_buildSliceF, bsf, x_load, ldx, x_store, stx, x_slice, slx, x_fieldAddr, x_field, x_index, ixx, x_indexAddr, iax, x_makeSlice, msx, x_nilCheck, newK, genOf, setK, lookK, fillA, writeL, writeC, readC, conts, TyI.mk1, sliceA, boundsA, boundsB, fitsA, numA, indexAddrA, fieldAddrA, partA, fieldA, indexA, appendA, copyA, builtinA, AV.cells, AV.scal, chunk, gcH, reach, keysT, keepK, inKs, AV.keys, AV.keysL, Ty.isAgg, eq1, eqL, convA.go, ltI, w_u8, w_u32, w_u64, w_i64, w_fdiv, w_tdiv, w_tmod, IntKind.bits, unA, h, e, e', hp]
theorem sup_no (f x y r c) (hp : AV.pureL r = true) (h : ¬ x = 255) (h2 : x = 0 → 128 ≤ y) : Con E 5 51 [.sl f (.int .u8 x :: .int .u8 y :: r) c] (.bool false) := by
  refine .of (g := []) (by simp [AV.pureL, AV.pure, hp]) ?_
  rw [aCall_fn rfl (E_fn51) (by simp [AV.pureL, AV.pure, hp]) (Nat.le_of_ble_eq_true rfl) rfl rfl, body_51, c51]
  have e : (1 : Int) < (r.length : Int) + 1 + 1 := by omega
  have e' : (0 : Int) < (r.length : Int) + 1 + 1 := by omega
  have e255 : (x == 255) = false := by simp [h]
  by_cases h0 : x = 0
  · have h3 : ¬ y < 128 := by have := h2 h0; omega
    subst h0
    simp [↓s_seq, ↓s_reg, ↓s_regd, ↓s_cond, ↓s_block, ↓s_cons, ↓s_consG, s_nil, s_loop, s_round, s_lpn, s_lpe, s_lpr, firstReg, s_gt, s_gf, s_wb, s_wu, s_val, s_valN, s_skip, s_calls, s_callP, s_cax, lookR, flatR, pureKs, s_ret, s_rgx, s_sqn, s_sqr, s_sqe, s_cdb, s_bkn, s_bkr, s_bke, s_exit, s_ret', s_skip', s_finr, s_finn, s_fin1, s_fix, s_clean, s_gc0, o_tmp, o_int, o_bool, o_nil, o_str, o_fn, o_nil', l_hit, l_miss, l_nil, ol_nil, ol_cons, ol_some, x_move, x_assign, x_pick, pk_t, pk_f, x_bin, bn_s, x_un, x_extract, x_callF, cl_no, x_callB, x_conv, cvx, convA, frame0, binA, intOp, resL, resA, results1, sealA, sealLW, AV.pure, AV.pureL, keepT, x_alloc, x_box, bxx, x_build, bdx, x_buildSlice, bsx, x_buildSliceF, bsf, x_load, ldx, x_store, stx, x_slice, slx, x_fieldAddr, x_field, x_index, ixx, x_indexAddr, iax, x_makeSlice, msx, x_nilCheck, newK, genOf, setK, lookK, fillA, writeL, writeC, readC, conts, TyI.mk1, sliceA, boundsA, boundsB, fitsA, numA, indexAddrA, fieldAddrA, partA, fieldA, indexA, appendA, copyA, builtinA, AV.cells, AV.scal, chunk, gcH, reach, keysT, keepK, inKs, AV.keys, AV.keysL, Ty.isAgg, eq1, eqL, convA.go, ltI, w_u8, w_u32, w_u64, w_i64, w_fdiv, w_tdiv, w_tmod, IntKind.bits, unA, h3, e, e', hp]
  · have e0 : (x == 0) = false := by simp [h0]
    simp [↓s_seq, ↓s_reg, ↓s_regd, ↓s_cond, ↓s_block, ↓s_cons, ↓s_consG, s_nil, s_loop, s_round, s_lpn, s_lpe, s_lpr, firstReg, s_gt, s_gf, s_wb, s_wu, s_val, s_valN, s_skip, s_calls, s_callP, s_cax, lookR, flatR, pureKs, s_ret, s_rgx, s_sqn, s_sqr, s_sqe, s_cdb, s_bkn, s_bkr, s_bke, s_exit, s_ret', s_skip', s_finr, s_finn, s_fin1, s_fix, s_clean, s_gc0, o_tmp, o_int, o_bool, o_nil, o_str, o_fn, o_nil', l_hit, l_miss, l_nil, ol_nil, ol_cons, ol_some, x_move, x_assign, x_pick, pk_t, pk_f, x_bin, bn_s, x_un, x_extract, x_callF, cl_no, x_callB, x_conv, cvx, convA, frame0, binA, intOp, resL, resA, results1, sealA, sealLW, AV.pure, AV.pureL, keepT, x_alloc, x_box, bxx, x_build, bdx, x_buildSlice, bsx, x_buildSliceF, bsf, x_load, ldx, x_store, stx, x_slice, slx, x_fieldAddr, x_field, x_index, ixx, x_indexAddr, iax, x_makeSlice, msx, x_nilCheck, newK, genOf, setK, lookK, fillA, writeL, writeC, readC, conts, TyI.mk1, sliceA, boundsA, boundsB, fitsA, numA, indexAddrA, fieldAddrA, partA, fieldA, indexA, appendA, copyA, builtinA, AV.cells, AV.scal, chunk, gcH, reach, keysT, keepK, inKs, AV.keys, AV.keysL, Ty.isAgg, eq1, eqL, convA.go, ltI, w_u8, w_u32, w_u64, w_i64, w_fdiv, w_tdiv, w_tmod, IntKind.bits, unA, h, h0, e0, e255, e, e', hp]
theorem pn : AV.pureL [] = true := id rfl
theorem div0 {n : Int} {d : Int} (h0 : 0 ≤ n) (h : n < d) : n / d % 256 = 0 := by rw [Int.ediv_eq_zero_of_lt h0 h]; rfl
theorem put1 (n : Int) (h0 : 0 ≤ n) (h1 : n < 128) : Con E 40 33 [.int .i64 n] (.sl false [.int .u8 (n % 256)] (some 1)) := by
  have h0' : 0 ≤ n := by omega
  have e1 : n / 256 % 256 = 0 := div0 h0' (by omega)
  have e2 : n / 65536 % 256 = 0 := div0 h0' (by omega)
  have e3 : n / 16777216 % 256 = 0 := div0 h0' (by omega)
  have e4 : n / 4294967296 % 256 = 0 := div0 h0' (by omega)
  have e5 : n / 1099511627776 % 256 = 0 := div0 h0' (by omega)
  have e6 : n / 281474976710656 % 256 = 0 := div0 h0' (by omega)
  have e7 : n / 72057594037927936 % 256 = 0 := div0 h0' (by omega)
  refine .of (g := []) rfl ?_
  rw [aCall_fn rfl (E_fn33) rfl (Nat.le_of_ble_eq_true rfl) rfl rfl, body_33, c33]
  have t0 : n % 256 < 128 := by omega
  simp [↓s_seq, ↓s_reg, ↓s_regd, ↓s_cond, ↓s_block, ↓s_cons, ↓s_consG, s_nil, s_loop, s_round, s_lpn, s_lpe, s_lpr, firstReg, s_gt, s_gf, s_wb, s_wu, s_val, s_valN, s_skip, s_calls, s_callP, s_cax, lookR, flatR, pureKs, s_ret, s_rgx, s_sqn, s_sqr, s_sqe, s_cdb, s_bkn, s_bkr, s_bke, s_exit, s_ret', s_skip', s_finr, s_finn, s_fin1, s_fix, s_clean, s_gc0, o_tmp, o_int, o_bool, o_nil, o_str, o_fn, o_nil', l_hit, l_miss, l_nil, ol_nil, ol_cons, ol_some, x_move, x_assign, x_pick, pk_t, pk_f, x_bin, bn_s, x_un, x_extract, x_callF, cl_no, x_callB, x_conv, cvx, convA, frame0, binA, intOp, resL, resA, results1, sealA, sealLW, AV.pure, AV.pureL, keepT, x_alloc, x_box, bxx, x_build, bdx, x_buildSlice, bsx, x_buildSliceF, bsf, x_load, ldx, x_store, stx, x_slice, slx, x_fieldAddr, x_field, x_index, ixx, x_indexAddr, iax, x_makeSlice, msx, x_nilCheck, newK, genOf, setK, lookK, fillA, writeL, writeC, readC, conts, TyI.mk1, sliceA, boundsA, boundsB, fitsA, numA, indexAddrA, fieldAddrA, partA, fieldA, indexA, appendA, copyA, builtinA, AV.cells, AV.scal, chunk, gcH, reach, keysT, keepK, inKs, AV.keys, AV.keysL, Ty.isAgg, eq1, eqL, convA.go, ltI, w_u8, w_u32, w_u64, w_i64, w_fdiv, w_tdiv, w_tmod, IntKind.bits, unA, e1, e2, e3, e4, e5, e6, e7, t0, sup_one, sup_yes, clip, ↓pn]
theorem put2 (n : Int) (h0 : 128 ≤ n) (h1 : n < 32768) : Con E 40 33 [.int .i64 n] (.sl false [.int .u8 (n / 256 % 256), .int .u8 (n % 256)] (some 2)) := by
  have h0' : 0 ≤ n := by omega
  have e2 : n / 65536 % 256 = 0 := div0 h0' (by omega)
  have e3 : n / 16777216 % 256 = 0 := div0 h0' (by omega)
  have e4 : n / 4294967296 % 256 = 0 := div0 h0' (by omega)
  have e5 : n / 1099511627776 % 256 = 0 := div0 h0' (by omega)
  have e6 : n / 281474976710656 % 256 = 0 := div0 h0' (by omega)
  have e7 : n / 72057594037927936 % 256 = 0 := div0 h0' (by omega)
  refine .of (g := []) rfl ?_
  rw [aCall_fn rfl (E_fn33) rfl (Nat.le_of_ble_eq_true rfl) rfl rfl, body_33, c33]
  have t0 : n / 256 % 256 < 128 := by omega
  have s0 : ∀ f r c, AV.pureL r = true → Con E 5 51 [.sl f (.int .u8 (n / 256 % 256) :: .int .u8 (n % 256) :: r) c] (.bool false) := fun f r c hp => sup_no f _ _ r c hp (by omega) (by omega)
  simp [↓s_seq, ↓s_reg, ↓s_regd, ↓s_cond, ↓s_block, ↓s_cons, ↓s_consG, s_nil, s_loop, s_round, s_lpn, s_lpe, s_lpr, firstReg, s_gt, s_gf, s_wb, s_wu, s_val, s_valN, s_skip, s_calls, s_callP, s_cax, lookR, flatR, pureKs, s_ret, s_rgx, s_sqn, s_sqr, s_sqe, s_cdb, s_bkn, s_bkr, s_bke, s_exit, s_ret', s_skip', s_finr, s_finn, s_fin1, s_fix, s_clean, s_gc0, o_tmp, o_int, o_bool, o_nil, o_str, o_fn, o_nil', l_hit, l_miss, l_nil, ol_nil, ol_cons, ol_some, x_move, x_assign, x_pick, pk_t, pk_f, x_bin, bn_s, x_un, x_extract, x_callF, cl_no, x_callB, x_conv, cvx, convA, frame0, binA, intOp, resL, resA, results1, sealA, sealLW, AV.pure, AV.pureL, keepT, x_alloc, x_box, bxx, x_build, bdx, x_buildSlice, bsx, x_buildSliceF, bsf, x_load, ldx, x_store, stx, x_slice, slx, x_fieldAddr, x_field, x_index, ixx, x_indexAddr, iax, x_makeSlice, msx, x_nilCheck, newK, genOf, setK, lookK, fillA, writeL, writeC, readC, conts, TyI.mk1, sliceA, boundsA, boundsB, fitsA, numA, indexAddrA, fieldAddrA, partA, fieldA, indexA, appendA, copyA, builtinA, AV.cells, AV.scal, chunk, gcH, reach, keysT, keepK, inKs, AV.keys, AV.keysL, Ty.isAgg, eq1, eqL, convA.go, ltI, w_u8, w_u32, w_u64, w_i64, w_fdiv, w_tdiv, w_tmod, IntKind.bits, unA, e2, e3, e4, e5, e6, e7, t0, s0, sup_yes, clip, ↓pn]
theorem put3 (n : Int) (h0 : 32768 ≤ n) (h1 : n < 8388608) : Con E 40 33 [.int .i64 n] (.sl false [.int .u8 (n / 65536 % 256), .int .u8 (n / 256 % 256), .int .u8 (n % 256)] (some 3)) := by
  have h0' : 0 ≤ n := by omega
  have e3 : n / 16777216 % 256 = 0 := div0 h0' (by omega)
  have e4 : n / 4294967296 % 256 = 0 := div0 h0' (by omega)
  have e5 : n / 1099511627776 % 256 = 0 := div0 h0' (by omega)
  have e6 : n / 281474976710656 % 256 = 0 := div0 h0' (by omega)
  have e7 : n / 72057594037927936 % 256 = 0 := div0 h0' (by omega)
  refine .of (g := []) rfl ?_
  rw [aCall_fn rfl (E_fn33) rfl (Nat.le_of_ble_eq_true rfl) rfl rfl, body_33, c33]
  have t0 : n / 65536 % 256 < 128 := by omega
  have s0 : ∀ f r c, AV.pureL r = true → Con E 5 51 [.sl f (.int .u8 (n / 65536 % 256) :: .int .u8 (n / 256 % 256) :: r) c] (.bool false) := fun f r c hp => sup_no f _ _ r c hp (by omega) (by omega)
  simp [↓s_seq, ↓s_reg, ↓s_regd, ↓s_cond, ↓s_block, ↓s_cons, ↓s_consG, s_nil, s_loop, s_round, s_lpn, s_lpe, s_lpr, firstReg, s_gt, s_gf, s_wb, s_wu, s_val, s_valN, s_skip, s_calls, s_callP, s_cax, lookR, flatR, pureKs, s_ret, s_rgx, s_sqn, s_sqr, s_sqe, s_cdb, s_bkn, s_bkr, s_bke, s_exit, s_ret', s_skip', s_finr, s_finn, s_fin1, s_fix, s_clean, s_gc0, o_tmp, o_int, o_bool, o_nil, o_str, o_fn, o_nil', l_hit, l_miss, l_nil, ol_nil, ol_cons, ol_some, x_move, x_assign, x_pick, pk_t, pk_f, x_bin, bn_s, x_un, x_extract, x_callF, cl_no, x_callB, x_conv, cvx, convA, frame0, binA, intOp, resL, resA, results1, sealA, sealLW, AV.pure, AV.pureL, keepT, x_alloc, x_box, bxx, x_build, bdx, x_buildSlice, bsx, x_buildSliceF, bsf, x_load, ldx, x_store, stx, x_slice, slx, x_fieldAddr, x_field, x_index, ixx, x_indexAddr, iax, x_makeSlice, msx, x_nilCheck, newK, genOf, setK, lookK, fillA, writeL, writeC, readC, conts, TyI.mk1, sliceA, boundsA, boundsB, fitsA, numA, indexAddrA, fieldAddrA, partA, fieldA, indexA, appendA, copyA, builtinA, AV.cells, AV.scal, chunk, gcH, reach, keysT, keepK, inKs, AV.keys, AV.keysL, Ty.isAgg, eq1, eqL, convA.go, ltI, w_u8, w_u32, w_u64, w_i64, w_fdiv, w_tdiv, w_tmod, IntKind.bits, unA, e3, e4, e5, e6, e7, t0, s0, sup_yes, clip, ↓pn]
theorem put4 (n : Int) (h0 : 8388608 ≤ n) (h1 : n < 2147483648) : Con E 40 33 [.int .i64 n] (.sl false [.int .u8 (n / 16777216 % 256), .int .u8 (n / 65536 % 256), .int .u8 (n / 256 % 256), .int .u8 (n % 256)] (some 4)) := by
  have h0' : 0 ≤ n := by omega
  have e4 : n / 4294967296 % 256 = 0 := div0 h0' (by omega)
  have e5 : n / 1099511627776 % 256 = 0 := div0 h0' (by omega)
  have e6 : n / 281474976710656 % 256 = 0 := div0 h0' (by omega)
  have e7 : n / 72057594037927936 % 256 = 0 := div0 h0' (by omega)
  refine .of (g := []) rfl ?_
  rw [aCall_fn rfl (E_fn33) rfl (Nat.le_of_ble_eq_true rfl) rfl rfl, body_33, c33]
  have t0 : n / 16777216 % 256 < 128 := by omega
  have s0 : ∀ f r c, AV.pureL r = true → Con E 5 51 [.sl f (.int .u8 (n / 16777216 % 256) :: .int .u8 (n / 65536 % 256) :: r) c] (.bool false) := fun f r c hp => sup_no f _ _ r c hp (by omega) (by omega)
  simp [↓s_seq, ↓s_reg, ↓s_regd, ↓s_cond, ↓s_block, ↓s_cons, ↓s_consG, s_nil, s_loop, s_round, s_lpn, s_lpe, s_lpr, firstReg, s_gt, s_gf, s_wb, s_wu, s_val, s_valN, s_skip, s_calls, s_callP, s_cax, lookR, flatR, pureKs, s_ret, s_rgx, s_sqn, s_sqr, s_sqe, s_cdb, s_bkn, s_bkr, s_bke, s_exit, s_ret', s_skip', s_finr, s_finn, s_fin1, s_fix, s_clean, s_gc0, o_tmp, o_int, o_bool, o_nil, o_str, o_fn, o_nil', l_hit, l_miss, l_nil, ol_nil, ol_cons, ol_some, x_move, x_assign, x_pick, pk_t, pk_f, x_bin, bn_s, x_un, x_extract, x_callF, cl_no, x_callB, x_conv, cvx, convA, frame0, binA, intOp, resL, resA, results1, sealA, sealLW, AV.pure, AV.pureL, keepT, x_alloc, x_box, bxx, x_build, bdx, x_buildSlice, bsx, x_buildSliceF, bsf, x_load, ldx, x_store, stx, x_slice, slx, x_fieldAddr, x_field, x_index, ixx, x_indexAddr, iax, x_makeSlice, msx, x_nilCheck, newK, genOf, setK, lookK, fillA, writeL, writeC, readC, conts, TyI.mk1, sliceA, boundsA, boundsB, fitsA, numA, indexAddrA, fieldAddrA, partA, fieldA, indexA, appendA, copyA, builtinA, AV.cells, AV.scal, chunk, gcH, reach, keysT, keepK, inKs, AV.keys, AV.keysL, Ty.isAgg, eq1, eqL, convA.go, ltI, w_u8, w_u32, w_u64, w_i64, w_fdiv, w_tdiv, w_tmod, IntKind.bits, unA, e4, e5, e6, e7, t0, s0, sup_yes, clip, ↓pn]
end R1
