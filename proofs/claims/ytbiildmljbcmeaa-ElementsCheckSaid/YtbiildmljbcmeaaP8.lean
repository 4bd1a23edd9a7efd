/- What the two readers of lengths answer, at the evaluator. No conditions. -/
import Derived.Test.YtbiildmljbcmeaaP7
import Derived.Test.YtbiildmljbcmeaaB32
open Ab Go TabE P1 P2 P2 P5 P7
set_option maxRecDepth 20000
set_option linter.unusedSimpArgs false
set_option linter.unusedVariables false
set_option maxHeartbeats 2000000
namespace P8
theorem get_E1 (f : Bool) (c : Option Nat) (y : Int) (r : List Int) (y0 : 128 ≤ y) (y1 : y < 256) : Con E 10 96 [.sl f (bs (129 :: y :: r)) c] (.tup [.int .i64 y, .int .i64 2, .int .i64 0]) := by
  refine .of (g := []) (by simp [AV.pureL, AV.pure, bs_pure]) ?_
  rw [aCall_fn rfl (E_fn96) (by simp [AV.pureL, AV.pure, bs_pure]) (Nat.le_of_ble_eq_true rfl) rfl rfl, body_96, c96]
  have f0 : ¬ ((r.length : Int) + 1 + 1 = 0) := by omega
  have f1 : (0 : Int) < (r.length : Int) + 1 + 1 := by omega
  have f2 : ¬ ((r.length : Int) + 1 + 1 ≤ 1) := by omega
  have f3 : ¬ ((r.length : Int) + 1 + 1 < 2) := by omega
  have f4 : (1 : Int) < (r.length : Int) + 1 + 1 := by omega
  have f5 : ¬ y = 0 := by omega
  have f6 : ¬ y < 128 := by omega
  have f7 : ¬ y ≤ 127 := by omega
  have w1 : IntKind.i64.wrap (y) = y := w_i64 _ (by omega) (by omega)
  have m1 : min (r.length + 1) 1 = 1 := by omega
  have o2 : or64 0 y = y := by have h := (or_three 0 0 y (by omega) (by omega) (by omega) (by omega) (by omega) (by omega)).2; simpa using h
  have e1 : (y == 0) = false := by simp; omega
  simp [↓s_seq, ↓s_reg, ↓s_regd, ↓s_cond, ↓s_block, ↓s_cons, ↓s_consG, s_nil, s_loop, s_round, s_lpn, s_lpe, s_lpr, firstReg, s_gt, s_gf, s_wb, s_wu, s_val, s_valN, s_skip, s_calls, s_callP, s_cax, lookR, flatR, pureKs, s_ret, s_rgx, s_sqn, s_sqr, s_sqe, s_cdb, s_bkn, s_bkr, s_bke, s_exit, s_ret', s_skip', s_finr, s_finn, s_fin1, s_fix, s_clean, s_gc0, o_tmp, o_int, o_bool, o_nil, o_str, o_fn, o_nil', l_hit, l_miss, l_nil, ol_nil, ol_cons, ol_some, x_move, x_assign, x_pick, pk_t, pk_f, x_bin, bn_s, x_un, x_extract, x_callF, cl_no, x_callB, x_callBF, frzV, x_conv, cvx, convA, frame0, binA, intOp, resL, resA, results1, sealA, sealLW, AV.pure, AV.pureL, keepT, x_alloc, x_box, bxx, x_build, bdx, x_buildSlice, bsx, x_buildSliceF, bsf, x_load, ldx, x_store, stx, x_slice, slx, x_fieldAddr, x_field, x_index, ixx, x_indexAddr, iax, x_makeSlice, msx, x_nilCheck, newK, genOf, setK, lookK, fillA, writeL, writeC, readC, conts, TyI.mk1, sliceA, boundsA, boundsB, fitsA, numA, indexAddrA, fieldAddrA, partA, fieldA, indexA, appendA, copyA, builtinA, AV.cells, AV.scal, chunk, gcH, reach, keysT, keepK, inKs, AV.keys, AV.keysL, Ty.isAgg, eq1, eqL, convA.go, ltI, w_u8, w_u32, w_u64, w_i64, w_fdiv, w_tdiv, w_tmod, IntKind.bits, unA, ↓i_or, or64_zero, bs_nil, bs_cons, bs_length, bs_pure, bs_cells, bs_all, f0, f1, f2, f3, f4, f5, f6, f7, w1, m1, o2, e1]

theorem rget_E1 (f : Bool) (c : Option Nat) (y : Int) (r : List Int) (y0 : 128 ≤ y) (y1 : y < 256) : Con E 20 89 [.sl f (bs (129 :: y :: r)) c] (.tup [.int .i64 y, .int .i64 2, .int .i64 0]) := by
  refine .of (g := []) (by simp [AV.pureL, AV.pure, bs_pure]) ?_
  rw [aCall_fn rfl (E_fn89) (by simp [AV.pureL, AV.pure, bs_pure]) (Nat.le_of_ble_eq_true rfl) rfl rfl, body_89, c89]
  have f0 : ¬ ((r.length : Int) + 1 + 1 = 0) := by omega
  have f1 : (0 : Int) < (r.length : Int) + 1 + 1 := by omega
  have f2 : ¬ ((r.length : Int) + 1 + 1 ≤ 1) := by omega
  have f3 : ¬ ((r.length : Int) + 1 + 1 < 2) := by omega
  have f4 : (1 : Int) < (r.length : Int) + 1 + 1 := by omega
  have f5 : ¬ y = 0 := by omega
  have f6 : ¬ y < 128 := by omega
  have f7 : ¬ y ≤ 127 := by omega
  have w1 : IntKind.i64.wrap (y) = y := w_i64 _ (by omega) (by omega)
  have m1 : min (r.length + 1) 1 = 1 := by omega
  have o2 : or64 0 y = y := by have h := (or_three 0 0 y (by omega) (by omega) (by omega) (by omega) (by omega) (by omega)).2; simpa using h
  have e1 : (y == 0) = false := by simp; omega
  simp [↓s_seq, ↓s_reg, ↓s_regd, ↓s_cond, ↓s_block, ↓s_cons, ↓s_consG, s_nil, s_loop, s_round, s_lpn, s_lpe, s_lpr, firstReg, s_gt, s_gf, s_wb, s_wu, s_val, s_valN, s_skip, s_calls, s_callP, s_cax, lookR, flatR, pureKs, s_ret, s_rgx, s_sqn, s_sqr, s_sqe, s_cdb, s_bkn, s_bkr, s_bke, s_exit, s_ret', s_skip', s_finr, s_finn, s_fin1, s_fix, s_clean, s_gc0, o_tmp, o_int, o_bool, o_nil, o_str, o_fn, o_nil', l_hit, l_miss, l_nil, ol_nil, ol_cons, ol_some, x_move, x_assign, x_pick, pk_t, pk_f, x_bin, bn_s, x_un, x_extract, x_callF, cl_no, x_callB, x_callBF, frzV, x_conv, cvx, convA, frame0, binA, intOp, resL, resA, results1, sealA, sealLW, AV.pure, AV.pureL, keepT, x_alloc, x_box, bxx, x_build, bdx, x_buildSlice, bsx, x_buildSliceF, bsf, x_load, ldx, x_store, stx, x_slice, slx, x_fieldAddr, x_field, x_index, ixx, x_indexAddr, iax, x_makeSlice, msx, x_nilCheck, newK, genOf, setK, lookK, fillA, writeL, writeC, readC, conts, TyI.mk1, sliceA, boundsA, boundsB, fitsA, numA, indexAddrA, fieldAddrA, partA, fieldA, indexA, appendA, copyA, builtinA, AV.cells, AV.scal, chunk, gcH, reach, keysT, keepK, inKs, AV.keys, AV.keysL, Ty.isAgg, eq1, eqL, convA.go, ltI, w_u8, w_u32, w_u64, w_i64, w_fdiv, w_tdiv, w_tmod, IntKind.bits, unA, ↓i_or, or64_zero, bs_nil, bs_cons, bs_length, bs_pure, bs_cells, bs_all, f0, f1, f2, f3, f4, f5, f6, f7, w1, e1]

theorem get_F1 (f : Bool) (c : Option Nat) (y : Int) (r : List Int) (y0 : 0 < y) (y1 : y ≤ 127) : Con E 10 96 [.sl f (bs (129 :: y :: r)) c] (.tup [.int .i64 0, .int .i64 0, .int .i64 10]) := by
  refine .of (g := []) (by simp [AV.pureL, AV.pure, bs_pure]) ?_
  rw [aCall_fn rfl (E_fn96) (by simp [AV.pureL, AV.pure, bs_pure]) (Nat.le_of_ble_eq_true rfl) rfl rfl, body_96, c96]
  have f0 : ¬ ((r.length : Int) + 1 + 1 = 0) := by omega
  have f1 : (0 : Int) < (r.length : Int) + 1 + 1 := by omega
  have f2 : ¬ ((r.length : Int) + 1 + 1 ≤ 1) := by omega
  have f3 : ¬ ((r.length : Int) + 1 + 1 < 2) := by omega
  have f4 : (1 : Int) < (r.length : Int) + 1 + 1 := by omega
  have f5 : ¬ y = 0 := by omega
  have f6 : y < 128 := by omega
  have f7 : y ≤ 127 := by omega
  have w1 : IntKind.i64.wrap (y) = y := w_i64 _ (by omega) (by omega)
  have m1 : min (r.length + 1) 1 = 1 := by omega
  have o2 : or64 0 y = y := by have h := (or_three 0 0 y (by omega) (by omega) (by omega) (by omega) (by omega) (by omega)).2; simpa using h
  have e1 : (y == 0) = false := by simp; omega
  simp [↓s_seq, ↓s_reg, ↓s_regd, ↓s_cond, ↓s_block, ↓s_cons, ↓s_consG, s_nil, s_loop, s_round, s_lpn, s_lpe, s_lpr, firstReg, s_gt, s_gf, s_wb, s_wu, s_val, s_valN, s_skip, s_calls, s_callP, s_cax, lookR, flatR, pureKs, s_ret, s_rgx, s_sqn, s_sqr, s_sqe, s_cdb, s_bkn, s_bkr, s_bke, s_exit, s_ret', s_skip', s_finr, s_finn, s_fin1, s_fix, s_clean, s_gc0, o_tmp, o_int, o_bool, o_nil, o_str, o_fn, o_nil', l_hit, l_miss, l_nil, ol_nil, ol_cons, ol_some, x_move, x_assign, x_pick, pk_t, pk_f, x_bin, bn_s, x_un, x_extract, x_callF, cl_no, x_callB, x_callBF, frzV, x_conv, cvx, convA, frame0, binA, intOp, resL, resA, results1, sealA, sealLW, AV.pure, AV.pureL, keepT, x_alloc, x_box, bxx, x_build, bdx, x_buildSlice, bsx, x_buildSliceF, bsf, x_load, ldx, x_store, stx, x_slice, slx, x_fieldAddr, x_field, x_index, ixx, x_indexAddr, iax, x_makeSlice, msx, x_nilCheck, newK, genOf, setK, lookK, fillA, writeL, writeC, readC, conts, TyI.mk1, sliceA, boundsA, boundsB, fitsA, numA, indexAddrA, fieldAddrA, partA, fieldA, indexA, appendA, copyA, builtinA, AV.cells, AV.scal, chunk, gcH, reach, keysT, keepK, inKs, AV.keys, AV.keysL, Ty.isAgg, eq1, eqL, convA.go, ltI, w_u8, w_u32, w_u64, w_i64, w_fdiv, w_tdiv, w_tmod, IntKind.bits, unA, ↓i_or, or64_zero, bs_nil, bs_cons, bs_length, bs_pure, bs_cells, bs_all, f0, f1, f2, f3, f4, f5, f6, f7, w1, m1, o2, e1]

theorem rget_F1 (f : Bool) (c : Option Nat) (y : Int) (r : List Int) (y0 : 0 < y) (y1 : y ≤ 127) : Con E 20 89 [.sl f (bs (129 :: y :: r)) c] (.tup [.int .i64 0, .int .i64 0, .int .i64 10]) := by
  refine .of (g := []) (by simp [AV.pureL, AV.pure, bs_pure]) ?_
  rw [aCall_fn rfl (E_fn89) (by simp [AV.pureL, AV.pure, bs_pure]) (Nat.le_of_ble_eq_true rfl) rfl rfl, body_89, c89]
  have f0 : ¬ ((r.length : Int) + 1 + 1 = 0) := by omega
  have f1 : (0 : Int) < (r.length : Int) + 1 + 1 := by omega
  have f2 : ¬ ((r.length : Int) + 1 + 1 ≤ 1) := by omega
  have f3 : ¬ ((r.length : Int) + 1 + 1 < 2) := by omega
  have f4 : (1 : Int) < (r.length : Int) + 1 + 1 := by omega
  have f5 : ¬ y = 0 := by omega
  have f6 : y < 128 := by omega
  have f7 : y ≤ 127 := by omega
  have w1 : IntKind.i64.wrap (y) = y := w_i64 _ (by omega) (by omega)
  have m1 : min (r.length + 1) 1 = 1 := by omega
  have o2 : or64 0 y = y := by have h := (or_three 0 0 y (by omega) (by omega) (by omega) (by omega) (by omega) (by omega)).2; simpa using h
  have e1 : (y == 0) = false := by simp; omega
  simp [↓s_seq, ↓s_reg, ↓s_regd, ↓s_cond, ↓s_block, ↓s_cons, ↓s_consG, s_nil, s_loop, s_round, s_lpn, s_lpe, s_lpr, firstReg, s_gt, s_gf, s_wb, s_wu, s_val, s_valN, s_skip, s_calls, s_callP, s_cax, lookR, flatR, pureKs, s_ret, s_rgx, s_sqn, s_sqr, s_sqe, s_cdb, s_bkn, s_bkr, s_bke, s_exit, s_ret', s_skip', s_finr, s_finn, s_fin1, s_fix, s_clean, s_gc0, o_tmp, o_int, o_bool, o_nil, o_str, o_fn, o_nil', l_hit, l_miss, l_nil, ol_nil, ol_cons, ol_some, x_move, x_assign, x_pick, pk_t, pk_f, x_bin, bn_s, x_un, x_extract, x_callF, cl_no, x_callB, x_callBF, frzV, x_conv, cvx, convA, frame0, binA, intOp, resL, resA, results1, sealA, sealLW, AV.pure, AV.pureL, keepT, x_alloc, x_box, bxx, x_build, bdx, x_buildSlice, bsx, x_buildSliceF, bsf, x_load, ldx, x_store, stx, x_slice, slx, x_fieldAddr, x_field, x_index, ixx, x_indexAddr, iax, x_makeSlice, msx, x_nilCheck, newK, genOf, setK, lookK, fillA, writeL, writeC, readC, conts, TyI.mk1, sliceA, boundsA, boundsB, fitsA, numA, indexAddrA, fieldAddrA, partA, fieldA, indexA, appendA, copyA, builtinA, AV.cells, AV.scal, chunk, gcH, reach, keysT, keepK, inKs, AV.keys, AV.keysL, Ty.isAgg, eq1, eqL, convA.go, ltI, w_u8, w_u32, w_u64, w_i64, w_fdiv, w_tdiv, w_tmod, IntKind.bits, unA, ↓i_or, or64_zero, bs_nil, bs_cons, bs_length, bs_pure, bs_cells, bs_all, f0, f1, f2, f3, f4, f5, f6, f7, w1, e1]

theorem get_Z1 (f : Bool) (c : Option Nat) (r : List Int) : Con E 10 96 [.sl f (bs (129 :: 0 :: r)) c] (.tup [.int .i64 0, .int .i64 0, .int .i64 10]) := by
  refine .of (g := []) (by simp [AV.pureL, AV.pure, bs_pure]) ?_
  rw [aCall_fn rfl (E_fn96) (by simp [AV.pureL, AV.pure, bs_pure]) (Nat.le_of_ble_eq_true rfl) rfl rfl, body_96, c96]
  have f0 : ¬ ((r.length : Int) + 1 + 1 = 0) := by omega
  have f1 : (0 : Int) < (r.length : Int) + 1 + 1 := by omega
  have f2 : ¬ ((r.length : Int) + 1 + 1 ≤ 1) := by omega
  have f3 : ¬ ((r.length : Int) + 1 + 1 < 2) := by omega
  have f4 : (1 : Int) < (r.length : Int) + 1 + 1 := by omega
  have m1 : min (r.length + 1) 1 = 1 := by omega
  simp [↓s_seq, ↓s_reg, ↓s_regd, ↓s_cond, ↓s_block, ↓s_cons, ↓s_consG, s_nil, s_loop, s_round, s_lpn, s_lpe, s_lpr, firstReg, s_gt, s_gf, s_wb, s_wu, s_val, s_valN, s_skip, s_calls, s_callP, s_cax, lookR, flatR, pureKs, s_ret, s_rgx, s_sqn, s_sqr, s_sqe, s_cdb, s_bkn, s_bkr, s_bke, s_exit, s_ret', s_skip', s_finr, s_finn, s_fin1, s_fix, s_clean, s_gc0, o_tmp, o_int, o_bool, o_nil, o_str, o_fn, o_nil', l_hit, l_miss, l_nil, ol_nil, ol_cons, ol_some, x_move, x_assign, x_pick, pk_t, pk_f, x_bin, bn_s, x_un, x_extract, x_callF, cl_no, x_callB, x_callBF, frzV, x_conv, cvx, convA, frame0, binA, intOp, resL, resA, results1, sealA, sealLW, AV.pure, AV.pureL, keepT, x_alloc, x_box, bxx, x_build, bdx, x_buildSlice, bsx, x_buildSliceF, bsf, x_load, ldx, x_store, stx, x_slice, slx, x_fieldAddr, x_field, x_index, ixx, x_indexAddr, iax, x_makeSlice, msx, x_nilCheck, newK, genOf, setK, lookK, fillA, writeL, writeC, readC, conts, TyI.mk1, sliceA, boundsA, boundsB, fitsA, numA, indexAddrA, fieldAddrA, partA, fieldA, indexA, appendA, copyA, builtinA, AV.cells, AV.scal, chunk, gcH, reach, keysT, keepK, inKs, AV.keys, AV.keysL, Ty.isAgg, eq1, eqL, convA.go, ltI, w_u8, w_u32, w_u64, w_i64, w_fdiv, w_tdiv, w_tmod, IntKind.bits, unA, ↓i_or, or64_zero, bs_nil, bs_cons, bs_length, bs_pure, bs_cells, bs_all, f0, f1, f2, f3, f4, m1]

theorem rget_Z1 (f : Bool) (c : Option Nat) (r : List Int) : Con E 20 89 [.sl f (bs (129 :: 0 :: r)) c] (.tup [.int .i64 0, .int .i64 0, .int .i64 10]) := by
  refine .of (g := []) (by simp [AV.pureL, AV.pure, bs_pure]) ?_
  rw [aCall_fn rfl (E_fn89) (by simp [AV.pureL, AV.pure, bs_pure]) (Nat.le_of_ble_eq_true rfl) rfl rfl, body_89, c89]
  have f0 : ¬ ((r.length : Int) + 1 + 1 = 0) := by omega
  have f1 : (0 : Int) < (r.length : Int) + 1 + 1 := by omega
  have f2 : ¬ ((r.length : Int) + 1 + 1 ≤ 1) := by omega
  have f3 : ¬ ((r.length : Int) + 1 + 1 < 2) := by omega
  have f4 : (1 : Int) < (r.length : Int) + 1 + 1 := by omega
  have m1 : min (r.length + 1) 1 = 1 := by omega
  simp [↓s_seq, ↓s_reg, ↓s_regd, ↓s_cond, ↓s_block, ↓s_cons, ↓s_consG, s_nil, s_loop, s_round, s_lpn, s_lpe, s_lpr, firstReg, s_gt, s_gf, s_wb, s_wu, s_val, s_valN, s_skip, s_calls, s_callP, s_cax, lookR, flatR, pureKs, s_ret, s_rgx, s_sqn, s_sqr, s_sqe, s_cdb, s_bkn, s_bkr, s_bke, s_exit, s_ret', s_skip', s_finr, s_finn, s_fin1, s_fix, s_clean, s_gc0, o_tmp, o_int, o_bool, o_nil, o_str, o_fn, o_nil', l_hit, l_miss, l_nil, ol_nil, ol_cons, ol_some, x_move, x_assign, x_pick, pk_t, pk_f, x_bin, bn_s, x_un, x_extract, x_callF, cl_no, x_callB, x_callBF, frzV, x_conv, cvx, convA, frame0, binA, intOp, resL, resA, results1, sealA, sealLW, AV.pure, AV.pureL, keepT, x_alloc, x_box, bxx, x_build, bdx, x_buildSlice, bsx, x_buildSliceF, bsf, x_load, ldx, x_store, stx, x_slice, slx, x_fieldAddr, x_field, x_index, ixx, x_indexAddr, iax, x_makeSlice, msx, x_nilCheck, newK, genOf, setK, lookK, fillA, writeL, writeC, readC, conts, TyI.mk1, sliceA, boundsA, boundsB, fitsA, numA, indexAddrA, fieldAddrA, partA, fieldA, indexA, appendA, copyA, builtinA, AV.cells, AV.scal, chunk, gcH, reach, keysT, keepK, inKs, AV.keys, AV.keysL, Ty.isAgg, eq1, eqL, convA.go, ltI, w_u8, w_u32, w_u64, w_i64, w_fdiv, w_tdiv, w_tmod, IntKind.bits, unA, ↓i_or, or64_zero, bs_nil, bs_cons, bs_length, bs_pure, bs_cells, bs_all, f0, f1, f2, f3, f4]

theorem get_E2 (f : Bool) (c : Option Nat) (y z : Int) (r : List Int) (y0 : 0 < y) (y1 : y < 256) (z0 : 0 ≤ z) (z1 : z < 256) : Con E 10 96 [.sl f (bs (130 :: y :: z :: r)) c] (.tup [.int .i64 (256 * y + z), .int .i64 3, .int .i64 0]) := by
  refine .of (g := []) (by simp [AV.pureL, AV.pure, bs_pure]) ?_
  rw [aCall_fn rfl (E_fn96) (by simp [AV.pureL, AV.pure, bs_pure]) (Nat.le_of_ble_eq_true rfl) rfl rfl, body_96, c96]
  have f0 : ¬ ((r.length : Int) + 1 + 1 + 1 = 0) := by omega
  have f1 : (0 : Int) < (r.length : Int) + 1 + 1 + 1 := by omega
  have f2 : ¬ ((r.length : Int) + 1 + 1 + 1 ≤ 2) := by omega
  have f3 : ¬ ((r.length : Int) + 1 + 1 + 1 < 3) := by omega
  have f4 : (1 : Int) < (r.length : Int) + 1 + 1 + 1 := by omega
  have f5 : (2 : Int) < (r.length : Int) + 1 + 1 + 1 := by omega
  have f6 : ¬ y = 0 := by omega
  have f7 : ¬ 256 * y + z < 128 := by omega
  have f8 : ¬ 256 * y + z ≤ 127 := by omega
  have w1 : IntKind.i64.wrap (y) = y := w_i64 _ (by omega) (by omega)
  have w2 : IntKind.i64.wrap (z) = z := w_i64 _ (by omega) (by omega)
  have w3 : IntKind.i64.wrap (y * 256) = y * 256 := w_i64 _ (by omega) (by omega)
  have w4 : IntKind.i64.wrap (256 * y) = 256 * y := w_i64 _ (by omega) (by omega)
  have w5 : IntKind.i64.wrap (256 * y + z) = 256 * y + z := w_i64 _ (by omega) (by omega)
  have m2 : min (r.length + 1 + 1) 2 = 2 := by omega
  obtain ⟨p1, p2⟩ := or_three 0 y z (by omega) (by omega) (by omega) (by omega) (by omega) (by omega)
  have o1 : or64 0 (y * 256) = y * 256 := by simpa using p1
  have o2 : or64 (y * 256) z = 256 * y + z := by
    have e : (0 : Int) * 65536 + y * 256 = y * 256 := by omega
    rw [e] at p2
    omega
  have e1 : (y == 0) = false := by simp; omega
  simp [↓s_seq, ↓s_reg, ↓s_regd, ↓s_cond, ↓s_block, ↓s_cons, ↓s_consG, s_nil, s_loop, s_round, s_lpn, s_lpe, s_lpr, firstReg, s_gt, s_gf, s_wb, s_wu, s_val, s_valN, s_skip, s_calls, s_callP, s_cax, lookR, flatR, pureKs, s_ret, s_rgx, s_sqn, s_sqr, s_sqe, s_cdb, s_bkn, s_bkr, s_bke, s_exit, s_ret', s_skip', s_finr, s_finn, s_fin1, s_fix, s_clean, s_gc0, o_tmp, o_int, o_bool, o_nil, o_str, o_fn, o_nil', l_hit, l_miss, l_nil, ol_nil, ol_cons, ol_some, x_move, x_assign, x_pick, pk_t, pk_f, x_bin, bn_s, x_un, x_extract, x_callF, cl_no, x_callB, x_callBF, frzV, x_conv, cvx, convA, frame0, binA, intOp, resL, resA, results1, sealA, sealLW, AV.pure, AV.pureL, keepT, x_alloc, x_box, bxx, x_build, bdx, x_buildSlice, bsx, x_buildSliceF, bsf, x_load, ldx, x_store, stx, x_slice, slx, x_fieldAddr, x_field, x_index, ixx, x_indexAddr, iax, x_makeSlice, msx, x_nilCheck, newK, genOf, setK, lookK, fillA, writeL, writeC, readC, conts, TyI.mk1, sliceA, boundsA, boundsB, fitsA, numA, indexAddrA, fieldAddrA, partA, fieldA, indexA, appendA, copyA, builtinA, AV.cells, AV.scal, chunk, gcH, reach, keysT, keepK, inKs, AV.keys, AV.keysL, Ty.isAgg, eq1, eqL, convA.go, ltI, w_u8, w_u32, w_u64, w_i64, w_fdiv, w_tdiv, w_tmod, IntKind.bits, unA, ↓i_or, or64_zero, bs_nil, bs_cons, bs_length, bs_pure, bs_cells, bs_all, f0, f1, f2, f3, f4, f5, f6, f7, f8, w1, w2, w3, w4, w5, m2, o1, o2, e1]

theorem rget_E2 (f : Bool) (c : Option Nat) (y z : Int) (r : List Int) (y0 : 0 < y) (y1 : y < 256) (z0 : 0 ≤ z) (z1 : z < 256) : Con E 20 89 [.sl f (bs (130 :: y :: z :: r)) c] (.tup [.int .i64 (256 * y + z), .int .i64 3, .int .i64 0]) := by
  refine .of (g := []) (by simp [AV.pureL, AV.pure, bs_pure]) ?_
  rw [aCall_fn rfl (E_fn89) (by simp [AV.pureL, AV.pure, bs_pure]) (Nat.le_of_ble_eq_true rfl) rfl rfl, body_89, c89]
  have f0 : ¬ ((r.length : Int) + 1 + 1 + 1 = 0) := by omega
  have f1 : (0 : Int) < (r.length : Int) + 1 + 1 + 1 := by omega
  have f2 : ¬ ((r.length : Int) + 1 + 1 + 1 ≤ 2) := by omega
  have f3 : ¬ ((r.length : Int) + 1 + 1 + 1 < 3) := by omega
  have f4 : (1 : Int) < (r.length : Int) + 1 + 1 + 1 := by omega
  have f5 : (2 : Int) < (r.length : Int) + 1 + 1 + 1 := by omega
  have f6 : ¬ y = 0 := by omega
  have f7 : ¬ 256 * y + z < 128 := by omega
  have f8 : ¬ 256 * y + z ≤ 127 := by omega
  have w1 : IntKind.i64.wrap (y) = y := w_i64 _ (by omega) (by omega)
  have w2 : IntKind.i64.wrap (z) = z := w_i64 _ (by omega) (by omega)
  have w3 : IntKind.i64.wrap (y * 256) = y * 256 := w_i64 _ (by omega) (by omega)
  have w4 : IntKind.i64.wrap (256 * y) = 256 * y := w_i64 _ (by omega) (by omega)
  have w5 : IntKind.i64.wrap (256 * y + z) = 256 * y + z := w_i64 _ (by omega) (by omega)
  have m2 : min (r.length + 1 + 1) 2 = 2 := by omega
  obtain ⟨p1, p2⟩ := or_three 0 y z (by omega) (by omega) (by omega) (by omega) (by omega) (by omega)
  have o1 : or64 0 (y * 256) = y * 256 := by simpa using p1
  have o2 : or64 (y * 256) z = 256 * y + z := by
    have e : (0 : Int) * 65536 + y * 256 = y * 256 := by omega
    rw [e] at p2
    omega
  have e1 : (y == 0) = false := by simp; omega
  simp [↓s_seq, ↓s_reg, ↓s_regd, ↓s_cond, ↓s_block, ↓s_cons, ↓s_consG, s_nil, s_loop, s_round, s_lpn, s_lpe, s_lpr, firstReg, s_gt, s_gf, s_wb, s_wu, s_val, s_valN, s_skip, s_calls, s_callP, s_cax, lookR, flatR, pureKs, s_ret, s_rgx, s_sqn, s_sqr, s_sqe, s_cdb, s_bkn, s_bkr, s_bke, s_exit, s_ret', s_skip', s_finr, s_finn, s_fin1, s_fix, s_clean, s_gc0, o_tmp, o_int, o_bool, o_nil, o_str, o_fn, o_nil', l_hit, l_miss, l_nil, ol_nil, ol_cons, ol_some, x_move, x_assign, x_pick, pk_t, pk_f, x_bin, bn_s, x_un, x_extract, x_callF, cl_no, x_callB, x_callBF, frzV, x_conv, cvx, convA, frame0, binA, intOp, resL, resA, results1, sealA, sealLW, AV.pure, AV.pureL, keepT, x_alloc, x_box, bxx, x_build, bdx, x_buildSlice, bsx, x_buildSliceF, bsf, x_load, ldx, x_store, stx, x_slice, slx, x_fieldAddr, x_field, x_index, ixx, x_indexAddr, iax, x_makeSlice, msx, x_nilCheck, newK, genOf, setK, lookK, fillA, writeL, writeC, readC, conts, TyI.mk1, sliceA, boundsA, boundsB, fitsA, numA, indexAddrA, fieldAddrA, partA, fieldA, indexA, appendA, copyA, builtinA, AV.cells, AV.scal, chunk, gcH, reach, keysT, keepK, inKs, AV.keys, AV.keysL, Ty.isAgg, eq1, eqL, convA.go, ltI, w_u8, w_u32, w_u64, w_i64, w_fdiv, w_tdiv, w_tmod, IntKind.bits, unA, ↓i_or, or64_zero, bs_nil, bs_cons, bs_length, bs_pure, bs_cells, bs_all, f0, f1, f2, f3, f4, f5, f6, f7, f8, w1, w2, w4, w5, e1]

theorem get_Z2 (f : Bool) (c : Option Nat) (z : Int) (r : List Int) (z0 : 0 ≤ z) (z1 : z < 256) : Con E 10 96 [.sl f (bs (130 :: 0 :: z :: r)) c] (.tup [.int .i64 0, .int .i64 0, .int .i64 10]) := by
  refine .of (g := []) (by simp [AV.pureL, AV.pure, bs_pure]) ?_
  rw [aCall_fn rfl (E_fn96) (by simp [AV.pureL, AV.pure, bs_pure]) (Nat.le_of_ble_eq_true rfl) rfl rfl, body_96, c96]
  have f0 : ¬ ((r.length : Int) + 1 + 1 + 1 = 0) := by omega
  have f1 : (0 : Int) < (r.length : Int) + 1 + 1 + 1 := by omega
  have f2 : ¬ ((r.length : Int) + 1 + 1 + 1 ≤ 2) := by omega
  have f3 : ¬ ((r.length : Int) + 1 + 1 + 1 < 3) := by omega
  have f4 : (1 : Int) < (r.length : Int) + 1 + 1 + 1 := by omega
  have f5 : (2 : Int) < (r.length : Int) + 1 + 1 + 1 := by omega
  have w2 : IntKind.i64.wrap (z) = z := w_i64 _ (by omega) (by omega)
  have m2 : min (r.length + 1 + 1) 2 = 2 := by omega
  simp [↓s_seq, ↓s_reg, ↓s_regd, ↓s_cond, ↓s_block, ↓s_cons, ↓s_consG, s_nil, s_loop, s_round, s_lpn, s_lpe, s_lpr, firstReg, s_gt, s_gf, s_wb, s_wu, s_val, s_valN, s_skip, s_calls, s_callP, s_cax, lookR, flatR, pureKs, s_ret, s_rgx, s_sqn, s_sqr, s_sqe, s_cdb, s_bkn, s_bkr, s_bke, s_exit, s_ret', s_skip', s_finr, s_finn, s_fin1, s_fix, s_clean, s_gc0, o_tmp, o_int, o_bool, o_nil, o_str, o_fn, o_nil', l_hit, l_miss, l_nil, ol_nil, ol_cons, ol_some, x_move, x_assign, x_pick, pk_t, pk_f, x_bin, bn_s, x_un, x_extract, x_callF, cl_no, x_callB, x_callBF, frzV, x_conv, cvx, convA, frame0, binA, intOp, resL, resA, results1, sealA, sealLW, AV.pure, AV.pureL, keepT, x_alloc, x_box, bxx, x_build, bdx, x_buildSlice, bsx, x_buildSliceF, bsf, x_load, ldx, x_store, stx, x_slice, slx, x_fieldAddr, x_field, x_index, ixx, x_indexAddr, iax, x_makeSlice, msx, x_nilCheck, newK, genOf, setK, lookK, fillA, writeL, writeC, readC, conts, TyI.mk1, sliceA, boundsA, boundsB, fitsA, numA, indexAddrA, fieldAddrA, partA, fieldA, indexA, appendA, copyA, builtinA, AV.cells, AV.scal, chunk, gcH, reach, keysT, keepK, inKs, AV.keys, AV.keysL, Ty.isAgg, eq1, eqL, convA.go, ltI, w_u8, w_u32, w_u64, w_i64, w_fdiv, w_tdiv, w_tmod, IntKind.bits, unA, ↓i_or, or64_zero, bs_nil, bs_cons, bs_length, bs_pure, bs_cells, bs_all, f0, f1, f2, f3, f4, f5, w2, m2]

theorem rget_Z2 (f : Bool) (c : Option Nat) (z : Int) (r : List Int) (z0 : 0 ≤ z) (z1 : z < 256) : Con E 20 89 [.sl f (bs (130 :: 0 :: z :: r)) c] (.tup [.int .i64 0, .int .i64 0, .int .i64 10]) := by
  refine .of (g := []) (by simp [AV.pureL, AV.pure, bs_pure]) ?_
  rw [aCall_fn rfl (E_fn89) (by simp [AV.pureL, AV.pure, bs_pure]) (Nat.le_of_ble_eq_true rfl) rfl rfl, body_89, c89]
  have f0 : ¬ ((r.length : Int) + 1 + 1 + 1 = 0) := by omega
  have f1 : (0 : Int) < (r.length : Int) + 1 + 1 + 1 := by omega
  have f2 : ¬ ((r.length : Int) + 1 + 1 + 1 ≤ 2) := by omega
  have f3 : ¬ ((r.length : Int) + 1 + 1 + 1 < 3) := by omega
  have f4 : (1 : Int) < (r.length : Int) + 1 + 1 + 1 := by omega
  have f5 : (2 : Int) < (r.length : Int) + 1 + 1 + 1 := by omega
  have w2 : IntKind.i64.wrap (z) = z := w_i64 _ (by omega) (by omega)
  have m2 : min (r.length + 1 + 1) 2 = 2 := by omega
  simp [↓s_seq, ↓s_reg, ↓s_regd, ↓s_cond, ↓s_block, ↓s_cons, ↓s_consG, s_nil, s_loop, s_round, s_lpn, s_lpe, s_lpr, firstReg, s_gt, s_gf, s_wb, s_wu, s_val, s_valN, s_skip, s_calls, s_callP, s_cax, lookR, flatR, pureKs, s_ret, s_rgx, s_sqn, s_sqr, s_sqe, s_cdb, s_bkn, s_bkr, s_bke, s_exit, s_ret', s_skip', s_finr, s_finn, s_fin1, s_fix, s_clean, s_gc0, o_tmp, o_int, o_bool, o_nil, o_str, o_fn, o_nil', l_hit, l_miss, l_nil, ol_nil, ol_cons, ol_some, x_move, x_assign, x_pick, pk_t, pk_f, x_bin, bn_s, x_un, x_extract, x_callF, cl_no, x_callB, x_callBF, frzV, x_conv, cvx, convA, frame0, binA, intOp, resL, resA, results1, sealA, sealLW, AV.pure, AV.pureL, keepT, x_alloc, x_box, bxx, x_build, bdx, x_buildSlice, bsx, x_buildSliceF, bsf, x_load, ldx, x_store, stx, x_slice, slx, x_fieldAddr, x_field, x_index, ixx, x_indexAddr, iax, x_makeSlice, msx, x_nilCheck, newK, genOf, setK, lookK, fillA, writeL, writeC, readC, conts, TyI.mk1, sliceA, boundsA, boundsB, fitsA, numA, indexAddrA, fieldAddrA, partA, fieldA, indexA, appendA, copyA, builtinA, AV.cells, AV.scal, chunk, gcH, reach, keysT, keepK, inKs, AV.keys, AV.keysL, Ty.isAgg, eq1, eqL, convA.go, ltI, w_u8, w_u32, w_u64, w_i64, w_fdiv, w_tdiv, w_tmod, IntKind.bits, unA, ↓i_or, or64_zero, bs_nil, bs_cons, bs_length, bs_pure, bs_cells, bs_all, f0, f1, f2, f3, f4, f5, w2]
end P8
