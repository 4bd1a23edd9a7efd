/- Content octets as a skip, at the evaluator. No conditions. -/
import Derived.Test.YtbgmkcmailcciaaDoorR9
import Derived.Test.YtbgmkcmailcciaaDoorB32
open Ab Go TabC R1 R9
set_option maxRecDepth 20000
set_option linter.unusedSimpArgs false
set_option linter.unusedVariables false
set_option maxHeartbeats 8000000
namespace R10
theorem orC (n x : Int) (h0 : 0 ≤ n) (h1 : n < 8388608) (h2 : 0 ≤ x) (h3 : x < 256) : or64 (n * 256) x = n * 256 + x := by
  unfold or64
  rw [orB n x h0 h1 h2 h3]
  exact w64 _ (by omega) (by omega)
theorem number (v c n) (hp : AV.pureL v = true) (h0 : 0 ≤ n) (h1 : n ≤ 2147483647) (g : Con E 40 50 [.sl false v c] (.tup [.int .i64 n, .int .i64 0])) : Con E 60 41 [.sl false v c] (.tup [.int .i64 n, .int .i64 0]) := by
  refine .of (g := []) (by simp [AV.pureL, AV.pure, hp]) ?_
  rw [aCall_fn rfl (E_fn41) (by simp [AV.pureL, AV.pure, hp]) (Nat.le_of_ble_eq_true rfl) rfl rfl, body_41, c41]
  have e0 : ¬ n < 0 := by omega
  have e1 : ¬ 2147483647 < n := by omega
  simp [↓s_seq, ↓s_reg, ↓s_regd, ↓s_cond, ↓s_block, ↓s_cons, ↓s_consG, s_nil, s_loop, s_round, s_lpn, s_lpe, s_lpr, firstReg, s_gt, s_gf, s_wb, s_wu, s_val, s_valN, s_skip, s_calls, s_callP, s_cax, lookR, flatR, pureKs, s_ret, s_rgx, s_sqn, s_sqr, s_sqe, s_cdb, s_bkn, s_bkr, s_bke, s_exit, s_ret', s_skip', s_finr, s_finn, s_fin1, s_fix, s_clean, s_gc0, o_tmp, o_int, o_bool, o_nil, o_str, o_fn, o_nil', l_hit, l_miss, l_nil, ol_nil, ol_cons, ol_some, x_move, x_assign, x_pick, pk_t, pk_f, x_bin, bn_s, x_un, x_extract, x_callF, cl_no, x_callB, x_conv, cvx, convA, frame0, binA, intOp, resL, resA, results1, sealA, sealLW, AV.pure, AV.pureL, keepT, x_alloc, x_box, bxx, x_build, bdx, x_buildSlice, bsx, x_buildSliceF, bsf, x_load, ldx, x_store, stx, x_slice, slx, x_fieldAddr, x_field, x_index, ixx, x_indexAddr, iax, x_makeSlice, msx, x_nilCheck, newK, genOf, setK, lookK, fillA, writeL, writeC, readC, conts, TyI.mk1, sliceA, boundsA, boundsB, fitsA, numA, indexAddrA, fieldAddrA, partA, fieldA, indexA, appendA, copyA, builtinA, AV.cells, AV.scal, chunk, gcH, reach, keysT, keepK, inKs, AV.keys, AV.keysL, Ty.isAgg, eq1, eqL, convA.go, ltI, w_u8, w_u32, w_u64, w_i64, w_fdiv, w_tdiv, w_tmod, IntKind.bits, unA, hp, g, e0, e1]
theorem get1 (a : Int) (c) (h0 : 0 ≤ a) (h1 : a < 128) : Con E 40 50 [.sl false [.int .u8 a] c] (.tup [.int .i64 a, .int .i64 0]) := by
  refine .of (g := []) rfl ?_
  rw [aCall_fn rfl (E_fn50) rfl (Nat.le_of_ble_eq_true rfl) rfl rfl, body_50, c50]
  have e0 := w8 a h0 h1
  have e1 := w64 a h0 (by omega)
  simp [↓s_seq, ↓s_reg, ↓s_regd, ↓s_cond, ↓s_block, ↓s_cons, ↓s_consG, s_nil, s_loop, s_round, s_lpn, s_lpe, s_lpr, firstReg, s_gt, s_gf, s_wb, s_wu, s_val, s_valN, s_skip, s_calls, s_callP, s_cax, lookR, flatR, pureKs, s_ret, s_rgx, s_sqn, s_sqr, s_sqe, s_cdb, s_bkn, s_bkr, s_bke, s_exit, s_ret', s_skip', s_finr, s_finn, s_fin1, s_fix, s_clean, s_gc0, o_tmp, o_int, o_bool, o_nil, o_str, o_fn, o_nil', l_hit, l_miss, l_nil, ol_nil, ol_cons, ol_some, x_move, x_assign, x_pick, pk_t, pk_f, x_bin, bn_s, x_un, x_extract, x_callF, cl_no, x_callB, x_conv, cvx, convA, frame0, binA, intOp, resL, resA, results1, sealA, sealLW, AV.pure, AV.pureL, keepT, x_alloc, x_box, bxx, x_build, bdx, x_buildSlice, bsx, x_buildSliceF, bsf, x_load, ldx, x_store, stx, x_slice, slx, x_fieldAddr, x_field, x_index, ixx, x_indexAddr, iax, x_makeSlice, msx, x_nilCheck, newK, genOf, setK, lookK, fillA, writeL, writeC, readC, conts, TyI.mk1, sliceA, boundsA, boundsB, fitsA, numA, indexAddrA, fieldAddrA, partA, fieldA, indexA, appendA, copyA, builtinA, AV.cells, AV.scal, chunk, gcH, reach, keysT, keepK, inKs, AV.keys, AV.keysL, Ty.isAgg, eq1, eqL, convA.go, ltI, w_u8, w_u32, w_u64, w_i64, w_fdiv, w_tdiv, w_tmod, IntKind.bits, unA, ↓i_or, or64_zero, sup_one, e0, e1]
theorem get2 (a b : Int) (c) (h0 : 0 ≤ a) (h1 : a < 128) (h2 : 0 ≤ b) (h3 : b < 256) (h4 : a = 0 → 128 ≤ b) : Con E 40 50 [.sl false [.int .u8 a, .int .u8 b] c] (.tup [.int .i64 (a * 256 + b), .int .i64 0]) := by
  refine .of (g := []) rfl ?_
  rw [aCall_fn rfl (E_fn50) rfl (Nat.le_of_ble_eq_true rfl) rfl rfl, body_50, c50]
  have s := sup_no false a b [] c rfl (by omega) h4
  have e0 := w8 a h0 h1
  have e1 := w64 a h0 (by omega)
  have e2 := w64 (a * 256) (by omega) (by omega)
  have e3 := w64 b h2 (by omega)
  have e4 := orC a b h0 (by omega) h2 h3
  have e5 := w64 (a * 256 + b) (by omega) (by omega)
  simp [↓s_seq, ↓s_reg, ↓s_regd, ↓s_cond, ↓s_block, ↓s_cons, ↓s_consG, s_nil, s_loop, s_round, s_lpn, s_lpe, s_lpr, firstReg, s_gt, s_gf, s_wb, s_wu, s_val, s_valN, s_skip, s_calls, s_callP, s_cax, lookR, flatR, pureKs, s_ret, s_rgx, s_sqn, s_sqr, s_sqe, s_cdb, s_bkn, s_bkr, s_bke, s_exit, s_ret', s_skip', s_finr, s_finn, s_fin1, s_fix, s_clean, s_gc0, o_tmp, o_int, o_bool, o_nil, o_str, o_fn, o_nil', l_hit, l_miss, l_nil, ol_nil, ol_cons, ol_some, x_move, x_assign, x_pick, pk_t, pk_f, x_bin, bn_s, x_un, x_extract, x_callF, cl_no, x_callB, x_conv, cvx, convA, frame0, binA, intOp, resL, resA, results1, sealA, sealLW, AV.pure, AV.pureL, keepT, x_alloc, x_box, bxx, x_build, bdx, x_buildSlice, bsx, x_buildSliceF, bsf, x_load, ldx, x_store, stx, x_slice, slx, x_fieldAddr, x_field, x_index, ixx, x_indexAddr, iax, x_makeSlice, msx, x_nilCheck, newK, genOf, setK, lookK, fillA, writeL, writeC, readC, conts, TyI.mk1, sliceA, boundsA, boundsB, fitsA, numA, indexAddrA, fieldAddrA, partA, fieldA, indexA, appendA, copyA, builtinA, AV.cells, AV.scal, chunk, gcH, reach, keysT, keepK, inKs, AV.keys, AV.keysL, Ty.isAgg, eq1, eqL, convA.go, ltI, w_u8, w_u32, w_u64, w_i64, w_fdiv, w_tdiv, w_tmod, IntKind.bits, unA, ↓i_or, or64_zero, s, e0, e1, e2, e3, e4, e5]
theorem get3 (a b d : Int) (c) (h0 : 0 ≤ a) (h1 : a < 128) (h2 : 0 ≤ b) (h3 : b < 256) (h4 : a = 0 → 128 ≤ b) (g2 : 0 ≤ d) (g3 : d < 256) : Con E 40 50 [.sl false [.int .u8 a, .int .u8 b, .int .u8 d] c] (.tup [.int .i64 ((a * 256 + b) * 256 + d), .int .i64 0]) := by
  refine .of (g := []) rfl ?_
  rw [aCall_fn rfl (E_fn50) rfl (Nat.le_of_ble_eq_true rfl) rfl rfl, body_50, c50]
  have s := sup_no false a b [.int .u8 d] c rfl (by omega) h4
  have e0 := w8 a h0 h1
  have e1 := w64 a h0 (by omega)
  have e2 := w64 (a * 256) (by omega) (by omega)
  have e3 := w64 b h2 (by omega)
  have e4 := orC a b h0 (by omega) h2 h3
  have e5 := w64 (a * 256 + b) (by omega) (by omega)
  have f2 := w64 ((a * 256 + b) * 256) (by omega) (by omega)
  have f3 := w64 d g2 (by omega)
  have f4 := orC (a * 256 + b) d (by omega) (by omega) g2 g3
  have f5 := w64 ((a * 256 + b) * 256 + d) (by omega) (by omega)
  simp [↓s_seq, ↓s_reg, ↓s_regd, ↓s_cond, ↓s_block, ↓s_cons, ↓s_consG, s_nil, s_loop, s_round, s_lpn, s_lpe, s_lpr, firstReg, s_gt, s_gf, s_wb, s_wu, s_val, s_valN, s_skip, s_calls, s_callP, s_cax, lookR, flatR, pureKs, s_ret, s_rgx, s_sqn, s_sqr, s_sqe, s_cdb, s_bkn, s_bkr, s_bke, s_exit, s_ret', s_skip', s_finr, s_finn, s_fin1, s_fix, s_clean, s_gc0, o_tmp, o_int, o_bool, o_nil, o_str, o_fn, o_nil', l_hit, l_miss, l_nil, ol_nil, ol_cons, ol_some, x_move, x_assign, x_pick, pk_t, pk_f, x_bin, bn_s, x_un, x_extract, x_callF, cl_no, x_callB, x_conv, cvx, convA, frame0, binA, intOp, resL, resA, results1, sealA, sealLW, AV.pure, AV.pureL, keepT, x_alloc, x_box, bxx, x_build, bdx, x_buildSlice, bsx, x_buildSliceF, bsf, x_load, ldx, x_store, stx, x_slice, slx, x_fieldAddr, x_field, x_index, ixx, x_indexAddr, iax, x_makeSlice, msx, x_nilCheck, newK, genOf, setK, lookK, fillA, writeL, writeC, readC, conts, TyI.mk1, sliceA, boundsA, boundsB, fitsA, numA, indexAddrA, fieldAddrA, partA, fieldA, indexA, appendA, copyA, builtinA, AV.cells, AV.scal, chunk, gcH, reach, keysT, keepK, inKs, AV.keys, AV.keysL, Ty.isAgg, eq1, eqL, convA.go, ltI, w_u8, w_u32, w_u64, w_i64, w_fdiv, w_tdiv, w_tmod, IntKind.bits, unA, ↓i_or, or64_zero, s, e0, e1, e2, e3, e4, e5, f2, f3, f4, f5]
theorem get4 (a b d q : Int) (c) (h0 : 0 ≤ a) (h1 : a < 128) (h2 : 0 ≤ b) (h3 : b < 256) (h4 : a = 0 → 128 ≤ b) (g2 : 0 ≤ d) (g3 : d < 256) (k2 : 0 ≤ q) (k3 : q < 256) : Con E 40 50 [.sl false [.int .u8 a, .int .u8 b, .int .u8 d, .int .u8 q] c] (.tup [.int .i64 (((a * 256 + b) * 256 + d) * 256 + q), .int .i64 0]) := by
  refine .of (g := []) rfl ?_
  rw [aCall_fn rfl (E_fn50) rfl (Nat.le_of_ble_eq_true rfl) rfl rfl, body_50, c50]
  have s := sup_no false a b [.int .u8 d, .int .u8 q] c rfl (by omega) h4
  have e0 := w8 a h0 h1
  have e1 := w64 a h0 (by omega)
  have e2 := w64 (a * 256) (by omega) (by omega)
  have e3 := w64 b h2 (by omega)
  have e4 := orC a b h0 (by omega) h2 h3
  have e5 := w64 (a * 256 + b) (by omega) (by omega)
  have f2 := w64 ((a * 256 + b) * 256) (by omega) (by omega)
  have f3 := w64 d g2 (by omega)
  have f4 := orC (a * 256 + b) d (by omega) (by omega) g2 g3
  have f5 := w64 ((a * 256 + b) * 256 + d) (by omega) (by omega)
  have m2 := w64 (((a * 256 + b) * 256 + d) * 256) (by omega) (by omega)
  have m3 := w64 q k2 (by omega)
  have m4 := orC ((a * 256 + b) * 256 + d) q (by omega) (by omega) k2 k3
  have m5 := w64 (((a * 256 + b) * 256 + d) * 256 + q) (by omega) (by omega)
  simp [↓s_seq, ↓s_reg, ↓s_regd, ↓s_cond, ↓s_block, ↓s_cons, ↓s_consG, s_nil, s_loop, s_round, s_lpn, s_lpe, s_lpr, firstReg, s_gt, s_gf, s_wb, s_wu, s_val, s_valN, s_skip, s_calls, s_callP, s_cax, lookR, flatR, pureKs, s_ret, s_rgx, s_sqn, s_sqr, s_sqe, s_cdb, s_bkn, s_bkr, s_bke, s_exit, s_ret', s_skip', s_finr, s_finn, s_fin1, s_fix, s_clean, s_gc0, o_tmp, o_int, o_bool, o_nil, o_str, o_fn, o_nil', l_hit, l_miss, l_nil, ol_nil, ol_cons, ol_some, x_move, x_assign, x_pick, pk_t, pk_f, x_bin, bn_s, x_un, x_extract, x_callF, cl_no, x_callB, x_conv, cvx, convA, frame0, binA, intOp, resL, resA, results1, sealA, sealLW, AV.pure, AV.pureL, keepT, x_alloc, x_box, bxx, x_build, bdx, x_buildSlice, bsx, x_buildSliceF, bsf, x_load, ldx, x_store, stx, x_slice, slx, x_fieldAddr, x_field, x_index, ixx, x_indexAddr, iax, x_makeSlice, msx, x_nilCheck, newK, genOf, setK, lookK, fillA, writeL, writeC, readC, conts, TyI.mk1, sliceA, boundsA, boundsB, fitsA, numA, indexAddrA, fieldAddrA, partA, fieldA, indexA, appendA, copyA, builtinA, AV.cells, AV.scal, chunk, gcH, reach, keysT, keepK, inKs, AV.keys, AV.keysL, Ty.isAgg, eq1, eqL, convA.go, ltI, w_u8, w_u32, w_u64, w_i64, w_fdiv, w_tdiv, w_tmod, IntKind.bits, unA, ↓i_or, or64_zero, s, e0, e1, e2, e3, e4, e5, f2, f3, f4, f5, m2, m3, m4, m5]
end R10
