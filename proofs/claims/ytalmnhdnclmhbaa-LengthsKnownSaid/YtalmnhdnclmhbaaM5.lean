/- The law LengthsOrder at the evaluator. No conditions. -/
import Derived.Test.YtalmnhdnclmhbaaM3
open Ab Go TabB M1 M2 M3
set_option maxRecDepth 20000
set_option linter.unusedSimpArgs false
set_option linter.unusedVariables false
set_option maxHeartbeats 2000000
namespace M5
/-- How many octets a length has. -/
def sz (n : Int) : Int := if n < 0 then 0 else if n ≤ 127 then 1 else if n ≤ 255 then 2 else if n ≤ 65535 then 3 else if n ≤ 16777215 then 4 else 0
theorem size (n : Int) : Con E 20 15 [.int .i64 n] (.int .i64 (sz n)) := by
  unfold sz
  split
  · exact size_neg n ‹_›
  · split
    · exact size_1 n (by omega) ‹_›
    · split
      · exact size_2 n (by omega) ‹_›
      · split
        · exact size_3 n (by omega) ‹_›
        · split
          · exact size_4 n (by omega) ‹_›
          · exact size_big n (by omega)
theorem sz_pos (n : Int) (h0 : 0 ≤ n) (h : n < 16777216) : 1 ≤ sz n ∧ sz n ≤ 4 := by unfold sz; repeat' split <;> omega
theorem sz_mono (a b : Int) (h : a ≤ b) (h0 : 0 ≤ a) (hb : b < 16777216) : sz a ≤ sz b := by unfold sz; repeat' split <;> omega
theorem sz_neg (n : Int) (h : n < 0) : sz n = 0 := by unfold sz; simp [h]

theorem total_lo (tag n : Int) (h : tag < 1) : Con E 30 20 [.int .i64 tag, .int .i64 n] (.int .i64 0) := by
  refine .of (g := []) rfl ?_
  rw [aCall_fn rfl (E_fn20) rfl (Nat.le_of_ble_eq_true rfl) rfl rfl, body_20, c20]
  have f0 : tag < 1 := by omega
  simp [↓s_seq, ↓s_reg, ↓s_regd, ↓s_cond, ↓s_block, ↓s_cons, ↓s_consG, s_nil, s_loop, s_round, s_lpn, s_lpe, s_lpr, firstReg, s_gt, s_gf, s_wb, s_wu, s_val, s_valN, s_skip, s_calls, s_callP, s_cax, s_ret, s_rgx, s_sqn, s_sqr, s_sqe, s_cdb, s_bkn, s_bkr, s_bke, s_exit, s_ret', s_skip', s_finr, s_finn, s_fin1, s_fix, s_clean, s_gc0, o_tmp, o_int, o_bool, o_nil, o_str, o_fn, o_nil', l_hit, l_miss, l_nil, ol_nil, ol_cons, ol_some, x_move, x_assign, x_pick, pk_t, pk_f, x_bin, bn_s, x_un, x_extract, x_callF, cl_no, x_callB, x_conv, cvx, convA, frame0, binA, intOp, resL, resA, results1, sealA, sealLW, AV.pure, AV.pureL, keepT, x_alloc, x_box, bxx, x_build, bdx, x_buildSlice, bsx, x_load, ldx, x_store, stx, x_slice, slx, x_fieldAddr, x_field, x_index, ixx, x_indexAddr, iax, x_makeSlice, msx, x_nilCheck, newK, genOf, setK, lookK, fillA, writeL, writeC, readC, conts, TyI.mk1, sliceA, boundsA, boundsB, fitsA, numA, indexAddrA, fieldAddrA, partA, fieldA, indexA, appendA, copyA, builtinA, AV.cells, AV.scal, chunk, gcH, reach, keysT, keepK, inKs, AV.keys, AV.keysL, Ty.isAgg, eq1, eqL, convA.go, ltI, w_u8, w_u32, w_u64, w_i64, w_fdiv, w_tdiv, w_tmod, IntKind.bits, unA, f0]

theorem total_hi (tag n : Int) (h : 5 < tag) : Con E 30 20 [.int .i64 tag, .int .i64 n] (.int .i64 0) := by
  refine .of (g := []) rfl ?_
  rw [aCall_fn rfl (E_fn20) rfl (Nat.le_of_ble_eq_true rfl) rfl rfl, body_20, c20]
  have f0 : ¬ tag < 1 := by omega
  have f1 : 5 < tag := by omega
  simp [↓s_seq, ↓s_reg, ↓s_regd, ↓s_cond, ↓s_block, ↓s_cons, ↓s_consG, s_nil, s_loop, s_round, s_lpn, s_lpe, s_lpr, firstReg, s_gt, s_gf, s_wb, s_wu, s_val, s_valN, s_skip, s_calls, s_callP, s_cax, s_ret, s_rgx, s_sqn, s_sqr, s_sqe, s_cdb, s_bkn, s_bkr, s_bke, s_exit, s_ret', s_skip', s_finr, s_finn, s_fin1, s_fix, s_clean, s_gc0, o_tmp, o_int, o_bool, o_nil, o_str, o_fn, o_nil', l_hit, l_miss, l_nil, ol_nil, ol_cons, ol_some, x_move, x_assign, x_pick, pk_t, pk_f, x_bin, bn_s, x_un, x_extract, x_callF, cl_no, x_callB, x_conv, cvx, convA, frame0, binA, intOp, resL, resA, results1, sealA, sealLW, AV.pure, AV.pureL, keepT, x_alloc, x_box, bxx, x_build, bdx, x_buildSlice, bsx, x_load, ldx, x_store, stx, x_slice, slx, x_fieldAddr, x_field, x_index, ixx, x_indexAddr, iax, x_makeSlice, msx, x_nilCheck, newK, genOf, setK, lookK, fillA, writeL, writeC, readC, conts, TyI.mk1, sliceA, boundsA, boundsB, fitsA, numA, indexAddrA, fieldAddrA, partA, fieldA, indexA, appendA, copyA, builtinA, AV.cells, AV.scal, chunk, gcH, reach, keysT, keepK, inKs, AV.keys, AV.keysL, Ty.isAgg, eq1, eqL, convA.go, ltI, w_u8, w_u32, w_u64, w_i64, w_fdiv, w_tdiv, w_tmod, IntKind.bits, unA, f0, f1]

theorem total_in (tag n s : Int) (h0 : 1 ≤ tag) (h1 : tag ≤ 5) (hc : Con E 20 15 [.int .i64 n] (.int .i64 s)) (hs : 1 ≤ s) (hs4 : s ≤ 4) (hn : 0 ≤ n) (hn1 : n < 16777216) : Con E 30 20 [.int .i64 tag, .int .i64 n] (.int .i64 (tag + s + n)) := by
  refine .of (g := []) rfl ?_
  rw [aCall_fn rfl (E_fn20) rfl (Nat.le_of_ble_eq_true rfl) rfl rfl, body_20, c20]
  have f0 : ¬ tag < 1 := by omega
  have f1 : ¬ 5 < tag := by omega
  have f2 : ¬ s = 0 := by omega
  have w1 : IntKind.i64.wrap (tag + s) = tag + s := w_i64 _ (by omega) (by omega)
  have w2 : IntKind.i64.wrap (tag + s + n) = tag + s + n := w_i64 _ (by omega) (by omega)
  simp [↓s_seq, ↓s_reg, ↓s_regd, ↓s_cond, ↓s_block, ↓s_cons, ↓s_consG, s_nil, s_loop, s_round, s_lpn, s_lpe, s_lpr, firstReg, s_gt, s_gf, s_wb, s_wu, s_val, s_valN, s_skip, s_calls, s_callP, s_cax, s_ret, s_rgx, s_sqn, s_sqr, s_sqe, s_cdb, s_bkn, s_bkr, s_bke, s_exit, s_ret', s_skip', s_finr, s_finn, s_fin1, s_fix, s_clean, s_gc0, o_tmp, o_int, o_bool, o_nil, o_str, o_fn, o_nil', l_hit, l_miss, l_nil, ol_nil, ol_cons, ol_some, x_move, x_assign, x_pick, pk_t, pk_f, x_bin, bn_s, x_un, x_extract, x_callF, cl_no, x_callB, x_conv, cvx, convA, frame0, binA, intOp, resL, resA, results1, sealA, sealLW, AV.pure, AV.pureL, keepT, x_alloc, x_box, bxx, x_build, bdx, x_buildSlice, bsx, x_load, ldx, x_store, stx, x_slice, slx, x_fieldAddr, x_field, x_index, ixx, x_indexAddr, iax, x_makeSlice, msx, x_nilCheck, newK, genOf, setK, lookK, fillA, writeL, writeC, readC, conts, TyI.mk1, sliceA, boundsA, boundsB, fitsA, numA, indexAddrA, fieldAddrA, partA, fieldA, indexA, appendA, copyA, builtinA, AV.cells, AV.scal, chunk, gcH, reach, keysT, keepK, inKs, AV.keys, AV.keysL, Ty.isAgg, eq1, eqL, convA.go, ltI, w_u8, w_u32, w_u64, w_i64, w_fdiv, w_tdiv, w_tmod, IntKind.bits, unA, f0, f1, f2, hc, w1, w2]

theorem total_no (tag n : Int) (h0 : 1 ≤ tag) (h1 : tag ≤ 5) (hc : Con E 20 15 [.int .i64 n] (.int .i64 0)) : Con E 30 20 [.int .i64 tag, .int .i64 n] (.int .i64 0) := by
  refine .of (g := []) rfl ?_
  rw [aCall_fn rfl (E_fn20) rfl (Nat.le_of_ble_eq_true rfl) rfl rfl, body_20, c20]
  have f0 : ¬ tag < 1 := by omega
  have f1 : ¬ 5 < tag := by omega
  simp [↓s_seq, ↓s_reg, ↓s_regd, ↓s_cond, ↓s_block, ↓s_cons, ↓s_consG, s_nil, s_loop, s_round, s_lpn, s_lpe, s_lpr, firstReg, s_gt, s_gf, s_wb, s_wu, s_val, s_valN, s_skip, s_calls, s_callP, s_cax, s_ret, s_rgx, s_sqn, s_sqr, s_sqe, s_cdb, s_bkn, s_bkr, s_bke, s_exit, s_ret', s_skip', s_finr, s_finn, s_fin1, s_fix, s_clean, s_gc0, o_tmp, o_int, o_bool, o_nil, o_str, o_fn, o_nil', l_hit, l_miss, l_nil, ol_nil, ol_cons, ol_some, x_move, x_assign, x_pick, pk_t, pk_f, x_bin, bn_s, x_un, x_extract, x_callF, cl_no, x_callB, x_conv, cvx, convA, frame0, binA, intOp, resL, resA, results1, sealA, sealLW, AV.pure, AV.pureL, keepT, x_alloc, x_box, bxx, x_build, bdx, x_buildSlice, bsx, x_load, ldx, x_store, stx, x_slice, slx, x_fieldAddr, x_field, x_index, ixx, x_indexAddr, iax, x_makeSlice, msx, x_nilCheck, newK, genOf, setK, lookK, fillA, writeL, writeC, readC, conts, TyI.mk1, sliceA, boundsA, boundsB, fitsA, numA, indexAddrA, fieldAddrA, partA, fieldA, indexA, appendA, copyA, builtinA, AV.cells, AV.scal, chunk, gcH, reach, keysT, keepK, inKs, AV.keys, AV.keysL, Ty.isAgg, eq1, eqL, convA.go, ltI, w_u8, w_u32, w_u64, w_i64, w_fdiv, w_tdiv, w_tmod, IntKind.bits, unA, f0, f1, hc]

theorem order_lo_le (x y tag a b : Int) (hx : x.tmod 16777216 = a) (hy : y.tmod 16777216 = b) (a0 : 0 ≤ a) (a1 : a < 16777216) (b0 : 0 ≤ b) (b1 : b < 16777216) (hab : a ≤ b) (ht : tag < 1) : Con E 60 6 [.int .u32 x, .int .u32 y, .int .i64 tag] (.bool true) := by
  refine .of (g := []) rfl ?_
  rw [aCall_fn rfl (E_fn6) rfl (Nat.le_of_ble_eq_true rfl) rfl rfl, body_6, c6]
  have f0 : ¬ b < a := by omega
  have f1 : tag < 1 := by omega
  have wa : IntKind.i64.wrap a = a := w_i64 _ (by omega) (by omega)
  have wb : IntKind.i64.wrap b = b := w_i64 _ (by omega) (by omega)
  have hq1 : IntKind.u32.wrap a = a := by rw [w_u32]; omega
  have hq2 : IntKind.u32.wrap b = b := by rw [w_u32]; omega
  simp [↓s_seq, ↓s_reg, ↓s_regd, ↓s_cond, ↓s_block, ↓s_cons, ↓s_consG, s_nil, s_loop, s_round, s_lpn, s_lpe, s_lpr, firstReg, s_gt, s_gf, s_wb, s_wu, s_val, s_valN, s_skip, s_calls, s_callP, s_cax, s_ret, s_rgx, s_sqn, s_sqr, s_sqe, s_cdb, s_bkn, s_bkr, s_bke, s_exit, s_ret', s_skip', s_finr, s_finn, s_fin1, s_fix, s_clean, s_gc0, o_tmp, o_int, o_bool, o_nil, o_str, o_fn, o_nil', l_hit, l_miss, l_nil, ol_nil, ol_cons, ol_some, x_move, x_assign, x_pick, pk_t, pk_f, x_bin, bn_s, x_un, x_extract, x_callF, cl_no, x_callB, x_conv, cvx, convA, frame0, binA, intOp, resL, resA, results1, sealA, sealLW, AV.pure, AV.pureL, keepT, x_alloc, x_box, bxx, x_build, bdx, x_buildSlice, bsx, x_load, ldx, x_store, stx, x_slice, slx, x_fieldAddr, x_field, x_index, ixx, x_indexAddr, iax, x_makeSlice, msx, x_nilCheck, newK, genOf, setK, lookK, fillA, writeL, writeC, readC, conts, TyI.mk1, sliceA, boundsA, boundsB, fitsA, numA, indexAddrA, fieldAddrA, partA, fieldA, indexA, appendA, copyA, builtinA, AV.cells, AV.scal, chunk, gcH, reach, keysT, keepK, inKs, AV.keys, AV.keysL, Ty.isAgg, eq1, eqL, convA.go, ltI, w_u8, w_u32, w_u64, w_i64, w_fdiv, w_tdiv, w_tmod, IntKind.bits, unA, f0, f1, hx, hy, wa, wb, hq1, hq2, total_lo tag _ ht, lives]

theorem order_hi_le (x y tag a b : Int) (hx : x.tmod 16777216 = a) (hy : y.tmod 16777216 = b) (a0 : 0 ≤ a) (a1 : a < 16777216) (b0 : 0 ≤ b) (b1 : b < 16777216) (hab : a ≤ b) (ht : 5 < tag) : Con E 60 6 [.int .u32 x, .int .u32 y, .int .i64 tag] (.bool true) := by
  refine .of (g := []) rfl ?_
  rw [aCall_fn rfl (E_fn6) rfl (Nat.le_of_ble_eq_true rfl) rfl rfl, body_6, c6]
  have f0 : ¬ b < a := by omega
  have f1 : ¬ tag < 1 := by omega
  have f2 : 5 < tag := by omega
  have wa : IntKind.i64.wrap a = a := w_i64 _ (by omega) (by omega)
  have wb : IntKind.i64.wrap b = b := w_i64 _ (by omega) (by omega)
  have hq1 : IntKind.u32.wrap a = a := by rw [w_u32]; omega
  have hq2 : IntKind.u32.wrap b = b := by rw [w_u32]; omega
  simp [↓s_seq, ↓s_reg, ↓s_regd, ↓s_cond, ↓s_block, ↓s_cons, ↓s_consG, s_nil, s_loop, s_round, s_lpn, s_lpe, s_lpr, firstReg, s_gt, s_gf, s_wb, s_wu, s_val, s_valN, s_skip, s_calls, s_callP, s_cax, s_ret, s_rgx, s_sqn, s_sqr, s_sqe, s_cdb, s_bkn, s_bkr, s_bke, s_exit, s_ret', s_skip', s_finr, s_finn, s_fin1, s_fix, s_clean, s_gc0, o_tmp, o_int, o_bool, o_nil, o_str, o_fn, o_nil', l_hit, l_miss, l_nil, ol_nil, ol_cons, ol_some, x_move, x_assign, x_pick, pk_t, pk_f, x_bin, bn_s, x_un, x_extract, x_callF, cl_no, x_callB, x_conv, cvx, convA, frame0, binA, intOp, resL, resA, results1, sealA, sealLW, AV.pure, AV.pureL, keepT, x_alloc, x_box, bxx, x_build, bdx, x_buildSlice, bsx, x_load, ldx, x_store, stx, x_slice, slx, x_fieldAddr, x_field, x_index, ixx, x_indexAddr, iax, x_makeSlice, msx, x_nilCheck, newK, genOf, setK, lookK, fillA, writeL, writeC, readC, conts, TyI.mk1, sliceA, boundsA, boundsB, fitsA, numA, indexAddrA, fieldAddrA, partA, fieldA, indexA, appendA, copyA, builtinA, AV.cells, AV.scal, chunk, gcH, reach, keysT, keepK, inKs, AV.keys, AV.keysL, Ty.isAgg, eq1, eqL, convA.go, ltI, w_u8, w_u32, w_u64, w_i64, w_fdiv, w_tdiv, w_tmod, IntKind.bits, unA, f0, f1, f2, hx, hy, wa, wb, hq1, hq2, total_hi tag _ ht, lives]

theorem order_lo_gt (x y tag a b : Int) (hx : x.tmod 16777216 = a) (hy : y.tmod 16777216 = b) (a0 : 0 ≤ a) (a1 : a < 16777216) (b0 : 0 ≤ b) (b1 : b < 16777216) (hab : b < a) (ht : tag < 1) : Con E 60 6 [.int .u32 x, .int .u32 y, .int .i64 tag] (.bool true) := by
  refine .of (g := []) rfl ?_
  rw [aCall_fn rfl (E_fn6) rfl (Nat.le_of_ble_eq_true rfl) rfl rfl, body_6, c6]
  have f0 : b < a := by omega
  have f1 : tag < 1 := by omega
  have wa : IntKind.i64.wrap a = a := w_i64 _ (by omega) (by omega)
  have wb : IntKind.i64.wrap b = b := w_i64 _ (by omega) (by omega)
  have hq1 : IntKind.u32.wrap a = a := by rw [w_u32]; omega
  have hq2 : IntKind.u32.wrap b = b := by rw [w_u32]; omega
  simp [↓s_seq, ↓s_reg, ↓s_regd, ↓s_cond, ↓s_block, ↓s_cons, ↓s_consG, s_nil, s_loop, s_round, s_lpn, s_lpe, s_lpr, firstReg, s_gt, s_gf, s_wb, s_wu, s_val, s_valN, s_skip, s_calls, s_callP, s_cax, s_ret, s_rgx, s_sqn, s_sqr, s_sqe, s_cdb, s_bkn, s_bkr, s_bke, s_exit, s_ret', s_skip', s_finr, s_finn, s_fin1, s_fix, s_clean, s_gc0, o_tmp, o_int, o_bool, o_nil, o_str, o_fn, o_nil', l_hit, l_miss, l_nil, ol_nil, ol_cons, ol_some, x_move, x_assign, x_pick, pk_t, pk_f, x_bin, bn_s, x_un, x_extract, x_callF, cl_no, x_callB, x_conv, cvx, convA, frame0, binA, intOp, resL, resA, results1, sealA, sealLW, AV.pure, AV.pureL, keepT, x_alloc, x_box, bxx, x_build, bdx, x_buildSlice, bsx, x_load, ldx, x_store, stx, x_slice, slx, x_fieldAddr, x_field, x_index, ixx, x_indexAddr, iax, x_makeSlice, msx, x_nilCheck, newK, genOf, setK, lookK, fillA, writeL, writeC, readC, conts, TyI.mk1, sliceA, boundsA, boundsB, fitsA, numA, indexAddrA, fieldAddrA, partA, fieldA, indexA, appendA, copyA, builtinA, AV.cells, AV.scal, chunk, gcH, reach, keysT, keepK, inKs, AV.keys, AV.keysL, Ty.isAgg, eq1, eqL, convA.go, ltI, w_u8, w_u32, w_u64, w_i64, w_fdiv, w_tdiv, w_tmod, IntKind.bits, unA, f0, f1, hx, hy, wa, wb, hq1, hq2, total_lo tag _ ht, lives]

theorem order_hi_gt (x y tag a b : Int) (hx : x.tmod 16777216 = a) (hy : y.tmod 16777216 = b) (a0 : 0 ≤ a) (a1 : a < 16777216) (b0 : 0 ≤ b) (b1 : b < 16777216) (hab : b < a) (ht : 5 < tag) : Con E 60 6 [.int .u32 x, .int .u32 y, .int .i64 tag] (.bool true) := by
  refine .of (g := []) rfl ?_
  rw [aCall_fn rfl (E_fn6) rfl (Nat.le_of_ble_eq_true rfl) rfl rfl, body_6, c6]
  have f0 : b < a := by omega
  have f1 : ¬ tag < 1 := by omega
  have f2 : 5 < tag := by omega
  have wa : IntKind.i64.wrap a = a := w_i64 _ (by omega) (by omega)
  have wb : IntKind.i64.wrap b = b := w_i64 _ (by omega) (by omega)
  have hq1 : IntKind.u32.wrap a = a := by rw [w_u32]; omega
  have hq2 : IntKind.u32.wrap b = b := by rw [w_u32]; omega
  simp [↓s_seq, ↓s_reg, ↓s_regd, ↓s_cond, ↓s_block, ↓s_cons, ↓s_consG, s_nil, s_loop, s_round, s_lpn, s_lpe, s_lpr, firstReg, s_gt, s_gf, s_wb, s_wu, s_val, s_valN, s_skip, s_calls, s_callP, s_cax, s_ret, s_rgx, s_sqn, s_sqr, s_sqe, s_cdb, s_bkn, s_bkr, s_bke, s_exit, s_ret', s_skip', s_finr, s_finn, s_fin1, s_fix, s_clean, s_gc0, o_tmp, o_int, o_bool, o_nil, o_str, o_fn, o_nil', l_hit, l_miss, l_nil, ol_nil, ol_cons, ol_some, x_move, x_assign, x_pick, pk_t, pk_f, x_bin, bn_s, x_un, x_extract, x_callF, cl_no, x_callB, x_conv, cvx, convA, frame0, binA, intOp, resL, resA, results1, sealA, sealLW, AV.pure, AV.pureL, keepT, x_alloc, x_box, bxx, x_build, bdx, x_buildSlice, bsx, x_load, ldx, x_store, stx, x_slice, slx, x_fieldAddr, x_field, x_index, ixx, x_indexAddr, iax, x_makeSlice, msx, x_nilCheck, newK, genOf, setK, lookK, fillA, writeL, writeC, readC, conts, TyI.mk1, sliceA, boundsA, boundsB, fitsA, numA, indexAddrA, fieldAddrA, partA, fieldA, indexA, appendA, copyA, builtinA, AV.cells, AV.scal, chunk, gcH, reach, keysT, keepK, inKs, AV.keys, AV.keysL, Ty.isAgg, eq1, eqL, convA.go, ltI, w_u8, w_u32, w_u64, w_i64, w_fdiv, w_tdiv, w_tmod, IntKind.bits, unA, f0, f1, f2, hx, hy, wa, wb, hq1, hq2, total_hi tag _ ht, lives]

theorem order_in_lt (x y tag a b : Int) (hx : x.tmod 16777216 = a) (hy : y.tmod 16777216 = b) (a0 : 0 ≤ a) (a1 : a < 16777216) (b0 : 0 ≤ b) (b1 : b < 16777216) (t0 : 1 ≤ tag) (t1 : tag ≤ 5) (hab : a < b) : Con E 60 6 [.int .u32 x, .int .u32 y, .int .i64 tag] (.bool true) := by
  refine .of (g := []) rfl ?_
  rw [aCall_fn rfl (E_fn6) rfl (Nat.le_of_ble_eq_true rfl) rfl rfl, body_6, c6]
  have wa : IntKind.i64.wrap a = a := w_i64 _ (by omega) (by omega)
  have wb : IntKind.i64.wrap b = b := w_i64 _ (by omega) (by omega)
  have hq1 : IntKind.u32.wrap a = a := by rw [w_u32]; omega
  have hq2 : IntKind.u32.wrap b = b := by rw [w_u32]; omega
  obtain ⟨sa0, sa1⟩ := sz_pos a a0 a1
  obtain ⟨sb0, sb1⟩ := sz_pos b b0 b1
  have sm := sz_mono a b (by omega) (by omega) (by omega)
  have f0 : ¬ b < a := by omega
  have f1 : ¬ tag < 1 := by omega
  have f2 : ¬ 5 < tag := by omega
  have f3 : sz a ≤ sz b := by omega
  have f4 : tag + sz a + a ≤ tag + sz b + b := by omega
  have f5 : ¬ a = b := by omega
  have f6 : ¬ tag + sz a + a = tag + sz b + b := by omega
  have c1 := total_in tag a (sz a) t0 t1 (size a) sa0 sa1 a0 a1
  have c2 := total_in tag b (sz b) t0 t1 (size b) sb0 sb1 b0 b1
  have c3 := total_no tag (-1 - a) t0 t1 (by have := size (-1 - a); rwa [sz_neg _ (by omega)] at this)
  have wm : IntKind.i64.wrap (-1 - a) = -1 - a := w_i64 _ (by omega) (by omega)
  have z1 : IntKind.i64.wrap (tag + sz a) = tag + sz a := w_i64 _ (by omega) (by omega)
  have z2 : IntKind.i64.wrap (tag + sz a + a) = tag + sz a + a := w_i64 _ (by omega) (by omega)
  have e1 : (a == b) = false := by simp; omega
  have e2 : (tag + sz a + a == tag + sz b + b) = false := by simp; omega
  simp [↓s_seq, ↓s_reg, ↓s_regd, ↓s_cond, ↓s_block, ↓s_cons, ↓s_consG, s_nil, s_loop, s_round, s_lpn, s_lpe, s_lpr, firstReg, s_gt, s_gf, s_wb, s_wu, s_val, s_valN, s_skip, s_calls, s_callP, s_cax, s_ret, s_rgx, s_sqn, s_sqr, s_sqe, s_cdb, s_bkn, s_bkr, s_bke, s_exit, s_ret', s_skip', s_finr, s_finn, s_fin1, s_fix, s_clean, s_gc0, o_tmp, o_int, o_bool, o_nil, o_str, o_fn, o_nil', l_hit, l_miss, l_nil, ol_nil, ol_cons, ol_some, x_move, x_assign, x_pick, pk_t, pk_f, x_bin, bn_s, x_un, x_extract, x_callF, cl_no, x_callB, x_conv, cvx, convA, frame0, binA, intOp, resL, resA, results1, sealA, sealLW, AV.pure, AV.pureL, keepT, x_alloc, x_box, bxx, x_build, bdx, x_buildSlice, bsx, x_load, ldx, x_store, stx, x_slice, slx, x_fieldAddr, x_field, x_index, ixx, x_indexAddr, iax, x_makeSlice, msx, x_nilCheck, newK, genOf, setK, lookK, fillA, writeL, writeC, readC, conts, TyI.mk1, sliceA, boundsA, boundsB, fitsA, numA, indexAddrA, fieldAddrA, partA, fieldA, indexA, appendA, copyA, builtinA, AV.cells, AV.scal, chunk, gcH, reach, keysT, keepK, inKs, AV.keys, AV.keysL, Ty.isAgg, eq1, eqL, convA.go, ltI, w_u8, w_u32, w_u64, w_i64, w_fdiv, w_tdiv, w_tmod, IntKind.bits, unA, e1, e2, f0, f1, f2, f3, f4, f5, f6, hx, hy, wa, wb, hq1, hq2, c1, c2, c3, wm, z1, z2, size, lives]

theorem order_in_gt (x y tag a b : Int) (hx : x.tmod 16777216 = a) (hy : y.tmod 16777216 = b) (a0 : 0 ≤ a) (a1 : a < 16777216) (b0 : 0 ≤ b) (b1 : b < 16777216) (t0 : 1 ≤ tag) (t1 : tag ≤ 5) (hab : b < a) : Con E 60 6 [.int .u32 x, .int .u32 y, .int .i64 tag] (.bool true) := by
  refine .of (g := []) rfl ?_
  rw [aCall_fn rfl (E_fn6) rfl (Nat.le_of_ble_eq_true rfl) rfl rfl, body_6, c6]
  have wa : IntKind.i64.wrap a = a := w_i64 _ (by omega) (by omega)
  have wb : IntKind.i64.wrap b = b := w_i64 _ (by omega) (by omega)
  have hq1 : IntKind.u32.wrap a = a := by rw [w_u32]; omega
  have hq2 : IntKind.u32.wrap b = b := by rw [w_u32]; omega
  obtain ⟨sa0, sa1⟩ := sz_pos a a0 a1
  obtain ⟨sb0, sb1⟩ := sz_pos b b0 b1
  have sm := sz_mono b a (by omega) (by omega) (by omega)
  have f0 : b < a := by omega
  have f1 : ¬ tag < 1 := by omega
  have f2 : ¬ 5 < tag := by omega
  have f3 : sz b ≤ sz a := by omega
  have f4 : tag + sz b + b ≤ tag + sz a + a := by omega
  have f5 : ¬ b = a := by omega
  have f6 : ¬ tag + sz b + b = tag + sz a + a := by omega
  have c1 := total_in tag a (sz a) t0 t1 (size a) sa0 sa1 a0 a1
  have c2 := total_in tag b (sz b) t0 t1 (size b) sb0 sb1 b0 b1
  have c3 := total_no tag (-1 - b) t0 t1 (by have := size (-1 - b); rwa [sz_neg _ (by omega)] at this)
  have wm : IntKind.i64.wrap (-1 - b) = -1 - b := w_i64 _ (by omega) (by omega)
  have z1 : IntKind.i64.wrap (tag + sz b) = tag + sz b := w_i64 _ (by omega) (by omega)
  have z2 : IntKind.i64.wrap (tag + sz b + b) = tag + sz b + b := w_i64 _ (by omega) (by omega)
  have e1 : (b == a) = false := by simp; omega
  have e2 : (tag + sz b + b == tag + sz a + a) = false := by simp; omega
  simp [↓s_seq, ↓s_reg, ↓s_regd, ↓s_cond, ↓s_block, ↓s_cons, ↓s_consG, s_nil, s_loop, s_round, s_lpn, s_lpe, s_lpr, firstReg, s_gt, s_gf, s_wb, s_wu, s_val, s_valN, s_skip, s_calls, s_callP, s_cax, s_ret, s_rgx, s_sqn, s_sqr, s_sqe, s_cdb, s_bkn, s_bkr, s_bke, s_exit, s_ret', s_skip', s_finr, s_finn, s_fin1, s_fix, s_clean, s_gc0, o_tmp, o_int, o_bool, o_nil, o_str, o_fn, o_nil', l_hit, l_miss, l_nil, ol_nil, ol_cons, ol_some, x_move, x_assign, x_pick, pk_t, pk_f, x_bin, bn_s, x_un, x_extract, x_callF, cl_no, x_callB, x_conv, cvx, convA, frame0, binA, intOp, resL, resA, results1, sealA, sealLW, AV.pure, AV.pureL, keepT, x_alloc, x_box, bxx, x_build, bdx, x_buildSlice, bsx, x_load, ldx, x_store, stx, x_slice, slx, x_fieldAddr, x_field, x_index, ixx, x_indexAddr, iax, x_makeSlice, msx, x_nilCheck, newK, genOf, setK, lookK, fillA, writeL, writeC, readC, conts, TyI.mk1, sliceA, boundsA, boundsB, fitsA, numA, indexAddrA, fieldAddrA, partA, fieldA, indexA, appendA, copyA, builtinA, AV.cells, AV.scal, chunk, gcH, reach, keysT, keepK, inKs, AV.keys, AV.keysL, Ty.isAgg, eq1, eqL, convA.go, ltI, w_u8, w_u32, w_u64, w_i64, w_fdiv, w_tdiv, w_tmod, IntKind.bits, unA, e1, e2, f0, f1, f2, f3, f4, f5, f6, hx, hy, wa, wb, hq1, hq2, c1, c2, c3, wm, z1, z2, size, lives]

theorem order_in_eq (x y tag a b : Int) (hx : x.tmod 16777216 = a) (hy : y.tmod 16777216 = b) (a0 : 0 ≤ a) (a1 : a < 16777216) (b0 : 0 ≤ b) (b1 : b < 16777216) (t0 : 1 ≤ tag) (t1 : tag ≤ 5) (hab : a = b) : Con E 60 6 [.int .u32 x, .int .u32 y, .int .i64 tag] (.bool true) := by
  refine .of (g := []) rfl ?_
  rw [aCall_fn rfl (E_fn6) rfl (Nat.le_of_ble_eq_true rfl) rfl rfl, body_6, c6]
  have wa : IntKind.i64.wrap a = a := w_i64 _ (by omega) (by omega)
  have wb : IntKind.i64.wrap b = b := w_i64 _ (by omega) (by omega)
  have hq1 : IntKind.u32.wrap a = a := by rw [w_u32]; omega
  have hq2 : IntKind.u32.wrap b = b := by rw [w_u32]; omega
  obtain ⟨sa0, sa1⟩ := sz_pos a a0 a1
  obtain ⟨sb0, sb1⟩ := sz_pos b b0 b1
  have sm := sz_mono a b (by omega) (by omega) (by omega)
  subst hab
  have f0 : ¬ a < a := by omega
  have f1 : ¬ tag < 1 := by omega
  have f2 : ¬ 5 < tag := by omega
  have f3 : sz a ≤ sz a := by omega
  have f4 : tag + sz a + a ≤ tag + sz a + a := by omega
  have c1 := total_in tag a (sz a) t0 t1 (size a) sa0 sa1 a0 a1
  have c2 := total_in tag a (sz a) t0 t1 (size a) sa0 sa1 a0 a1
  have c3 := total_no tag (-1 - a) t0 t1 (by have := size (-1 - a); rwa [sz_neg _ (by omega)] at this)
  have wm : IntKind.i64.wrap (-1 - a) = -1 - a := w_i64 _ (by omega) (by omega)
  have z1 : IntKind.i64.wrap (tag + sz a) = tag + sz a := w_i64 _ (by omega) (by omega)
  have z2 : IntKind.i64.wrap (tag + sz a + a) = tag + sz a + a := w_i64 _ (by omega) (by omega)
  simp [↓s_seq, ↓s_reg, ↓s_regd, ↓s_cond, ↓s_block, ↓s_cons, ↓s_consG, s_nil, s_loop, s_round, s_lpn, s_lpe, s_lpr, firstReg, s_gt, s_gf, s_wb, s_wu, s_val, s_valN, s_skip, s_calls, s_callP, s_cax, s_ret, s_rgx, s_sqn, s_sqr, s_sqe, s_cdb, s_bkn, s_bkr, s_bke, s_exit, s_ret', s_skip', s_finr, s_finn, s_fin1, s_fix, s_clean, s_gc0, o_tmp, o_int, o_bool, o_nil, o_str, o_fn, o_nil', l_hit, l_miss, l_nil, ol_nil, ol_cons, ol_some, x_move, x_assign, x_pick, pk_t, pk_f, x_bin, bn_s, x_un, x_extract, x_callF, cl_no, x_callB, x_conv, cvx, convA, frame0, binA, intOp, resL, resA, results1, sealA, sealLW, AV.pure, AV.pureL, keepT, x_alloc, x_box, bxx, x_build, bdx, x_buildSlice, bsx, x_load, ldx, x_store, stx, x_slice, slx, x_fieldAddr, x_field, x_index, ixx, x_indexAddr, iax, x_makeSlice, msx, x_nilCheck, newK, genOf, setK, lookK, fillA, writeL, writeC, readC, conts, TyI.mk1, sliceA, boundsA, boundsB, fitsA, numA, indexAddrA, fieldAddrA, partA, fieldA, indexA, appendA, copyA, builtinA, AV.cells, AV.scal, chunk, gcH, reach, keysT, keepK, inKs, AV.keys, AV.keysL, Ty.isAgg, eq1, eqL, convA.go, ltI, w_u8, w_u32, w_u64, w_i64, w_fdiv, w_tdiv, w_tmod, IntKind.bits, unA, f0, f1, f2, f3, f4, hx, hy, wa, wb, hq1, hq2, c1, c2, c3, wm, z1, z2, size, lives]

/-- LengthsOrder: true at every three numbers. -/
theorem order (x y tag : Int) (x0 : 0 ≤ x) (y0 : 0 ≤ y) : Con E 60 6 [.int .u32 x, .int .u32 y, .int .i64 tag] (.bool true) := by
  have hx := w_tmod x 16777216 x0
  have hy := w_tmod y 16777216 y0
  have a0 : 0 ≤ x % 16777216 := by omega
  have a1 : x % 16777216 < 16777216 := by omega
  have b0 : 0 ≤ y % 16777216 := by omega
  have b1 : y % 16777216 < 16777216 := by omega
  generalize x % 16777216 = a at *
  generalize y % 16777216 = b at *
  by_cases h1 : tag < 1
  · by_cases h : b < a
    · exact order_lo_gt x y tag a b hx hy a0 a1 b0 b1 h h1
    · exact order_lo_le x y tag a b hx hy a0 a1 b0 b1 (by omega) h1
  · by_cases h5 : 5 < tag
    · by_cases h : b < a
      · exact order_hi_gt x y tag a b hx hy a0 a1 b0 b1 h h5
      · exact order_hi_le x y tag a b hx hy a0 a1 b0 b1 (by omega) h5
    · by_cases h : b < a
      · exact order_in_gt x y tag a b hx hy a0 a1 b0 b1 (by omega) (by omega) h
      · by_cases h' : a < b
        · exact order_in_lt x y tag a b hx hy a0 a1 b0 b1 (by omega) (by omega) h'
        · exact order_in_eq x y tag a b hx hy a0 a1 b0 b1 (by omega) (by omega) (by omega)
end M5
