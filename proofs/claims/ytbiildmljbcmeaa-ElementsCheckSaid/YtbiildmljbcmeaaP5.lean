/- The law LengthsOrder at the evaluator. No conditions. -/
import Derived.Test.YtbiildmljbcmeaaP2
open Ab Go TabE P1 P2 P2
set_option maxRecDepth 20000
set_option linter.unusedSimpArgs false
set_option linter.unusedVariables false
set_option maxHeartbeats 2000000
namespace P5
/-- How many octets a length has. -/
def sz (n : Int) : Int := if n < 0 then 0 else if n ≤ 127 then 1 else if n ≤ 255 then 2 else if n ≤ 65535 then 3 else if n ≤ 16777215 then 4 else 0
theorem size (n : Int) : Con E 20 110 [.int .i64 n] (.int .i64 (sz n)) := by
  unfold sz
  split
  · exact size_neg n ‹_›
  · split
    · exact size_1 n (by omega) ‹_›
    · split
      · exact size_2 n (by omega) ‹_›
      · split
        · exact size_3 n (by omega) ‹_›
        · split
          · exact size_4 n (by omega) ‹_›
          · exact size_big n (by omega)
theorem sz_pos (n : Int) (h0 : 0 ≤ n) (h : n < 16777216) : 1 ≤ sz n ∧ sz n ≤ 4 := by unfold sz; repeat' split <;> omega
theorem sz_mono (a b : Int) (h : a ≤ b) (h0 : 0 ≤ a) (hb : b < 16777216) : sz a ≤ sz b := by unfold sz; repeat' split <;> omega
theorem sz_neg (n : Int) (h : n < 0) : sz n = 0 := by unfold sz; simp [h]

theorem total_lo (tag n : Int) (h : tag < 1) : Con E 30 91 [.int .i64 tag, .int .i64 n] (.int .i64 0) := by
  refine .of (g := []) rfl ?_
  rw [aCall_fn rfl (E_fn91) rfl (Nat.le_of_ble_eq_true rfl) rfl rfl, body_91, c91]
  have f0 : tag < 1 := by omega
  simp [↓s_seq, ↓s_reg, ↓s_regd, ↓s_cond, ↓s_block, ↓s_cons, ↓s_consG, s_nil, s_loop, s_round, s_lpn, s_lpe, s_lpr, firstReg, s_gt, s_gf, s_wb, s_wu, s_val, s_valN, s_skip, s_calls, s_callP, s_cax, lookR, flatR, pureKs, s_ret, s_rgx, s_sqn, s_sqr, s_sqe, s_cdb, s_bkn, s_bkr, s_bke, s_exit, s_ret', s_skip', s_finr, s_finn, s_fin1, s_fix, s_clean, s_gc0, o_tmp, o_int, o_bool, o_nil, o_str, o_fn, o_nil', l_hit, l_miss, l_nil, ol_nil, ol_cons, ol_some, x_move, x_assign, x_pick, pk_t, pk_f, x_bin, bn_s, x_un, x_extract, x_callF, cl_no, x_callB, x_callBF, frzV, x_conv, cvx, convA, frame0, binA, intOp, resL, resA, results1, sealA, sealLW, AV.pure, AV.pureL, keepT, x_alloc, x_box, bxx, x_build, bdx, x_buildSlice, bsx, x_buildSliceF, bsf, x_load, ldx, x_store, stx, x_slice, slx, x_fieldAddr, x_field, x_index, ixx, x_indexAddr, iax, x_makeSlice, msx, x_nilCheck, newK, genOf, setK, lookK, fillA, writeL, writeC, readC, conts, TyI.mk1, sliceA, boundsA, boundsB, fitsA, numA, indexAddrA, fieldAddrA, partA, fieldA, indexA, appendA, copyA, builtinA, AV.cells, AV.scal, chunk, gcH, reach, keysT, keepK, inKs, AV.keys, AV.keysL, Ty.isAgg, eq1, eqL, convA.go, ltI, w_u8, w_u32, w_u64, w_i64, w_fdiv, w_tdiv, w_tmod, IntKind.bits, unA, f0]

theorem total_hi (tag n : Int) (h : 5 < tag) : Con E 30 91 [.int .i64 tag, .int .i64 n] (.int .i64 0) := by
  refine .of (g := []) rfl ?_
  rw [aCall_fn rfl (E_fn91) rfl (Nat.le_of_ble_eq_true rfl) rfl rfl, body_91, c91]
  have f0 : ¬ tag < 1 := by omega
  have f1 : 5 < tag := by omega
  simp [↓s_seq, ↓s_reg, ↓s_regd, ↓s_cond, ↓s_block, ↓s_cons, ↓s_consG, s_nil, s_loop, s_round, s_lpn, s_lpe, s_lpr, firstReg, s_gt, s_gf, s_wb, s_wu, s_val, s_valN, s_skip, s_calls, s_callP, s_cax, lookR, flatR, pureKs, s_ret, s_rgx, s_sqn, s_sqr, s_sqe, s_cdb, s_bkn, s_bkr, s_bke, s_exit, s_ret', s_skip', s_finr, s_finn, s_fin1, s_fix, s_clean, s_gc0, o_tmp, o_int, o_bool, o_nil, o_str, o_fn, o_nil', l_hit, l_miss, l_nil, ol_nil, ol_cons, ol_some, x_move, x_assign, x_pick, pk_t, pk_f, x_bin, bn_s, x_un, x_extract, x_callF, cl_no, x_callB, x_callBF, frzV, x_conv, cvx, convA, frame0, binA, intOp, resL, resA, results1, sealA, sealLW, AV.pure, AV.pureL, keepT, x_alloc, x_box, bxx, x_build, bdx, x_buildSlice, bsx, x_buildSliceF, bsf, x_load, ldx, x_store, stx, x_slice, slx, x_fieldAddr, x_field, x_index, ixx, x_indexAddr, iax, x_makeSlice, msx, x_nilCheck, newK, genOf, setK, lookK, fillA, writeL, writeC, readC, conts, TyI.mk1, sliceA, boundsA, boundsB, fitsA, numA, indexAddrA, fieldAddrA, partA, fieldA, indexA, appendA, copyA, builtinA, AV.cells, AV.scal, chunk, gcH, reach, keysT, keepK, inKs, AV.keys, AV.keysL, Ty.isAgg, eq1, eqL, convA.go, ltI, w_u8, w_u32, w_u64, w_i64, w_fdiv, w_tdiv, w_tmod, IntKind.bits, unA, f0, f1]

theorem total_in (tag n s : Int) (h0 : 1 ≤ tag) (h1 : tag ≤ 5) (hc : Con E 20 110 [.int .i64 n] (.int .i64 s)) (hs : 1 ≤ s) (hs4 : s ≤ 4) (hn : 0 ≤ n) (hn1 : n < 16777216) : Con E 30 91 [.int .i64 tag, .int .i64 n] (.int .i64 (tag + s + n)) := by
  refine .of (g := []) rfl ?_
  rw [aCall_fn rfl (E_fn91) rfl (Nat.le_of_ble_eq_true rfl) rfl rfl, body_91, c91]
  have f0 : ¬ tag < 1 := by omega
  have f1 : ¬ 5 < tag := by omega
  have f2 : ¬ s = 0 := by omega
  have w1 : IntKind.i64.wrap (tag + s) = tag + s := w_i64 _ (by omega) (by omega)
  have w2 : IntKind.i64.wrap (tag + s + n) = tag + s + n := w_i64 _ (by omega) (by omega)
  simp [↓s_seq, ↓s_reg, ↓s_regd, ↓s_cond, ↓s_block, ↓s_cons, ↓s_consG, s_nil, s_loop, s_round, s_lpn, s_lpe, s_lpr, firstReg, s_gt, s_gf, s_wb, s_wu, s_val, s_valN, s_skip, s_calls, s_callP, s_cax, lookR, flatR, pureKs, s_ret, s_rgx, s_sqn, s_sqr, s_sqe, s_cdb, s_bkn, s_bkr, s_bke, s_exit, s_ret', s_skip', s_finr, s_finn, s_fin1, s_fix, s_clean, s_gc0, o_tmp, o_int, o_bool, o_nil, o_str, o_fn, o_nil', l_hit, l_miss, l_nil, ol_nil, ol_cons, ol_some, x_move, x_assign, x_pick, pk_t, pk_f, x_bin, bn_s, x_un, x_extract, x_callF, cl_no, x_callB, x_callBF, frzV, x_conv, cvx, convA, frame0, binA, intOp, resL, resA, results1, sealA, sealLW, AV.pure, AV.pureL, keepT, x_alloc, x_box, bxx, x_build, bdx, x_buildSlice, bsx, x_buildSliceF, bsf, x_load, ldx, x_store, stx, x_slice, slx, x_fieldAddr, x_field, x_index, ixx, x_indexAddr, iax, x_makeSlice, msx, x_nilCheck, newK, genOf, setK, lookK, fillA, writeL, writeC, readC, conts, TyI.mk1, sliceA, boundsA, boundsB, fitsA, numA, indexAddrA, fieldAddrA, partA, fieldA, indexA, appendA, copyA, builtinA, AV.cells, AV.scal, chunk, gcH, reach, keysT, keepK, inKs, AV.keys, AV.keysL, Ty.isAgg, eq1, eqL, convA.go, ltI, w_u8, w_u32, w_u64, w_i64, w_fdiv, w_tdiv, w_tmod, IntKind.bits, unA, f0, f1, f2, hc, w1, w2]

theorem total_no (tag n : Int) (h0 : 1 ≤ tag) (h1 : tag ≤ 5) (hc : Con E 20 110 [.int .i64 n] (.int .i64 0)) : Con E 30 91 [.int .i64 tag, .int .i64 n] (.int .i64 0) := by
  refine .of (g := []) rfl ?_
  rw [aCall_fn rfl (E_fn91) rfl (Nat.le_of_ble_eq_true rfl) rfl rfl, body_91, c91]
  have f0 : ¬ tag < 1 := by omega
  have f1 : ¬ 5 < tag := by omega
  simp [↓s_seq, ↓s_reg, ↓s_regd, ↓s_cond, ↓s_block, ↓s_cons, ↓s_consG, s_nil, s_loop, s_round, s_lpn, s_lpe, s_lpr, firstReg, s_gt, s_gf, s_wb, s_wu, s_val, s_valN, s_skip, s_calls, s_callP, s_cax, lookR, flatR, pureKs, s_ret, s_rgx, s_sqn, s_sqr, s_sqe, s_cdb, s_bkn, s_bkr, s_bke, s_exit, s_ret', s_skip', s_finr, s_finn, s_fin1, s_fix, s_clean, s_gc0, o_tmp, o_int, o_bool, o_nil, o_str, o_fn, o_nil', l_hit, l_miss, l_nil, ol_nil, ol_cons, ol_some, x_move, x_assign, x_pick, pk_t, pk_f, x_bin, bn_s, x_un, x_extract, x_callF, cl_no, x_callB, x_callBF, frzV, x_conv, cvx, convA, frame0, binA, intOp, resL, resA, results1, sealA, sealLW, AV.pure, AV.pureL, keepT, x_alloc, x_box, bxx, x_build, bdx, x_buildSlice, bsx, x_buildSliceF, bsf, x_load, ldx, x_store, stx, x_slice, slx, x_fieldAddr, x_field, x_index, ixx, x_indexAddr, iax, x_makeSlice, msx, x_nilCheck, newK, genOf, setK, lookK, fillA, writeL, writeC, readC, conts, TyI.mk1, sliceA, boundsA, boundsB, fitsA, numA, indexAddrA, fieldAddrA, partA, fieldA, indexA, appendA, copyA, builtinA, AV.cells, AV.scal, chunk, gcH, reach, keysT, keepK, inKs, AV.keys, AV.keysL, Ty.isAgg, eq1, eqL, convA.go, ltI, w_u8, w_u32, w_u64, w_i64, w_fdiv, w_tdiv, w_tmod, IntKind.bits, unA, f0, f1, hc]

end P5
