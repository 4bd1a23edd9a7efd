/- What the two readers of lengths answer, at the evaluator. No conditions. -/
import Derived.Test.YtbiildmljbcmeaaP8
import Derived.Test.YtbiildmljbcmeaaB32
open Ab Go TabE P1 P2 P2 P5 P7 P8
set_option maxRecDepth 20000
set_option linter.unusedSimpArgs false
set_option linter.unusedVariables false
set_option maxHeartbeats 2000000
namespace P9
theorem get_E3 (f : Bool) (c : Option Nat) (y z u : Int) (r : List Int) (y0 : 0 < y) (y1 : y < 256) (z0 : 0 ≤ z) (z1 : z < 256) (u0 : 0 ≤ u) (u1 : u < 256) : Con E 10 96 [.sl f (bs (131 :: y :: z :: u :: r)) c] (.tup [.int .i64 (256 * (256 * y + z) + u), .int .i64 4, .int .i64 0]) := by
  refine .of (g := []) (by simp [AV.pureL, AV.pure, bs_pure]) ?_
  rw [aCall_fn rfl (E_fn96) (by simp [AV.pureL, AV.pure, bs_pure]) (Nat.le_of_ble_eq_true rfl) rfl rfl, body_96, c96]
  have f0 : ¬ ((r.length : Int) + 1 + 1 + 1 + 1 = 0) := by omega
  have f1 : (0 : Int) < (r.length : Int) + 1 + 1 + 1 + 1 := by omega
  have f2 : ¬ ((r.length : Int) + 1 + 1 + 1 + 1 ≤ 3) := by omega
  have f3 : ¬ ((r.length : Int) + 1 + 1 + 1 + 1 < 4) := by omega
  have f4 : (1 : Int) < (r.length : Int) + 1 + 1 + 1 + 1 := by omega
  have f5 : (2 : Int) < (r.length : Int) + 1 + 1 + 1 + 1 := by omega
  have f6 : (3 : Int) < (r.length : Int) + 1 + 1 + 1 + 1 := by omega
  have f7 : ¬ y = 0 := by omega
  have f8 : ¬ 256 * (256 * y + z) + u < 128 := by omega
  have f9 : ¬ 256 * (256 * y + z) + u ≤ 127 := by omega
  have w1 : IntKind.i64.wrap (y) = y := w_i64 _ (by omega) (by omega)
  have w2 : IntKind.i64.wrap (z) = z := w_i64 _ (by omega) (by omega)
  have w3 : IntKind.i64.wrap (u) = u := w_i64 _ (by omega) (by omega)
  have w4 : IntKind.i64.wrap (256 * y) = 256 * y := w_i64 _ (by omega) (by omega)
  have w5 : IntKind.i64.wrap (256 * y + z) = 256 * y + z := w_i64 _ (by omega) (by omega)
  have w6 : IntKind.i64.wrap (256 * (256 * y + z)) = 256 * (256 * y + z) := w_i64 _ (by omega) (by omega)
  have w7 : IntKind.i64.wrap (256 * (256 * y + z) + u) = 256 * (256 * y + z) + u := w_i64 _ (by omega) (by omega)
  have w8 : IntKind.i64.wrap (y * 65536) = y * 65536 := w_i64 _ (by omega) (by omega)
  have w9 : IntKind.i64.wrap (z * 256) = z * 256 := w_i64 _ (by omega) (by omega)
  have m3 : min (r.length + 1 + 1 + 1) 3 = 3 := by omega
  obtain ⟨o1, p2⟩ := or_three y z u (by omega) (by omega) (by omega) (by omega) (by omega) (by omega)
  have o2 : or64 (y * 65536 + z * 256) u = 256 * (256 * y + z) + u := by omega
  have e1 : (y == 0) = false := by simp; omega
  simp [↓s_seq, ↓s_reg, ↓s_regd, ↓s_cond, ↓s_block, ↓s_cons, ↓s_consG, s_nil, s_loop, s_round, s_lpn, s_lpe, s_lpr, firstReg, s_gt, s_gf, s_wb, s_wu, s_val, s_valN, s_skip, s_calls, s_callP, s_cax, lookR, flatR, pureKs, s_ret, s_rgx, s_sqn, s_sqr, s_sqe, s_cdb, s_bkn, s_bkr, s_bke, s_exit, s_ret', s_skip', s_finr, s_finn, s_fin1, s_fix, s_clean, s_gc0, o_tmp, o_int, o_bool, o_nil, o_str, o_fn, o_nil', l_hit, l_miss, l_nil, ol_nil, ol_cons, ol_some, x_move, x_assign, x_pick, pk_t, pk_f, x_bin, bn_s, x_un, x_extract, x_callF, cl_no, x_callB, x_callBF, frzV, x_conv, cvx, convA, frame0, binA, intOp, resL, resA, results1, sealA, sealLW, AV.pure, AV.pureL, keepT, x_alloc, x_box, bxx, x_build, bdx, x_buildSlice, bsx, x_buildSliceF, bsf, x_load, ldx, x_store, stx, x_slice, slx, x_fieldAddr, x_field, x_index, ixx, x_indexAddr, iax, x_makeSlice, msx, x_nilCheck, newK, genOf, setK, lookK, fillA, writeL, writeC, readC, conts, TyI.mk1, sliceA, boundsA, boundsB, fitsA, numA, indexAddrA, fieldAddrA, partA, fieldA, indexA, appendA, copyA, builtinA, AV.cells, AV.scal, chunk, gcH, reach, keysT, keepK, inKs, AV.keys, AV.keysL, Ty.isAgg, eq1, eqL, convA.go, ltI, w_u8, w_u32, w_u64, w_i64, w_fdiv, w_tdiv, w_tmod, IntKind.bits, unA, ↓i_or, or64_zero, bs_nil, bs_cons, bs_length, bs_pure, bs_cells, bs_all, f0, f1, f2, f3, f4, f5, f6, f7, f8, f9, w1, w2, w3, w8, w9, w7, m3, o1, o2, e1]

theorem rget_E3 (f : Bool) (c : Option Nat) (y z u : Int) (r : List Int) (y0 : 0 < y) (y1 : y < 256) (z0 : 0 ≤ z) (z1 : z < 256) (u0 : 0 ≤ u) (u1 : u < 256) : Con E 20 89 [.sl f (bs (131 :: y :: z :: u :: r)) c] (.tup [.int .i64 (256 * (256 * y + z) + u), .int .i64 4, .int .i64 0]) := by
  refine .of (g := []) (by simp [AV.pureL, AV.pure, bs_pure]) ?_
  rw [aCall_fn rfl (E_fn89) (by simp [AV.pureL, AV.pure, bs_pure]) (Nat.le_of_ble_eq_true rfl) rfl rfl, body_89, c89]
  have f0 : ¬ ((r.length : Int) + 1 + 1 + 1 + 1 = 0) := by omega
  have f1 : (0 : Int) < (r.length : Int) + 1 + 1 + 1 + 1 := by omega
  have f2 : ¬ ((r.length : Int) + 1 + 1 + 1 + 1 ≤ 3) := by omega
  have f3 : ¬ ((r.length : Int) + 1 + 1 + 1 + 1 < 4) := by omega
  have f4 : (1 : Int) < (r.length : Int) + 1 + 1 + 1 + 1 := by omega
  have f5 : (2 : Int) < (r.length : Int) + 1 + 1 + 1 + 1 := by omega
  have f6 : (3 : Int) < (r.length : Int) + 1 + 1 + 1 + 1 := by omega
  have f7 : ¬ y = 0 := by omega
  have f8 : ¬ 256 * (256 * y + z) + u < 128 := by omega
  have f9 : ¬ 256 * (256 * y + z) + u ≤ 127 := by omega
  have w1 : IntKind.i64.wrap (y) = y := w_i64 _ (by omega) (by omega)
  have w2 : IntKind.i64.wrap (z) = z := w_i64 _ (by omega) (by omega)
  have w3 : IntKind.i64.wrap (u) = u := w_i64 _ (by omega) (by omega)
  have w4 : IntKind.i64.wrap (256 * y) = 256 * y := w_i64 _ (by omega) (by omega)
  have w5 : IntKind.i64.wrap (256 * y + z) = 256 * y + z := w_i64 _ (by omega) (by omega)
  have w6 : IntKind.i64.wrap (256 * (256 * y + z)) = 256 * (256 * y + z) := w_i64 _ (by omega) (by omega)
  have w7 : IntKind.i64.wrap (256 * (256 * y + z) + u) = 256 * (256 * y + z) + u := w_i64 _ (by omega) (by omega)
  have w8 : IntKind.i64.wrap (y * 65536) = y * 65536 := w_i64 _ (by omega) (by omega)
  have w9 : IntKind.i64.wrap (z * 256) = z * 256 := w_i64 _ (by omega) (by omega)
  have m3 : min (r.length + 1 + 1 + 1) 3 = 3 := by omega
  obtain ⟨o1, p2⟩ := or_three y z u (by omega) (by omega) (by omega) (by omega) (by omega) (by omega)
  have o2 : or64 (y * 65536 + z * 256) u = 256 * (256 * y + z) + u := by omega
  have e1 : (y == 0) = false := by simp; omega
  simp [↓s_seq, ↓s_reg, ↓s_regd, ↓s_cond, ↓s_block, ↓s_cons, ↓s_consG, s_nil, s_loop, s_round, s_lpn, s_lpe, s_lpr, firstReg, s_gt, s_gf, s_wb, s_wu, s_val, s_valN, s_skip, s_calls, s_callP, s_cax, lookR, flatR, pureKs, s_ret, s_rgx, s_sqn, s_sqr, s_sqe, s_cdb, s_bkn, s_bkr, s_bke, s_exit, s_ret', s_skip', s_finr, s_finn, s_fin1, s_fix, s_clean, s_gc0, o_tmp, o_int, o_bool, o_nil, o_str, o_fn, o_nil', l_hit, l_miss, l_nil, ol_nil, ol_cons, ol_some, x_move, x_assign, x_pick, pk_t, pk_f, x_bin, bn_s, x_un, x_extract, x_callF, cl_no, x_callB, x_callBF, frzV, x_conv, cvx, convA, frame0, binA, intOp, resL, resA, results1, sealA, sealLW, AV.pure, AV.pureL, keepT, x_alloc, x_box, bxx, x_build, bdx, x_buildSlice, bsx, x_buildSliceF, bsf, x_load, ldx, x_store, stx, x_slice, slx, x_fieldAddr, x_field, x_index, ixx, x_indexAddr, iax, x_makeSlice, msx, x_nilCheck, newK, genOf, setK, lookK, fillA, writeL, writeC, readC, conts, TyI.mk1, sliceA, boundsA, boundsB, fitsA, numA, indexAddrA, fieldAddrA, partA, fieldA, indexA, appendA, copyA, builtinA, AV.cells, AV.scal, chunk, gcH, reach, keysT, keepK, inKs, AV.keys, AV.keysL, Ty.isAgg, eq1, eqL, convA.go, ltI, w_u8, w_u32, w_u64, w_i64, w_fdiv, w_tdiv, w_tmod, IntKind.bits, unA, ↓i_or, or64_zero, bs_nil, bs_cons, bs_length, bs_pure, bs_cells, bs_all, f0, f1, f2, f3, f4, f5, f6, f7, f8, f9, w1, w2, w3, w4, w5, w6, w7, e1]

theorem get_Z3 (f : Bool) (c : Option Nat) (z u : Int) (r : List Int) (z0 : 0 ≤ z) (z1 : z < 256) (u0 : 0 ≤ u) (u1 : u < 256) : Con E 10 96 [.sl f (bs (131 :: 0 :: z :: u :: r)) c] (.tup [.int .i64 0, .int .i64 0, .int .i64 10]) := by
  refine .of (g := []) (by simp [AV.pureL, AV.pure, bs_pure]) ?_
  rw [aCall_fn rfl (E_fn96) (by simp [AV.pureL, AV.pure, bs_pure]) (Nat.le_of_ble_eq_true rfl) rfl rfl, body_96, c96]
  have f0 : ¬ ((r.length : Int) + 1 + 1 + 1 + 1 = 0) := by omega
  have f1 : (0 : Int) < (r.length : Int) + 1 + 1 + 1 + 1 := by omega
  have f2 : ¬ ((r.length : Int) + 1 + 1 + 1 + 1 ≤ 3) := by omega
  have f3 : ¬ ((r.length : Int) + 1 + 1 + 1 + 1 < 4) := by omega
  have f4 : (1 : Int) < (r.length : Int) + 1 + 1 + 1 + 1 := by omega
  have f5 : (2 : Int) < (r.length : Int) + 1 + 1 + 1 + 1 := by omega
  have f6 : (3 : Int) < (r.length : Int) + 1 + 1 + 1 + 1 := by omega
  have w2 : IntKind.i64.wrap (z) = z := w_i64 _ (by omega) (by omega)
  have w3 : IntKind.i64.wrap (u) = u := w_i64 _ (by omega) (by omega)
  have m3 : min (r.length + 1 + 1 + 1) 3 = 3 := by omega
  simp [↓s_seq, ↓s_reg, ↓s_regd, ↓s_cond, ↓s_block, ↓s_cons, ↓s_consG, s_nil, s_loop, s_round, s_lpn, s_lpe, s_lpr, firstReg, s_gt, s_gf, s_wb, s_wu, s_val, s_valN, s_skip, s_calls, s_callP, s_cax, lookR, flatR, pureKs, s_ret, s_rgx, s_sqn, s_sqr, s_sqe, s_cdb, s_bkn, s_bkr, s_bke, s_exit, s_ret', s_skip', s_finr, s_finn, s_fin1, s_fix, s_clean, s_gc0, o_tmp, o_int, o_bool, o_nil, o_str, o_fn, o_nil', l_hit, l_miss, l_nil, ol_nil, ol_cons, ol_some, x_move, x_assign, x_pick, pk_t, pk_f, x_bin, bn_s, x_un, x_extract, x_callF, cl_no, x_callB, x_callBF, frzV, x_conv, cvx, convA, frame0, binA, intOp, resL, resA, results1, sealA, sealLW, AV.pure, AV.pureL, keepT, x_alloc, x_box, bxx, x_build, bdx, x_buildSlice, bsx, x_buildSliceF, bsf, x_load, ldx, x_store, stx, x_slice, slx, x_fieldAddr, x_field, x_index, ixx, x_indexAddr, iax, x_makeSlice, msx, x_nilCheck, newK, genOf, setK, lookK, fillA, writeL, writeC, readC, conts, TyI.mk1, sliceA, boundsA, boundsB, fitsA, numA, indexAddrA, fieldAddrA, partA, fieldA, indexA, appendA, copyA, builtinA, AV.cells, AV.scal, chunk, gcH, reach, keysT, keepK, inKs, AV.keys, AV.keysL, Ty.isAgg, eq1, eqL, convA.go, ltI, w_u8, w_u32, w_u64, w_i64, w_fdiv, w_tdiv, w_tmod, IntKind.bits, unA, ↓i_or, or64_zero, bs_nil, bs_cons, bs_length, bs_pure, bs_cells, bs_all, f0, f1, f2, f3, f4, f5, f6, w2, w3, m3]

theorem rget_Z3 (f : Bool) (c : Option Nat) (z u : Int) (r : List Int) (z0 : 0 ≤ z) (z1 : z < 256) (u0 : 0 ≤ u) (u1 : u < 256) : Con E 20 89 [.sl f (bs (131 :: 0 :: z :: u :: r)) c] (.tup [.int .i64 0, .int .i64 0, .int .i64 10]) := by
  refine .of (g := []) (by simp [AV.pureL, AV.pure, bs_pure]) ?_
  rw [aCall_fn rfl (E_fn89) (by simp [AV.pureL, AV.pure, bs_pure]) (Nat.le_of_ble_eq_true rfl) rfl rfl, body_89, c89]
  have f0 : ¬ ((r.length : Int) + 1 + 1 + 1 + 1 = 0) := by omega
  have f1 : (0 : Int) < (r.length : Int) + 1 + 1 + 1 + 1 := by omega
  have f2 : ¬ ((r.length : Int) + 1 + 1 + 1 + 1 ≤ 3) := by omega
  have f3 : ¬ ((r.length : Int) + 1 + 1 + 1 + 1 < 4) := by omega
  have f4 : (1 : Int) < (r.length : Int) + 1 + 1 + 1 + 1 := by omega
  have f5 : (2 : Int) < (r.length : Int) + 1 + 1 + 1 + 1 := by omega
  have f6 : (3 : Int) < (r.length : Int) + 1 + 1 + 1 + 1 := by omega
  have w2 : IntKind.i64.wrap (z) = z := w_i64 _ (by omega) (by omega)
  have w3 : IntKind.i64.wrap (u) = u := w_i64 _ (by omega) (by omega)
  have m3 : min (r.length + 1 + 1 + 1) 3 = 3 := by omega
  simp [↓s_seq, ↓s_reg, ↓s_regd, ↓s_cond, ↓s_block, ↓s_cons, ↓s_consG, s_nil, s_loop, s_round, s_lpn, s_lpe, s_lpr, firstReg, s_gt, s_gf, s_wb, s_wu, s_val, s_valN, s_skip, s_calls, s_callP, s_cax, lookR, flatR, pureKs, s_ret, s_rgx, s_sqn, s_sqr, s_sqe, s_cdb, s_bkn, s_bkr, s_bke, s_exit, s_ret', s_skip', s_finr, s_finn, s_fin1, s_fix, s_clean, s_gc0, o_tmp, o_int, o_bool, o_nil, o_str, o_fn, o_nil', l_hit, l_miss, l_nil, ol_nil, ol_cons, ol_some, x_move, x_assign, x_pick, pk_t, pk_f, x_bin, bn_s, x_un, x_extract, x_callF, cl_no, x_callB, x_callBF, frzV, x_conv, cvx, convA, frame0, binA, intOp, resL, resA, results1, sealA, sealLW, AV.pure, AV.pureL, keepT, x_alloc, x_box, bxx, x_build, bdx, x_buildSlice, bsx, x_buildSliceF, bsf, x_load, ldx, x_store, stx, x_slice, slx, x_fieldAddr, x_field, x_index, ixx, x_indexAddr, iax, x_makeSlice, msx, x_nilCheck, newK, genOf, setK, lookK, fillA, writeL, writeC, readC, conts, TyI.mk1, sliceA, boundsA, boundsB, fitsA, numA, indexAddrA, fieldAddrA, partA, fieldA, indexA, appendA, copyA, builtinA, AV.cells, AV.scal, chunk, gcH, reach, keysT, keepK, inKs, AV.keys, AV.keysL, Ty.isAgg, eq1, eqL, convA.go, ltI, w_u8, w_u32, w_u64, w_i64, w_fdiv, w_tdiv, w_tmod, IntKind.bits, unA, ↓i_or, or64_zero, bs_nil, bs_cons, bs_length, bs_pure, bs_cells, bs_all, f0, f1, f2, f3, f4, f5, f6, w2, w3]
end P9
