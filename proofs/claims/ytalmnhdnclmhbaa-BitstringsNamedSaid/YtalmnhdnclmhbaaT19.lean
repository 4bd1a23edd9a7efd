/- math/bits.Len64 at the evaluator. No conditions. -/
import Derived.Test.YtalmnhdnclmhbaaT18
open Ab Go TabB T1 T2 T3
set_option maxRecDepth 20000
set_option linter.unusedSimpArgs false
set_option linter.unusedVariables false
set_option maxHeartbeats 8000000
namespace T19
def tab : List Int := [0, 1, 2, 2, 3, 3, 3, 3, 4, 4, 4, 4, 4, 4, 4, 4, 5, 5, 5, 5, 5, 5, 5, 5, 5, 5, 5, 5, 5, 5, 5, 5, 6, 6, 6, 6, 6, 6, 6, 6, 6, 6, 6, 6, 6, 6, 6, 6, 6, 6, 6, 6, 6, 6, 6, 6, 6, 6, 6, 6, 6, 6, 6, 6, 7, 7, 7, 7, 7, 7, 7, 7, 7, 7, 7, 7, 7, 7, 7, 7, 7, 7, 7, 7, 7, 7, 7, 7, 7, 7, 7, 7, 7, 7, 7, 7, 7, 7, 7, 7, 7, 7, 7, 7, 7, 7, 7, 7, 7, 7, 7, 7, 7, 7, 7, 7, 7, 7, 7, 7, 7, 7, 7, 7, 7, 7, 7, 7, 8, 8, 8, 8, 8, 8, 8, 8, 8, 8, 8, 8, 8, 8, 8, 8, 8, 8, 8, 8, 8, 8, 8, 8, 8, 8, 8, 8, 8, 8, 8, 8, 8, 8, 8, 8, 8, 8, 8, 8, 8, 8, 8, 8, 8, 8, 8, 8, 8, 8, 8, 8, 8, 8, 8, 8, 8, 8, 8, 8, 8, 8, 8, 8, 8, 8, 8, 8, 8, 8, 8, 8, 8, 8, 8, 8, 8, 8, 8, 8, 8, 8, 8, 8, 8, 8, 8, 8, 8, 8, 8, 8, 8, 8, 8, 8, 8, 8, 8, 8, 8, 8, 8, 8, 8, 8, 8, 8, 8, 8, 8, 8, 8, 8, 8, 8, 8, 8, 8, 8, 8, 8, 8, 8, 8, 8, 8, 8]
def len8 (y : Int) : Int := if y < 1 then 0 else if y < 2 then 1 else if y < 4 then 2 else if y < 8 then 3 else if y < 16 then 4 else if y < 32 then 5 else if y < 64 then 6 else if y < 128 then 7 else 8
theorem tab_all : (List.range 256).all (fun n => decide (tab[n]? = some (len8 (n : Int)))) = true := by decide +kernel
theorem tab_get (y : Int) (h0 : 0 ≤ y) (h1 : y < 256) : indexA E 9 (.str tab) (.int .u8 y) = some (.int .u8 (len8 y)) := by
  obtain ⟨n, rfl⟩ := Int.eq_ofNat_of_zero_le h0
  have h := of_decide_eq_true (List.all_eq_true.1 tab_all n (List.mem_range.2 (by omega)))
  unfold indexA
  simp only [E_ty9]
  rw [if_pos (by omega), Int.toNat_natCast, h]
  rfl
theorem len8_lt (y : Int) : 0 ≤ len8 y ∧ len8 y ≤ 8 := by unfold len8; split <;> (try split) <;> (try split) <;> (try split) <;> (try split) <;> (try split) <;> (try split) <;> (try split) <;> omega
theorem len000 (w : Int) (h0 : 0 ≤ w) (c32 : ¬ 4294967296 ≤ w) (c16 : ¬ 65536 ≤ w) (c8 : ¬ 256 ≤ w) (hy : w < 256) : Con E 5 49 [.int .u64 w] (.int .i64 (0 + len8 (w))) := by
  refine .of (g := []) rfl ?_
  rw [aCall_fn rfl (E_fn49) rfl (Nat.le_of_ble_eq_true rfl) rfl rfl, body_49, c49]
  have y0 : 0 ≤ w := by omega
  have tg := tab_get (w) y0 hy
  unfold tab at tg
  have l := len8_lt (w)
  have w1 := w64 (len8 (w)) l.1 (by omega)
  have w2 := w64 (0 + len8 (w)) (by omega) (by omega)
  have m : (w) % 256 = w := Int.emod_eq_of_lt y0 hy
  have z : 0 + len8 (w) = len8 (w) := by omega
  simp [↓s_seq, ↓s_reg, ↓s_regd, ↓s_cond, ↓s_block, ↓s_cons, ↓s_consG, s_nil, s_loop, s_round, s_lpn, s_lpe, s_lpr, firstReg, s_gt, s_gf, s_wb, s_wu, s_val, s_valN, s_skip, s_calls, s_callP, s_cax, lookR, flatR, pureKs, s_ret, s_rgx, s_sqn, s_sqr, s_sqe, s_cdb, s_bkn, s_bkr, s_bke, s_exit, s_ret', s_skip', s_finr, s_finn, s_fin1, s_fix, s_clean, s_gc0, o_tmp, o_int, o_bool, o_nil, o_str, o_fn, o_nil', l_hit, l_miss, l_nil, ol_nil, ol_cons, ol_some, x_move, x_assign, x_pick, pk_t, pk_f, x_bin, bn_s, x_un, x_extract, x_callF, cl_no, x_callB, x_conv, cvx, convA, frame0, binA, intOp, resL, resA, results1, sealA, sealLW, AV.pure, AV.pureL, keepT, x_alloc, x_box, bxx, x_build, bdx, x_buildSlice, bsx, x_buildSliceF, bsf, x_load, ldx, x_store, stx, x_slice, slx, x_fieldAddr, x_field, x_index, ixx, x_indexAddr, iax, x_makeSlice, msx, x_nilCheck, newK, genOf, setK, lookK, fillA, writeL, writeC, readC, conts, TyI.mk1, sliceA, boundsA, boundsB, fitsA, numA, indexAddrA, fieldAddrA, partA, fieldA, indexA, appendA, copyA, builtinA, AV.cells, AV.scal, chunk, gcH, reach, keysT, keepK, inKs, AV.keys, AV.keysL, Ty.isAgg, eq1, eqL, convA.go, ltI, w_u8, w_u32, w_u64, w_i64, w_fdiv, w_tdiv, w_tmod, IntKind.bits, unA, c32, c16, c8, m, w1, w2, tg, -indexA]
theorem len001 (w : Int) (h0 : 0 ≤ w) (c32 : ¬ 4294967296 ≤ w) (c16 : ¬ 65536 ≤ w) (c8 : 256 ≤ w) (hy : w / 256 < 256) : Con E 5 49 [.int .u64 w] (.int .i64 (8 + len8 (w / 256))) := by
  refine .of (g := []) rfl ?_
  rw [aCall_fn rfl (E_fn49) rfl (Nat.le_of_ble_eq_true rfl) rfl rfl, body_49, c49]
  have f8 : (w).fdiv 256 = w / 256 := by rw [Int.fdiv_eq_ediv_of_nonneg _ (by decide)]
  have y0 : 0 ≤ w / 256 := by omega
  have tg := tab_get (w / 256) y0 hy
  unfold tab at tg
  have l := len8_lt (w / 256)
  have w1 := w64 (len8 (w / 256)) l.1 (by omega)
  have w2 := w64 (8 + len8 (w / 256)) (by omega) (by omega)
  have m : (w / 256) % 256 = w / 256 := Int.emod_eq_of_lt y0 hy
  have z : 0 + len8 (w / 256) = len8 (w / 256) := by omega
  simp [↓s_seq, ↓s_reg, ↓s_regd, ↓s_cond, ↓s_block, ↓s_cons, ↓s_consG, s_nil, s_loop, s_round, s_lpn, s_lpe, s_lpr, firstReg, s_gt, s_gf, s_wb, s_wu, s_val, s_valN, s_skip, s_calls, s_callP, s_cax, lookR, flatR, pureKs, s_ret, s_rgx, s_sqn, s_sqr, s_sqe, s_cdb, s_bkn, s_bkr, s_bke, s_exit, s_ret', s_skip', s_finr, s_finn, s_fin1, s_fix, s_clean, s_gc0, o_tmp, o_int, o_bool, o_nil, o_str, o_fn, o_nil', l_hit, l_miss, l_nil, ol_nil, ol_cons, ol_some, x_move, x_assign, x_pick, pk_t, pk_f, x_bin, bn_s, x_un, x_extract, x_callF, cl_no, x_callB, x_conv, cvx, convA, frame0, binA, intOp, resL, resA, results1, sealA, sealLW, AV.pure, AV.pureL, keepT, x_alloc, x_box, bxx, x_build, bdx, x_buildSlice, bsx, x_buildSliceF, bsf, x_load, ldx, x_store, stx, x_slice, slx, x_fieldAddr, x_field, x_index, ixx, x_indexAddr, iax, x_makeSlice, msx, x_nilCheck, newK, genOf, setK, lookK, fillA, writeL, writeC, readC, conts, TyI.mk1, sliceA, boundsA, boundsB, fitsA, numA, indexAddrA, fieldAddrA, partA, fieldA, indexA, appendA, copyA, builtinA, AV.cells, AV.scal, chunk, gcH, reach, keysT, keepK, inKs, AV.keys, AV.keysL, Ty.isAgg, eq1, eqL, convA.go, ltI, w_u8, w_u32, w_u64, w_i64, w_fdiv, w_tdiv, w_tmod, IntKind.bits, unA, c32, c16, c8, f8, m, w1, w2, tg, -indexA]
theorem len010 (w : Int) (h0 : 0 ≤ w) (c32 : ¬ 4294967296 ≤ w) (c16 : 65536 ≤ w) (c8 : ¬ 256 ≤ w / 65536) (hy : w / 65536 < 256) : Con E 5 49 [.int .u64 w] (.int .i64 (16 + len8 (w / 65536))) := by
  refine .of (g := []) rfl ?_
  rw [aCall_fn rfl (E_fn49) rfl (Nat.le_of_ble_eq_true rfl) rfl rfl, body_49, c49]
  have f16 : (w).fdiv 65536 = w / 65536 := by rw [Int.fdiv_eq_ediv_of_nonneg _ (by decide)]
  have y0 : 0 ≤ w / 65536 := by omega
  have tg := tab_get (w / 65536) y0 hy
  unfold tab at tg
  have l := len8_lt (w / 65536)
  have w1 := w64 (len8 (w / 65536)) l.1 (by omega)
  have w2 := w64 (16 + len8 (w / 65536)) (by omega) (by omega)
  have m : (w / 65536) % 256 = w / 65536 := Int.emod_eq_of_lt y0 hy
  have z : 0 + len8 (w / 65536) = len8 (w / 65536) := by omega
  simp [↓s_seq, ↓s_reg, ↓s_regd, ↓s_cond, ↓s_block, ↓s_cons, ↓s_consG, s_nil, s_loop, s_round, s_lpn, s_lpe, s_lpr, firstReg, s_gt, s_gf, s_wb, s_wu, s_val, s_valN, s_skip, s_calls, s_callP, s_cax, lookR, flatR, pureKs, s_ret, s_rgx, s_sqn, s_sqr, s_sqe, s_cdb, s_bkn, s_bkr, s_bke, s_exit, s_ret', s_skip', s_finr, s_finn, s_fin1, s_fix, s_clean, s_gc0, o_tmp, o_int, o_bool, o_nil, o_str, o_fn, o_nil', l_hit, l_miss, l_nil, ol_nil, ol_cons, ol_some, x_move, x_assign, x_pick, pk_t, pk_f, x_bin, bn_s, x_un, x_extract, x_callF, cl_no, x_callB, x_conv, cvx, convA, frame0, binA, intOp, resL, resA, results1, sealA, sealLW, AV.pure, AV.pureL, keepT, x_alloc, x_box, bxx, x_build, bdx, x_buildSlice, bsx, x_buildSliceF, bsf, x_load, ldx, x_store, stx, x_slice, slx, x_fieldAddr, x_field, x_index, ixx, x_indexAddr, iax, x_makeSlice, msx, x_nilCheck, newK, genOf, setK, lookK, fillA, writeL, writeC, readC, conts, TyI.mk1, sliceA, boundsA, boundsB, fitsA, numA, indexAddrA, fieldAddrA, partA, fieldA, indexA, appendA, copyA, builtinA, AV.cells, AV.scal, chunk, gcH, reach, keysT, keepK, inKs, AV.keys, AV.keysL, Ty.isAgg, eq1, eqL, convA.go, ltI, w_u8, w_u32, w_u64, w_i64, w_fdiv, w_tdiv, w_tmod, IntKind.bits, unA, c32, c16, f16, c8, m, w1, w2, tg, -indexA]
theorem len011 (w : Int) (h0 : 0 ≤ w) (c32 : ¬ 4294967296 ≤ w) (c16 : 65536 ≤ w) (c8 : 256 ≤ w / 65536) (hy : w / 16777216 < 256) : Con E 5 49 [.int .u64 w] (.int .i64 (24 + len8 (w / 16777216))) := by
  refine .of (g := []) rfl ?_
  rw [aCall_fn rfl (E_fn49) rfl (Nat.le_of_ble_eq_true rfl) rfl rfl, body_49, c49]
  have f16 : (w).fdiv 65536 = w / 65536 := by rw [Int.fdiv_eq_ediv_of_nonneg _ (by decide)]
  have f8 : (w / 65536).fdiv 256 = w / 16777216 := by rw [Int.fdiv_eq_ediv_of_nonneg _ (by decide)]; rw [Int.ediv_ediv_of_nonneg (by decide)]; rfl
  have g8 : w / 65536 / 256 = w / 16777216 := by rw [Int.ediv_ediv_of_nonneg (by decide)]; rfl
  have y0 : 0 ≤ w / 16777216 := by omega
  have tg := tab_get (w / 16777216) y0 hy
  unfold tab at tg
  have l := len8_lt (w / 16777216)
  have w1 := w64 (len8 (w / 16777216)) l.1 (by omega)
  have w2 := w64 (24 + len8 (w / 16777216)) (by omega) (by omega)
  have m : (w / 16777216) % 256 = w / 16777216 := Int.emod_eq_of_lt y0 hy
  have z : 0 + len8 (w / 16777216) = len8 (w / 16777216) := by omega
  simp [↓s_seq, ↓s_reg, ↓s_regd, ↓s_cond, ↓s_block, ↓s_cons, ↓s_consG, s_nil, s_loop, s_round, s_lpn, s_lpe, s_lpr, firstReg, s_gt, s_gf, s_wb, s_wu, s_val, s_valN, s_skip, s_calls, s_callP, s_cax, lookR, flatR, pureKs, s_ret, s_rgx, s_sqn, s_sqr, s_sqe, s_cdb, s_bkn, s_bkr, s_bke, s_exit, s_ret', s_skip', s_finr, s_finn, s_fin1, s_fix, s_clean, s_gc0, o_tmp, o_int, o_bool, o_nil, o_str, o_fn, o_nil', l_hit, l_miss, l_nil, ol_nil, ol_cons, ol_some, x_move, x_assign, x_pick, pk_t, pk_f, x_bin, bn_s, x_un, x_extract, x_callF, cl_no, x_callB, x_conv, cvx, convA, frame0, binA, intOp, resL, resA, results1, sealA, sealLW, AV.pure, AV.pureL, keepT, x_alloc, x_box, bxx, x_build, bdx, x_buildSlice, bsx, x_buildSliceF, bsf, x_load, ldx, x_store, stx, x_slice, slx, x_fieldAddr, x_field, x_index, ixx, x_indexAddr, iax, x_makeSlice, msx, x_nilCheck, newK, genOf, setK, lookK, fillA, writeL, writeC, readC, conts, TyI.mk1, sliceA, boundsA, boundsB, fitsA, numA, indexAddrA, fieldAddrA, partA, fieldA, indexA, appendA, copyA, builtinA, AV.cells, AV.scal, chunk, gcH, reach, keysT, keepK, inKs, AV.keys, AV.keysL, Ty.isAgg, eq1, eqL, convA.go, ltI, w_u8, w_u32, w_u64, w_i64, w_fdiv, w_tdiv, w_tmod, IntKind.bits, unA, c32, c16, f16, c8, f8, g8, m, w1, w2, tg, -indexA]
theorem len100 (w : Int) (h0 : 0 ≤ w) (c32 : 4294967296 ≤ w) (c16 : ¬ 65536 ≤ w / 4294967296) (c8 : ¬ 256 ≤ w / 4294967296) (hy : w / 4294967296 < 256) : Con E 5 49 [.int .u64 w] (.int .i64 (32 + len8 (w / 4294967296))) := by
  refine .of (g := []) rfl ?_
  rw [aCall_fn rfl (E_fn49) rfl (Nat.le_of_ble_eq_true rfl) rfl rfl, body_49, c49]
  have f32 : (w).fdiv 4294967296 = w / 4294967296 := by rw [Int.fdiv_eq_ediv_of_nonneg _ (by decide)]
  have y0 : 0 ≤ w / 4294967296 := by omega
  have tg := tab_get (w / 4294967296) y0 hy
  unfold tab at tg
  have l := len8_lt (w / 4294967296)
  have w1 := w64 (len8 (w / 4294967296)) l.1 (by omega)
  have w2 := w64 (32 + len8 (w / 4294967296)) (by omega) (by omega)
  have m : (w / 4294967296) % 256 = w / 4294967296 := Int.emod_eq_of_lt y0 hy
  have z : 0 + len8 (w / 4294967296) = len8 (w / 4294967296) := by omega
  simp [↓s_seq, ↓s_reg, ↓s_regd, ↓s_cond, ↓s_block, ↓s_cons, ↓s_consG, s_nil, s_loop, s_round, s_lpn, s_lpe, s_lpr, firstReg, s_gt, s_gf, s_wb, s_wu, s_val, s_valN, s_skip, s_calls, s_callP, s_cax, lookR, flatR, pureKs, s_ret, s_rgx, s_sqn, s_sqr, s_sqe, s_cdb, s_bkn, s_bkr, s_bke, s_exit, s_ret', s_skip', s_finr, s_finn, s_fin1, s_fix, s_clean, s_gc0, o_tmp, o_int, o_bool, o_nil, o_str, o_fn, o_nil', l_hit, l_miss, l_nil, ol_nil, ol_cons, ol_some, x_move, x_assign, x_pick, pk_t, pk_f, x_bin, bn_s, x_un, x_extract, x_callF, cl_no, x_callB, x_conv, cvx, convA, frame0, binA, intOp, resL, resA, results1, sealA, sealLW, AV.pure, AV.pureL, keepT, x_alloc, x_box, bxx, x_build, bdx, x_buildSlice, bsx, x_buildSliceF, bsf, x_load, ldx, x_store, stx, x_slice, slx, x_fieldAddr, x_field, x_index, ixx, x_indexAddr, iax, x_makeSlice, msx, x_nilCheck, newK, genOf, setK, lookK, fillA, writeL, writeC, readC, conts, TyI.mk1, sliceA, boundsA, boundsB, fitsA, numA, indexAddrA, fieldAddrA, partA, fieldA, indexA, appendA, copyA, builtinA, AV.cells, AV.scal, chunk, gcH, reach, keysT, keepK, inKs, AV.keys, AV.keysL, Ty.isAgg, eq1, eqL, convA.go, ltI, w_u8, w_u32, w_u64, w_i64, w_fdiv, w_tdiv, w_tmod, IntKind.bits, unA, c32, f32, c16, c8, m, w1, w2, tg, -indexA]
theorem len101 (w : Int) (h0 : 0 ≤ w) (c32 : 4294967296 ≤ w) (c16 : ¬ 65536 ≤ w / 4294967296) (c8 : 256 ≤ w / 4294967296) (hy : w / 1099511627776 < 256) : Con E 5 49 [.int .u64 w] (.int .i64 (40 + len8 (w / 1099511627776))) := by
  refine .of (g := []) rfl ?_
  rw [aCall_fn rfl (E_fn49) rfl (Nat.le_of_ble_eq_true rfl) rfl rfl, body_49, c49]
  have f32 : (w).fdiv 4294967296 = w / 4294967296 := by rw [Int.fdiv_eq_ediv_of_nonneg _ (by decide)]
  have f8 : (w / 4294967296).fdiv 256 = w / 1099511627776 := by rw [Int.fdiv_eq_ediv_of_nonneg _ (by decide)]; rw [Int.ediv_ediv_of_nonneg (by decide)]; rfl
  have g8 : w / 4294967296 / 256 = w / 1099511627776 := by rw [Int.ediv_ediv_of_nonneg (by decide)]; rfl
  have y0 : 0 ≤ w / 1099511627776 := by omega
  have tg := tab_get (w / 1099511627776) y0 hy
  unfold tab at tg
  have l := len8_lt (w / 1099511627776)
  have w1 := w64 (len8 (w / 1099511627776)) l.1 (by omega)
  have w2 := w64 (40 + len8 (w / 1099511627776)) (by omega) (by omega)
  have m : (w / 1099511627776) % 256 = w / 1099511627776 := Int.emod_eq_of_lt y0 hy
  have z : 0 + len8 (w / 1099511627776) = len8 (w / 1099511627776) := by omega
  simp [↓s_seq, ↓s_reg, ↓s_regd, ↓s_cond, ↓s_block, ↓s_cons, ↓s_consG, s_nil, s_loop, s_round, s_lpn, s_lpe, s_lpr, firstReg, s_gt, s_gf, s_wb, s_wu, s_val, s_valN, s_skip, s_calls, s_callP, s_cax, lookR, flatR, pureKs, s_ret, s_rgx, s_sqn, s_sqr, s_sqe, s_cdb, s_bkn, s_bkr, s_bke, s_exit, s_ret', s_skip', s_finr, s_finn, s_fin1, s_fix, s_clean, s_gc0, o_tmp, o_int, o_bool, o_nil, o_str, o_fn, o_nil', l_hit, l_miss, l_nil, ol_nil, ol_cons, ol_some, x_move, x_assign, x_pick, pk_t, pk_f, x_bin, bn_s, x_un, x_extract, x_callF, cl_no, x_callB, x_conv, cvx, convA, frame0, binA, intOp, resL, resA, results1, sealA, sealLW, AV.pure, AV.pureL, keepT, x_alloc, x_box, bxx, x_build, bdx, x_buildSlice, bsx, x_buildSliceF, bsf, x_load, ldx, x_store, stx, x_slice, slx, x_fieldAddr, x_field, x_index, ixx, x_indexAddr, iax, x_makeSlice, msx, x_nilCheck, newK, genOf, setK, lookK, fillA, writeL, writeC, readC, conts, TyI.mk1, sliceA, boundsA, boundsB, fitsA, numA, indexAddrA, fieldAddrA, partA, fieldA, indexA, appendA, copyA, builtinA, AV.cells, AV.scal, chunk, gcH, reach, keysT, keepK, inKs, AV.keys, AV.keysL, Ty.isAgg, eq1, eqL, convA.go, ltI, w_u8, w_u32, w_u64, w_i64, w_fdiv, w_tdiv, w_tmod, IntKind.bits, unA, c32, f32, c16, c8, f8, g8, m, w1, w2, tg, -indexA]
theorem len110 (w : Int) (h0 : 0 ≤ w) (c32 : 4294967296 ≤ w) (c16 : 65536 ≤ w / 4294967296) (c8 : ¬ 256 ≤ w / 281474976710656) (hy : w / 281474976710656 < 256) : Con E 5 49 [.int .u64 w] (.int .i64 (48 + len8 (w / 281474976710656))) := by
  refine .of (g := []) rfl ?_
  rw [aCall_fn rfl (E_fn49) rfl (Nat.le_of_ble_eq_true rfl) rfl rfl, body_49, c49]
  have f32 : (w).fdiv 4294967296 = w / 4294967296 := by rw [Int.fdiv_eq_ediv_of_nonneg _ (by decide)]
  have f16 : (w / 4294967296).fdiv 65536 = w / 281474976710656 := by rw [Int.fdiv_eq_ediv_of_nonneg _ (by decide)]; rw [Int.ediv_ediv_of_nonneg (by decide)]; rfl
  have g16 : w / 4294967296 / 65536 = w / 281474976710656 := by rw [Int.ediv_ediv_of_nonneg (by decide)]; rfl
  have y0 : 0 ≤ w / 281474976710656 := by omega
  have tg := tab_get (w / 281474976710656) y0 hy
  unfold tab at tg
  have l := len8_lt (w / 281474976710656)
  have w1 := w64 (len8 (w / 281474976710656)) l.1 (by omega)
  have w2 := w64 (48 + len8 (w / 281474976710656)) (by omega) (by omega)
  have m : (w / 281474976710656) % 256 = w / 281474976710656 := Int.emod_eq_of_lt y0 hy
  have z : 0 + len8 (w / 281474976710656) = len8 (w / 281474976710656) := by omega
  simp [↓s_seq, ↓s_reg, ↓s_regd, ↓s_cond, ↓s_block, ↓s_cons, ↓s_consG, s_nil, s_loop, s_round, s_lpn, s_lpe, s_lpr, firstReg, s_gt, s_gf, s_wb, s_wu, s_val, s_valN, s_skip, s_calls, s_callP, s_cax, lookR, flatR, pureKs, s_ret, s_rgx, s_sqn, s_sqr, s_sqe, s_cdb, s_bkn, s_bkr, s_bke, s_exit, s_ret', s_skip', s_finr, s_finn, s_fin1, s_fix, s_clean, s_gc0, o_tmp, o_int, o_bool, o_nil, o_str, o_fn, o_nil', l_hit, l_miss, l_nil, ol_nil, ol_cons, ol_some, x_move, x_assign, x_pick, pk_t, pk_f, x_bin, bn_s, x_un, x_extract, x_callF, cl_no, x_callB, x_conv, cvx, convA, frame0, binA, intOp, resL, resA, results1, sealA, sealLW, AV.pure, AV.pureL, keepT, x_alloc, x_box, bxx, x_build, bdx, x_buildSlice, bsx, x_buildSliceF, bsf, x_load, ldx, x_store, stx, x_slice, slx, x_fieldAddr, x_field, x_index, ixx, x_indexAddr, iax, x_makeSlice, msx, x_nilCheck, newK, genOf, setK, lookK, fillA, writeL, writeC, readC, conts, TyI.mk1, sliceA, boundsA, boundsB, fitsA, numA, indexAddrA, fieldAddrA, partA, fieldA, indexA, appendA, copyA, builtinA, AV.cells, AV.scal, chunk, gcH, reach, keysT, keepK, inKs, AV.keys, AV.keysL, Ty.isAgg, eq1, eqL, convA.go, ltI, w_u8, w_u32, w_u64, w_i64, w_fdiv, w_tdiv, w_tmod, IntKind.bits, unA, c32, f32, c16, f16, g16, c8, m, w1, w2, tg, -indexA]
theorem len111 (w : Int) (h0 : 0 ≤ w) (c32 : 4294967296 ≤ w) (c16 : 65536 ≤ w / 4294967296) (c8 : 256 ≤ w / 281474976710656) (hy : w / 72057594037927936 < 256) : Con E 5 49 [.int .u64 w] (.int .i64 (56 + len8 (w / 72057594037927936))) := by
  refine .of (g := []) rfl ?_
  rw [aCall_fn rfl (E_fn49) rfl (Nat.le_of_ble_eq_true rfl) rfl rfl, body_49, c49]
  have f32 : (w).fdiv 4294967296 = w / 4294967296 := by rw [Int.fdiv_eq_ediv_of_nonneg _ (by decide)]
  have f16 : (w / 4294967296).fdiv 65536 = w / 281474976710656 := by rw [Int.fdiv_eq_ediv_of_nonneg _ (by decide)]; rw [Int.ediv_ediv_of_nonneg (by decide)]; rfl
  have g16 : w / 4294967296 / 65536 = w / 281474976710656 := by rw [Int.ediv_ediv_of_nonneg (by decide)]; rfl
  have f8 : (w / 281474976710656).fdiv 256 = w / 72057594037927936 := by rw [Int.fdiv_eq_ediv_of_nonneg _ (by decide)]; rw [Int.ediv_ediv_of_nonneg (by decide)]; rfl
  have g8 : w / 281474976710656 / 256 = w / 72057594037927936 := by rw [Int.ediv_ediv_of_nonneg (by decide)]; rfl
  have y0 : 0 ≤ w / 72057594037927936 := by omega
  have tg := tab_get (w / 72057594037927936) y0 hy
  unfold tab at tg
  have l := len8_lt (w / 72057594037927936)
  have w1 := w64 (len8 (w / 72057594037927936)) l.1 (by omega)
  have w2 := w64 (56 + len8 (w / 72057594037927936)) (by omega) (by omega)
  have m : (w / 72057594037927936) % 256 = w / 72057594037927936 := Int.emod_eq_of_lt y0 hy
  have z : 0 + len8 (w / 72057594037927936) = len8 (w / 72057594037927936) := by omega
  simp [↓s_seq, ↓s_reg, ↓s_regd, ↓s_cond, ↓s_block, ↓s_cons, ↓s_consG, s_nil, s_loop, s_round, s_lpn, s_lpe, s_lpr, firstReg, s_gt, s_gf, s_wb, s_wu, s_val, s_valN, s_skip, s_calls, s_callP, s_cax, lookR, flatR, pureKs, s_ret, s_rgx, s_sqn, s_sqr, s_sqe, s_cdb, s_bkn, s_bkr, s_bke, s_exit, s_ret', s_skip', s_finr, s_finn, s_fin1, s_fix, s_clean, s_gc0, o_tmp, o_int, o_bool, o_nil, o_str, o_fn, o_nil', l_hit, l_miss, l_nil, ol_nil, ol_cons, ol_some, x_move, x_assign, x_pick, pk_t, pk_f, x_bin, bn_s, x_un, x_extract, x_callF, cl_no, x_callB, x_conv, cvx, convA, frame0, binA, intOp, resL, resA, results1, sealA, sealLW, AV.pure, AV.pureL, keepT, x_alloc, x_box, bxx, x_build, bdx, x_buildSlice, bsx, x_buildSliceF, bsf, x_load, ldx, x_store, stx, x_slice, slx, x_fieldAddr, x_field, x_index, ixx, x_indexAddr, iax, x_makeSlice, msx, x_nilCheck, newK, genOf, setK, lookK, fillA, writeL, writeC, readC, conts, TyI.mk1, sliceA, boundsA, boundsB, fitsA, numA, indexAddrA, fieldAddrA, partA, fieldA, indexA, appendA, copyA, builtinA, AV.cells, AV.scal, chunk, gcH, reach, keysT, keepK, inKs, AV.keys, AV.keysL, Ty.isAgg, eq1, eqL, convA.go, ltI, w_u8, w_u32, w_u64, w_i64, w_fdiv, w_tdiv, w_tmod, IntKind.bits, unA, c32, f32, c16, f16, g16, c8, f8, g8, m, w1, w2, tg, -indexA]
end T19
