/- elements.Put, Check, Size, Count and Depth at the evaluator. No conditions. -/
import Derived.Test.YtbiildmljbcmeaaE9
open Ab Go TabE Sp E8
set_option maxRecDepth 20000
set_option linter.unusedSimpArgs false
set_option linter.unusedVariables false
set_option maxHeartbeats 8000000
namespace E10
theorem check (e : El) (he : e.ok) : ∃ N, Con E N 32 [e.av] (.int .i64 (chk e.core 1 0 0).1) := by
  obtain ⟨N, M⟩ := E5.measure e he
  have e1 : (E5.meas e).1 = (chk e.core 1 0 0).1 := by unfold E5.meas; split <;> simp_all
  rw [e1] at M
  have M' := M (N + 10) (by omega) 0
  rw [El.av_eq] at M'
  refine ⟨N + 10 + 1, con_of E_fn32 (by simp [AV.pureL, El.av_pure]) (Nat.le_of_ble_eq_true rfl) rfl rfl (g := []) ?_⟩
  rw [body_32, c32]
  simp [El.av_eq, ↓s_seq, ↓s_reg, ↓s_regd, ↓s_cond, ↓s_block, ↓s_cons, ↓s_consG, s_nil, s_loop, s_round, s_lpn, s_lpe, s_lpr, firstReg, s_gt, s_gf, s_wb, s_wu, s_val, s_valN, s_skip, s_calls, s_callP, s_cax, lookR, flatR, pureKs, s_ret, s_rgx, s_sqn, s_sqr, s_sqe, s_cdb, s_bkn, s_bkr, s_bke, s_exit, s_ret', s_skip', s_finr, s_finn, s_fin1, s_fix, s_clean, s_gc0, o_tmp, o_int, o_bool, o_nil, o_str, o_fn, o_nil', l_hit, l_miss, l_nil, ol_nil, ol_cons, ol_some, x_move, x_assign, x_pick, pk_t, pk_f, x_bin, bn_s, x_un, x_extract, x_callF, cl_no, x_callB, x_callBF, frzV, x_conv, cvx, convA, frame0, binA, intOp, resL, resA, results1, sealLW, AV.pure, AV.pureL, keepT, x_alloc, x_box, bxx, x_build, bdx, x_buildSlice, bsx, x_buildSliceF, bsf, x_load, ldx, x_store, stx, x_slice, slx, x_fieldAddr, x_field, x_index, ixx, x_indexAddr, iax, x_makeSlice, msx, x_nilCheck, newK, genOf, setK, lookK, fillA, writeL, writeC, readC, conts, TyI.mk1, sliceA, boundsA, boundsB, fitsA, numA, indexAddrA, fieldAddrA, partA, fieldA, indexA, appendA, copyA, builtinA, AV.cells, chunk, gcH, reach, keysT, keepK, inKs, AV.keys, AV.keysL, Ty.isAgg, eq1, eqL, convA.go, ltI, w_u8, w_u32, w_u64, w_i64, w_fdiv, w_tdiv, w_tmod, IntKind.bits, unA, sc_int, sc_bool, sc_str, sc_sl, sc_ref, sc_ptr, sc_pel, sc_nilp, sc_fn, sc_nilf, sc_if, sc_nili, sc_agg, sc_tup, sc_mem, bs_pure, bs_kl, bs_length, bs_cells, bs_all, sl_row, sealRow, sealY, sl_int, sl_bool, sl_str, sl_sl, sl_nilp, sl_nilf, sl_nili, sl_pel, sl_agg, sl_tup, sl_fn, sl_if, nat_1, bs_cons, bs_nil, i_beq, i_bne, x_mkF, x_mkI, x_tassert, x_panic, s_pan, s_sqp, s_bkp, s_finp, s_fixp, s_lpp, s_rgp, s_retp, s_site, s_stxN, s_stxO, x_callT, clx, El.avs_len, M']
theorem count (e : El) (he : e.ok) : ∃ N, Con E N 29 [e.av] (.int .i64 (E5.meas e).2.1) := by
  obtain ⟨N, M⟩ := E5.measure e he
  have M' := M (N + 10) (by omega) 0
  rw [El.av_eq] at M'
  refine ⟨N + 10 + 1, con_of E_fn29 (by simp [AV.pureL, El.av_pure]) (Nat.le_of_ble_eq_true rfl) rfl rfl (g := []) ?_⟩
  rw [body_29, c29]
  simp [El.av_eq, ↓s_seq, ↓s_reg, ↓s_regd, ↓s_cond, ↓s_block, ↓s_cons, ↓s_consG, s_nil, s_loop, s_round, s_lpn, s_lpe, s_lpr, firstReg, s_gt, s_gf, s_wb, s_wu, s_val, s_valN, s_skip, s_calls, s_callP, s_cax, lookR, flatR, pureKs, s_ret, s_rgx, s_sqn, s_sqr, s_sqe, s_cdb, s_bkn, s_bkr, s_bke, s_exit, s_ret', s_skip', s_finr, s_finn, s_fin1, s_fix, s_clean, s_gc0, o_tmp, o_int, o_bool, o_nil, o_str, o_fn, o_nil', l_hit, l_miss, l_nil, ol_nil, ol_cons, ol_some, x_move, x_assign, x_pick, pk_t, pk_f, x_bin, bn_s, x_un, x_extract, x_callF, cl_no, x_callB, x_callBF, frzV, x_conv, cvx, convA, frame0, binA, intOp, resL, resA, results1, sealLW, AV.pure, AV.pureL, keepT, x_alloc, x_box, bxx, x_build, bdx, x_buildSlice, bsx, x_buildSliceF, bsf, x_load, ldx, x_store, stx, x_slice, slx, x_fieldAddr, x_field, x_index, ixx, x_indexAddr, iax, x_makeSlice, msx, x_nilCheck, newK, genOf, setK, lookK, fillA, writeL, writeC, readC, conts, TyI.mk1, sliceA, boundsA, boundsB, fitsA, numA, indexAddrA, fieldAddrA, partA, fieldA, indexA, appendA, copyA, builtinA, AV.cells, chunk, gcH, reach, keysT, keepK, inKs, AV.keys, AV.keysL, Ty.isAgg, eq1, eqL, convA.go, ltI, w_u8, w_u32, w_u64, w_i64, w_fdiv, w_tdiv, w_tmod, IntKind.bits, unA, sc_int, sc_bool, sc_str, sc_sl, sc_ref, sc_ptr, sc_pel, sc_nilp, sc_fn, sc_nilf, sc_if, sc_nili, sc_agg, sc_tup, sc_mem, bs_pure, bs_kl, bs_length, bs_cells, bs_all, sl_row, sealRow, sealY, sl_int, sl_bool, sl_str, sl_sl, sl_nilp, sl_nilf, sl_nili, sl_pel, sl_agg, sl_tup, sl_fn, sl_if, nat_1, bs_cons, bs_nil, i_beq, i_bne, x_mkF, x_mkI, x_tassert, x_panic, s_pan, s_sqp, s_bkp, s_finp, s_fixp, s_lpp, s_rgp, s_retp, s_site, s_stxN, s_stxO, x_callT, clx, El.avs_len, M']
theorem depth (e : El) (he : e.ok) : ∃ N, Con E N 30 [e.av] (.int .i64 (E5.meas e).2.2) := by
  obtain ⟨N, M⟩ := E5.measure e he
  have M' := M (N + 10) (by omega) 0
  rw [El.av_eq] at M'
  refine ⟨N + 10 + 1, con_of E_fn30 (by simp [AV.pureL, El.av_pure]) (Nat.le_of_ble_eq_true rfl) rfl rfl (g := []) ?_⟩
  rw [body_30, c30]
  simp [El.av_eq, ↓s_seq, ↓s_reg, ↓s_regd, ↓s_cond, ↓s_block, ↓s_cons, ↓s_consG, s_nil, s_loop, s_round, s_lpn, s_lpe, s_lpr, firstReg, s_gt, s_gf, s_wb, s_wu, s_val, s_valN, s_skip, s_calls, s_callP, s_cax, lookR, flatR, pureKs, s_ret, s_rgx, s_sqn, s_sqr, s_sqe, s_cdb, s_bkn, s_bkr, s_bke, s_exit, s_ret', s_skip', s_finr, s_finn, s_fin1, s_fix, s_clean, s_gc0, o_tmp, o_int, o_bool, o_nil, o_str, o_fn, o_nil', l_hit, l_miss, l_nil, ol_nil, ol_cons, ol_some, x_move, x_assign, x_pick, pk_t, pk_f, x_bin, bn_s, x_un, x_extract, x_callF, cl_no, x_callB, x_callBF, frzV, x_conv, cvx, convA, frame0, binA, intOp, resL, resA, results1, sealLW, AV.pure, AV.pureL, keepT, x_alloc, x_box, bxx, x_build, bdx, x_buildSlice, bsx, x_buildSliceF, bsf, x_load, ldx, x_store, stx, x_slice, slx, x_fieldAddr, x_field, x_index, ixx, x_indexAddr, iax, x_makeSlice, msx, x_nilCheck, newK, genOf, setK, lookK, fillA, writeL, writeC, readC, conts, TyI.mk1, sliceA, boundsA, boundsB, fitsA, numA, indexAddrA, fieldAddrA, partA, fieldA, indexA, appendA, copyA, builtinA, AV.cells, chunk, gcH, reach, keysT, keepK, inKs, AV.keys, AV.keysL, Ty.isAgg, eq1, eqL, convA.go, ltI, w_u8, w_u32, w_u64, w_i64, w_fdiv, w_tdiv, w_tmod, IntKind.bits, unA, sc_int, sc_bool, sc_str, sc_sl, sc_ref, sc_ptr, sc_pel, sc_nilp, sc_fn, sc_nilf, sc_if, sc_nili, sc_agg, sc_tup, sc_mem, bs_pure, bs_kl, bs_length, bs_cells, bs_all, sl_row, sealRow, sealY, sl_int, sl_bool, sl_str, sl_sl, sl_nilp, sl_nilf, sl_nili, sl_pel, sl_agg, sl_tup, sl_fn, sl_if, nat_1, bs_cons, bs_nil, i_beq, i_bne, x_mkF, x_mkI, x_tassert, x_panic, s_pan, s_sqp, s_bkp, s_finp, s_fixp, s_lpp, s_rgp, s_retp, s_site, s_stxN, s_stxO, x_callT, clx, El.avs_len, M']
theorem size_bad (e : El) (he : e.ok) (h : (chk e.core 1 0 0).1 ≠ 0) : ∃ N, Con E N 28 [e.av] (.int .i64 0) := by
  obtain ⟨N, C⟩ := check e he
  have C' := C (N + 10) (by omega) 0
  rw [El.av_eq] at C'
  refine ⟨N + 10 + 1, con_of E_fn28 (by simp [AV.pureL, El.av_pure]) (Nat.le_of_ble_eq_true rfl) rfl rfl (g := []) ?_⟩
  rw [body_28, c28]
  simp [El.av_eq, ↓s_seq, ↓s_reg, ↓s_regd, ↓s_cond, ↓s_block, ↓s_cons, ↓s_consG, s_nil, s_loop, s_round, s_lpn, s_lpe, s_lpr, firstReg, s_gt, s_gf, s_wb, s_wu, s_val, s_valN, s_skip, s_calls, s_callP, s_cax, lookR, flatR, pureKs, s_ret, s_rgx, s_sqn, s_sqr, s_sqe, s_cdb, s_bkn, s_bkr, s_bke, s_exit, s_ret', s_skip', s_finr, s_finn, s_fin1, s_fix, s_clean, s_gc0, o_tmp, o_int, o_bool, o_nil, o_str, o_fn, o_nil', l_hit, l_miss, l_nil, ol_nil, ol_cons, ol_some, x_move, x_assign, x_pick, pk_t, pk_f, x_bin, bn_s, x_un, x_extract, x_callF, cl_no, x_callB, x_callBF, frzV, x_conv, cvx, convA, frame0, binA, intOp, resL, resA, results1, sealLW, AV.pure, AV.pureL, keepT, x_alloc, x_box, bxx, x_build, bdx, x_buildSlice, bsx, x_buildSliceF, bsf, x_load, ldx, x_store, stx, x_slice, slx, x_fieldAddr, x_field, x_index, ixx, x_indexAddr, iax, x_makeSlice, msx, x_nilCheck, newK, genOf, setK, lookK, fillA, writeL, writeC, readC, conts, TyI.mk1, sliceA, boundsA, boundsB, fitsA, numA, indexAddrA, fieldAddrA, partA, fieldA, indexA, appendA, copyA, builtinA, AV.cells, chunk, gcH, reach, keysT, keepK, inKs, AV.keys, AV.keysL, Ty.isAgg, eq1, eqL, convA.go, ltI, w_u8, w_u32, w_u64, w_i64, w_fdiv, w_tdiv, w_tmod, IntKind.bits, unA, sc_int, sc_bool, sc_str, sc_sl, sc_ref, sc_ptr, sc_pel, sc_nilp, sc_fn, sc_nilf, sc_if, sc_nili, sc_agg, sc_tup, sc_mem, bs_pure, bs_kl, bs_length, bs_cells, bs_all, sl_row, sealRow, sealY, sl_int, sl_bool, sl_str, sl_sl, sl_nilp, sl_nilf, sl_nili, sl_pel, sl_agg, sl_tup, sl_fn, sl_if, nat_1, bs_cons, bs_nil, i_beq, i_bne, x_mkF, x_mkI, x_tassert, x_panic, s_pan, s_sqp, s_bkp, s_finp, s_fixp, s_lpp, s_rgp, s_retp, s_site, s_stxN, s_stxO, x_callT, clx, El.avs_len, C', h]
theorem size_ok (e : El) (he : e.ok) (hs : e.sm) (h : (chk e.core 1 0 0).1 = 0) : ∃ N, Con E N 28 [e.av] (.int .i64 (if (enc e.core).length ≤ 1048576 then ((enc e.core).length : Int) else 0)) := by
  obtain ⟨N, C⟩ := check e he
  obtain ⟨M, r, S, s1, s2, s3, s4⟩ := E7.size e he hs (vld_of _ _ _ _ h)
  rw [h] at C
  have C' := C (N + M + 10) (by omega) 0
  have S' := S (N + M + 10) (by omega) 0
  rw [El.av_eq] at C' S'
  refine ⟨N + M + 10 + 1, con_of E_fn28 (by simp [AV.pureL, El.av_pure]) (Nat.le_of_ble_eq_true rfl) rfl rfl (g := []) ?_⟩
  rw [body_28, c28]
  by_cases q : (enc e.core).length ≤ 1048576
  · have := s3 (by omega)
    subst this
    have q2 : ¬ (1048576 < ((enc e.core).length : Int)) := by omega
    have q3 : ¬ (1048576 < (enc e.core).length) := by omega
    simp [El.av_eq, ↓s_seq, ↓s_reg, ↓s_regd, ↓s_cond, ↓s_block, ↓s_cons, ↓s_consG, s_nil, s_loop, s_round, s_lpn, s_lpe, s_lpr, firstReg, s_gt, s_gf, s_wb, s_wu, s_val, s_valN, s_skip, s_calls, s_callP, s_cax, lookR, flatR, pureKs, s_ret, s_rgx, s_sqn, s_sqr, s_sqe, s_cdb, s_bkn, s_bkr, s_bke, s_exit, s_ret', s_skip', s_finr, s_finn, s_fin1, s_fix, s_clean, s_gc0, o_tmp, o_int, o_bool, o_nil, o_str, o_fn, o_nil', l_hit, l_miss, l_nil, ol_nil, ol_cons, ol_some, x_move, x_assign, x_pick, pk_t, pk_f, x_bin, bn_s, x_un, x_extract, x_callF, cl_no, x_callB, x_callBF, frzV, x_conv, cvx, convA, frame0, binA, intOp, resL, resA, results1, sealLW, AV.pure, AV.pureL, keepT, x_alloc, x_box, bxx, x_build, bdx, x_buildSlice, bsx, x_buildSliceF, bsf, x_load, ldx, x_store, stx, x_slice, slx, x_fieldAddr, x_field, x_index, ixx, x_indexAddr, iax, x_makeSlice, msx, x_nilCheck, newK, genOf, setK, lookK, fillA, writeL, writeC, readC, conts, TyI.mk1, sliceA, boundsA, boundsB, fitsA, numA, indexAddrA, fieldAddrA, partA, fieldA, indexA, appendA, copyA, builtinA, AV.cells, chunk, gcH, reach, keysT, keepK, inKs, AV.keys, AV.keysL, Ty.isAgg, eq1, eqL, convA.go, ltI, w_u8, w_u32, w_u64, w_i64, w_fdiv, w_tdiv, w_tmod, IntKind.bits, unA, sc_int, sc_bool, sc_str, sc_sl, sc_ref, sc_ptr, sc_pel, sc_nilp, sc_fn, sc_nilf, sc_if, sc_nili, sc_agg, sc_tup, sc_mem, bs_pure, bs_kl, bs_length, bs_cells, bs_all, sl_row, sealRow, sealY, sl_int, sl_bool, sl_str, sl_sl, sl_nilp, sl_nilf, sl_nili, sl_pel, sl_agg, sl_tup, sl_fn, sl_if, nat_1, bs_cons, bs_nil, i_beq, i_bne, x_mkF, x_mkI, x_tassert, x_panic, s_pan, s_sqp, s_bkp, s_finp, s_fixp, s_lpp, s_rgp, s_retp, s_site, s_stxN, s_stxO, x_callT, clx, El.avs_len, C', S', q, q2, q3]
  · have := s4 (by omega)
    simp [El.av_eq, ↓s_seq, ↓s_reg, ↓s_regd, ↓s_cond, ↓s_block, ↓s_cons, ↓s_consG, s_nil, s_loop, s_round, s_lpn, s_lpe, s_lpr, firstReg, s_gt, s_gf, s_wb, s_wu, s_val, s_valN, s_skip, s_calls, s_callP, s_cax, lookR, flatR, pureKs, s_ret, s_rgx, s_sqn, s_sqr, s_sqe, s_cdb, s_bkn, s_bkr, s_bke, s_exit, s_ret', s_skip', s_finr, s_finn, s_fin1, s_fix, s_clean, s_gc0, o_tmp, o_int, o_bool, o_nil, o_str, o_fn, o_nil', l_hit, l_miss, l_nil, ol_nil, ol_cons, ol_some, x_move, x_assign, x_pick, pk_t, pk_f, x_bin, bn_s, x_un, x_extract, x_callF, cl_no, x_callB, x_callBF, frzV, x_conv, cvx, convA, frame0, binA, intOp, resL, resA, results1, sealLW, AV.pure, AV.pureL, keepT, x_alloc, x_box, bxx, x_build, bdx, x_buildSlice, bsx, x_buildSliceF, bsf, x_load, ldx, x_store, stx, x_slice, slx, x_fieldAddr, x_field, x_index, ixx, x_indexAddr, iax, x_makeSlice, msx, x_nilCheck, newK, genOf, setK, lookK, fillA, writeL, writeC, readC, conts, TyI.mk1, sliceA, boundsA, boundsB, fitsA, numA, indexAddrA, fieldAddrA, partA, fieldA, indexA, appendA, copyA, builtinA, AV.cells, chunk, gcH, reach, keysT, keepK, inKs, AV.keys, AV.keysL, Ty.isAgg, eq1, eqL, convA.go, ltI, w_u8, w_u32, w_u64, w_i64, w_fdiv, w_tdiv, w_tmod, IntKind.bits, unA, sc_int, sc_bool, sc_str, sc_sl, sc_ref, sc_ptr, sc_pel, sc_nilp, sc_fn, sc_nilf, sc_if, sc_nili, sc_agg, sc_tup, sc_mem, bs_pure, bs_kl, bs_length, bs_cells, bs_all, sl_row, sealRow, sealY, sl_int, sl_bool, sl_str, sl_sl, sl_nilp, sl_nilf, sl_nili, sl_pel, sl_agg, sl_tup, sl_fn, sl_if, nat_1, bs_cons, bs_nil, i_beq, i_bne, x_mkF, x_mkI, x_tassert, x_panic, s_pan, s_sqp, s_bkp, s_finp, s_fixp, s_lpp, s_rgp, s_retp, s_site, s_stxN, s_stxO, x_callT, clx, El.avs_len, C', S', q, this]
theorem put_bad (e : El) (he : e.ok) (h : (chk e.core 1 0 0).1 ≠ 0) : ∃ N, Con E N 21 [e.av] (.tup [.sl true [] (some 0), .int .i64 (chk e.core 1 0 0).1]) := by
  obtain ⟨N, C⟩ := check e he
  have C' := C (N + 10) (by omega) 0
  rw [El.av_eq] at C'
  refine ⟨N + 10 + 1, con_ofO E_fn21 (by simp [AV.pureL, El.av_pure]) (Nat.le_of_ble_eq_true rfl) rfl (g := []) ?_⟩
  rw [body_21, c21]
  simp [El.av_eq, ↓s_seq, ↓s_reg, ↓s_regd, ↓s_cond, ↓s_block, ↓s_cons, ↓s_consG, s_nil, s_loop, s_round, s_lpn, s_lpe, s_lpr, firstReg, s_gt, s_gf, s_wb, s_wu, s_val, s_valN, s_skip, s_calls, s_callP, s_cax, lookR, flatR, pureKs, s_ret, s_rgx, s_sqn, s_sqr, s_sqe, s_cdb, s_bkn, s_bkr, s_bke, s_exit, s_ret', s_skip', s_finr, s_finn, s_fin1, s_fix, s_clean, s_gc0, o_tmp, o_int, o_bool, o_nil, o_str, o_fn, o_nil', l_hit, l_miss, l_nil, ol_nil, ol_cons, ol_some, x_move, x_assign, x_pick, pk_t, pk_f, x_bin, bn_s, x_un, x_extract, x_callF, cl_no, x_callB, x_callBF, frzV, x_conv, cvx, convA, frame0, binA, intOp, resL, resA, results1, sealLW, AV.pure, AV.pureL, keepT, x_alloc, x_box, bxx, x_build, bdx, x_buildSlice, bsx, x_buildSliceF, bsf, x_load, ldx, x_store, stx, x_slice, slx, x_fieldAddr, x_field, x_index, ixx, x_indexAddr, iax, x_makeSlice, msx, x_nilCheck, newK, genOf, setK, lookK, fillA, writeL, writeC, readC, conts, TyI.mk1, sliceA, boundsA, boundsB, fitsA, numA, indexAddrA, fieldAddrA, partA, fieldA, indexA, appendA, copyA, builtinA, AV.cells, chunk, gcH, reach, keysT, keepK, inKs, AV.keys, AV.keysL, Ty.isAgg, eq1, eqL, convA.go, ltI, w_u8, w_u32, w_u64, w_i64, w_fdiv, w_tdiv, w_tmod, IntKind.bits, unA, sc_int, sc_bool, sc_str, sc_sl, sc_ref, sc_ptr, sc_pel, sc_nilp, sc_fn, sc_nilf, sc_if, sc_nili, sc_agg, sc_tup, sc_mem, bs_pure, bs_kl, bs_length, bs_cells, bs_all, sl_row, sealRow, sealY, sl_int, sl_bool, sl_str, sl_sl, sl_nilp, sl_nilf, sl_nili, sl_pel, sl_agg, sl_tup, sl_fn, sl_if, nat_1, bs_cons, bs_nil, i_beq, i_bne, x_mkF, x_mkI, x_tassert, x_panic, s_pan, s_sqp, s_bkp, s_finp, s_fixp, s_lpp, s_rgp, s_retp, s_site, s_stxN, s_stxO, x_callT, clx, El.avs_len, C', h]
theorem put_big (e : El) (he : e.ok) (hs : e.sm) (h : (chk e.core 1 0 0).1 = 0) (hl : 1048576 < (enc e.core).length) : ∃ N, Con E N 21 [e.av] (.tup [.sl true [] (some 0), .int .i64 3]) := by
  obtain ⟨N, C⟩ := check e he
  obtain ⟨M, r, S, s1, s2, s3, s4⟩ := E7.size e he hs (vld_of _ _ _ _ h)
  rw [h] at C
  have C' := C (N + M + 10) (by omega) 0
  have S' := S (N + M + 10) (by omega) 0
  rw [El.av_eq] at C' S'
  have := s4 (by omega)
  refine ⟨N + M + 10 + 1, con_ofO E_fn21 (by simp [AV.pureL, El.av_pure]) (Nat.le_of_ble_eq_true rfl) rfl (g := []) ?_⟩
  rw [body_21, c21]
  simp [El.av_eq, ↓s_seq, ↓s_reg, ↓s_regd, ↓s_cond, ↓s_block, ↓s_cons, ↓s_consG, s_nil, s_loop, s_round, s_lpn, s_lpe, s_lpr, firstReg, s_gt, s_gf, s_wb, s_wu, s_val, s_valN, s_skip, s_calls, s_callP, s_cax, lookR, flatR, pureKs, s_ret, s_rgx, s_sqn, s_sqr, s_sqe, s_cdb, s_bkn, s_bkr, s_bke, s_exit, s_ret', s_skip', s_finr, s_finn, s_fin1, s_fix, s_clean, s_gc0, o_tmp, o_int, o_bool, o_nil, o_str, o_fn, o_nil', l_hit, l_miss, l_nil, ol_nil, ol_cons, ol_some, x_move, x_assign, x_pick, pk_t, pk_f, x_bin, bn_s, x_un, x_extract, x_callF, cl_no, x_callB, x_callBF, frzV, x_conv, cvx, convA, frame0, binA, intOp, resL, resA, results1, sealLW, AV.pure, AV.pureL, keepT, x_alloc, x_box, bxx, x_build, bdx, x_buildSlice, bsx, x_buildSliceF, bsf, x_load, ldx, x_store, stx, x_slice, slx, x_fieldAddr, x_field, x_index, ixx, x_indexAddr, iax, x_makeSlice, msx, x_nilCheck, newK, genOf, setK, lookK, fillA, writeL, writeC, readC, conts, TyI.mk1, sliceA, boundsA, boundsB, fitsA, numA, indexAddrA, fieldAddrA, partA, fieldA, indexA, appendA, copyA, builtinA, AV.cells, chunk, gcH, reach, keysT, keepK, inKs, AV.keys, AV.keysL, Ty.isAgg, eq1, eqL, convA.go, ltI, w_u8, w_u32, w_u64, w_i64, w_fdiv, w_tdiv, w_tmod, IntKind.bits, unA, sc_int, sc_bool, sc_str, sc_sl, sc_ref, sc_ptr, sc_pel, sc_nilp, sc_fn, sc_nilf, sc_if, sc_nili, sc_agg, sc_tup, sc_mem, bs_pure, bs_kl, bs_length, bs_cells, bs_all, sl_row, sealRow, sealY, sl_int, sl_bool, sl_str, sl_sl, sl_nilp, sl_nilf, sl_nili, sl_pel, sl_agg, sl_tup, sl_fn, sl_if, nat_1, bs_cons, bs_nil, i_beq, i_bne, x_mkF, x_mkI, x_tassert, x_panic, s_pan, s_sqp, s_bkp, s_finp, s_fixp, s_lpp, s_rgp, s_retp, s_site, s_stxN, s_stxO, x_callT, clx, El.avs_len, C', S', this]
theorem op_new {run : RunF} {slot : Nat} {cs ds : List AV} {n : Nat} {o o' : AObj} (hp : AV.pureL cs = true) (k1 : AV.keysL o.cells = []) (k2 : AV.keysL o'.cells = []) (r1 : ∀ φ, AV.rnL φ o.cells = o.cells) (r2 : ∀ φ, AV.rnL φ o'.cells = o'.cells)
    (hr : run 70 [.ref (0, 0, 0) 0 0 (some n), .agg cs] [((0, 0, 0), o)] = some (.ret (.ref (0, 0, 0) 0 n (some n)), [((0, 0, 0), o')])) :
    opened [true, false] false run slot 70 [.ref (1, 16, 0) 0 0 (some n), .agg cs] [((1, 1, 0), bx ds), ((1, 16, 0), o)] = some (.ret (.ref (1, 16, 0) 0 n (some n)), [((1, 1, 0), bx ds), ((1, 16, 0), o')]) := by
  have e1 : sealM (sealA 20) [true, false] [((1, 1, 0), bx ds), ((1, 16, 0), o)] [.ref (1, 16, 0) 0 0 (some n), .agg cs] = some ([.ref (1, 16, 0) 0 0 (some n), .agg cs], [((1, 1, 0), bx ds), ((1, 16, 0), o)]) := by
    simp [sealM, sl_agg, hp]
  have kc : AV.keysL cs = [] := AV.keysL_pure _ hp
  have rc : ∀ φ, AV.rnL φ cs = cs := fun φ => rnL_pure cs hp
  unfold opened
  rw [e1]
  have e2 : AV.keysL [.ref (1, 16, 0) 0 0 (some n), .agg cs] = [(1, 16, 0)] := by simp [AV.keysL, AV.keys, kc]
  simp only [e2]
  have e3 : dd (reach [((1, 1, 0), bx ds), ((1, 16, 0), o)] 3 [(1, 16, 0)]) = [(1, 16, 0)] := by simp [reach, lookK, k1, dd]
  rw [e3]
  unfold lendA
  have e4 : lendH [((1, 1, 0), bx ds), ((1, 16, 0), o)] (inK [(1, 16, 0)]) [(1, 16, 0)] = some [((0, 0, 0), o)] := by simp [lendH, lookK, inK, posK, r1]
  rw [e4]
  simp only [e2]
  have e6 : closedH [((1, 1, 0), bx ds), ((1, 16, 0), o)] [(1, 16, 0)] [(1, 16, 0)] = true := by simp [closedH, lookK, k1]
  rw [if_pos ⟨e6, by rfl⟩]
  have e5 : AV.rnL (inK [(1, 16, 0)]) [.ref (1, 16, 0) 0 0 (some n), .agg cs] = [.ref (0, 0, 0) 0 0 (some n), .agg cs] := by simp [AV.rnL, AV.rn, rc, inK, posK]
  rw [e5, hr]
  have e7 : dd (reach [((0, 0, 0), o')] 3 ([(0, 0, 0)] ++ [(0, 0, 0)])) = [(0, 0, 0)] := by simp [reach, lookK, k2, dd]
  have e8 : AV.keysL [AV.ref (0, 0, 0) 0 n (some n)] = [(0, 0, 0)] := rfl
  have e9 : lentKs 1 = [(0, 0, 0)] := rfl
  have e10 : closedH [((0, 0, 0), o')] [(0, 0, 0)] [(0, 0, 0)] = true := by simp [closedH, lookK, k2]
  simp only [backR, Bool.false_eq_true, if_false, backV, back, List.length_singleton, e8, e9, e7, backA]
  rw [if_pos ⟨e10, by rfl, by rfl, by rfl⟩]
  simp [AV.rnL, AV.rn, outK, putAll, lookK, setK, r2]
theorem put_ok (e : El) (he : e.ok) (hs : e.sm) (h : (chk e.core 1 0 0).1 = 0) (hl : (enc e.core).length ≤ 1048576) : ∃ N, Con E N 21 [e.av] (.tup [.sl false (bs (enc e.core)) (some (enc e.core).length), .int .i64 0]) := by
  have hv := vld_of _ _ _ _ h
  obtain ⟨N, C⟩ := check e he
  obtain ⟨M, r, S, s1, s2, s3, s4⟩ := E7.size e he hs hv
  obtain ⟨Q, P⟩ := E9.puts e he hs hv hl
  rw [h] at C
  have := s3 (by omega)
  subst this
  have C' := C (N + M + Q + 10) (by omega) 0
  have S' := S (N + M + Q + 10) (by omega) 0
  rw [El.av_eq] at C' S'
  have P' := fun ds slot => op_new (ds := ds) (slot := slot) (cs := ec e) rfl (R_keys [] (enc e.core).length) (R_keys _ _) (R_rn _ _) (R_rn _ _) (by have := P (N + M + Q + 10) (by omega) [] (enc e.core).length (enc e.core).length (by simp) (by omega) (by omega); simpa using this)
  have q2 : ¬ (1048576 < ((enc e.core).length : Int)) := by omega
  have q3 : ¬ (1048576 < (enc e.core).length) := by omega
  refine ⟨N + M + Q + 10 + 1, con_ofO E_fn21 (by simp [AV.pureL, El.av_pure]) (Nat.le_of_ble_eq_true rfl) rfl (g := []) ?_⟩
  rw [body_21, c21]
  simp [R] at P'
  have zr : List.replicate (enc e.core).length (AV.int .u8 0) = bs (List.replicate (enc e.core).length 0) := by simp [bs]
  have cp : ((enc e.core).length : Int) ≤ 70368744177664 := by omega
  simp [El.av_eq, ↓s_seq, ↓s_reg, ↓s_regd, ↓s_cond, ↓s_block, ↓s_cons, ↓s_consG, s_nil, s_loop, s_round, s_lpn, s_lpe, s_lpr, firstReg, s_gt, s_gf, s_wb, s_wu, s_val, s_valN, s_skip, s_calls, s_callP, s_cax, lookR, flatR, pureKs, s_ret, s_rgx, s_sqn, s_sqr, s_sqe, s_cdb, s_bkn, s_bkr, s_bke, s_exit, s_ret', s_skip', s_finr, s_finn, s_fin1, s_fix, s_clean, s_gc0, o_tmp, o_int, o_bool, o_nil, o_str, o_fn, o_nil', l_hit, l_miss, l_nil, ol_nil, ol_cons, ol_some, x_move, x_assign, x_pick, pk_t, pk_f, x_bin, bn_s, x_un, x_extract, x_callF, cl_no, x_callB, x_callBF, frzV, x_conv, cvx, convA, frame0, binA, intOp, resL, resA, results1, sealLW, AV.pure, AV.pureL, keepT, x_alloc, x_box, bxx, x_build, bdx, x_buildSlice, bsx, x_buildSliceF, bsf, x_load, ldx, x_store, stx, x_slice, slx, x_fieldAddr, x_field, x_index, ixx, x_indexAddr, iax, x_makeSlice, msx, x_nilCheck, newK, genOf, setK, lookK, fillA, writeL, writeC, readC, conts, TyI.mk1, sliceA, boundsA, boundsB, fitsA, numA, indexAddrA, fieldAddrA, partA, fieldA, indexA, appendA, copyA, builtinA, AV.cells, chunk, gcH, reach, keysT, keepK, inKs, AV.keys, AV.keysL, Ty.isAgg, eq1, eqL, convA.go, ltI, w_u8, w_u32, w_u64, w_i64, w_fdiv, w_tdiv, w_tmod, IntKind.bits, unA, sc_int, sc_bool, sc_str, sc_sl, sc_ref, sc_ptr, sc_pel, sc_nilp, sc_fn, sc_nilf, sc_if, sc_nili, sc_agg, sc_tup, sc_mem, bs_pure, bs_kl, bs_length, bs_cells, bs_all, sl_row, sealRow, sealY, sl_int, sl_bool, sl_str, sl_sl, sl_nilp, sl_nilf, sl_nili, sl_pel, sl_agg, sl_tup, sl_fn, sl_if, nat_1, bs_cons, bs_nil, i_beq, i_bne, x_mkF, x_mkI, x_tassert, x_panic, s_pan, s_sqp, s_bkp, s_finp, s_fixp, s_lpp, s_rgp, s_retp, s_site, s_stxN, s_stxO, x_callT, clx, El.avs_len, C', S', q2, q3, P', zr, cp, s_regB, barX, bindS, barOf]
end E10
