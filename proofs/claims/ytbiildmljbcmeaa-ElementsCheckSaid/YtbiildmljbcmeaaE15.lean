/- The reference's octets of tags, at the evaluator. No conditions. -/
import Derived.Test.YtbiildmljbcmeaaE14
open Ab Go TabE Sp
set_option maxRecDepth 20000
set_option linter.unusedSimpArgs false
set_option linter.unusedVariables false
set_option maxHeartbeats 8000000
namespace E15
theorem grp1 (v : Int) (h0 : 0 ≤ v) (h1 : v < 128) : Con E 20 103 [.int .i64 v] (.sl false [.int .u8 (TG.oct v 0)] (some 1)) := by
  refine con_of E_fn103 rfl (Nat.le_of_ble_eq_true rfl) rfl rfl (g := []) ?_
  rw [body_103, c103]
  have q1 : v.tmod 128 = v := by rw [Int.tmod_eq_emod_of_nonneg h0]; omega
  have q2 : v.tdiv 128 = 0 := by rw [Int.tdiv_eq_ediv_of_nonneg h0]; omega
  have q3 : v % 256 = v := by omega
  have o : TG.oct v 0 = v := by unfold TG.oct; simp; omega
  simp [↓s_seq, ↓s_reg, ↓s_regd, ↓s_cond, ↓s_block, ↓s_cons, ↓s_consG, s_nil, s_loop, s_round, s_lpn, s_lpe, s_lpr, firstReg, s_gt, s_gf, s_wb, s_wu, s_val, s_valN, s_skip, s_calls, s_callP, s_cax, lookR, flatR, pureKs, s_ret, s_rgx, s_sqn, s_sqr, s_sqe, s_cdb, s_bkn, s_bkr, s_bke, s_exit, s_ret', s_skip', s_finr, s_finn, s_fin1, s_fix, s_clean, s_gc0, o_tmp, o_int, o_bool, o_nil, o_str, o_fn, o_nil', l_hit, l_miss, l_nil, ol_nil, ol_cons, ol_some, x_move, x_assign, x_pick, pk_t, pk_f, x_bin, bn_s, x_un, x_extract, x_callF, cl_no, x_callB, x_callBF, frzV, x_conv, cvx, convA, frame0, binA, intOp, resL, resA, results1, sealLW, AV.pure, AV.pureL, keepT, x_alloc, x_box, bxx, x_build, bdx, x_buildSlice, bsx, x_buildSliceF, bsf, x_load, ldx, x_store, stx, x_slice, slx, x_fieldAddr, x_field, x_index, ixx, x_indexAddr, iax, x_makeSlice, msx, x_nilCheck, newK, genOf, setK, lookK, fillA, writeL, writeC, readC, conts, TyI.mk1, sliceA, boundsA, boundsB, fitsA, numA, indexAddrA, fieldAddrA, partA, fieldA, indexA, appendA, copyA, builtinA, AV.cells, chunk, gcH, reach, keysT, keepK, inKs, AV.keys, AV.keysL, Ty.isAgg, eq1, eqL, convA.go, ltI, w_u8, w_u32, w_u64, w_i64, w_fdiv, w_tdiv, w_tmod, IntKind.bits, unA, sc_int, sc_bool, sc_str, sc_sl, sc_ref, sc_ptr, sc_pel, sc_nilp, sc_fn, sc_nilf, sc_if, sc_nili, sc_agg, sc_tup, sc_mem, bs_pure, bs_kl, bs_length, bs_cells, bs_all, sl_row, sealRow, sealY, sl_int, sl_bool, sl_str, sl_sl, sl_nilp, sl_nilf, sl_nili, sl_pel, sl_agg, sl_tup, sl_fn, sl_if, nat_1, bs_cons, bs_nil, i_beq, i_bne, x_mkF, x_mkI, x_tassert, x_panic, s_pan, s_sqp, s_bkp, s_finp, s_fixp, s_lpp, s_rgp, s_retp, s_site, s_stxN, s_stxO, x_callT, clx, El.avs_len, q1, q2, q3, o, w_i64]
theorem grp2 (v : Int) (h0 : 128 ≤ v) (h1 : v < 16384) : Con E 20 103 [.int .i64 v] (.sl false [.int .u8 (TG.oct v 1), .int .u8 (TG.oct v 0)] none) := by
  refine con_of E_fn103 rfl (Nat.le_of_ble_eq_true rfl) rfl rfl (g := []) ?_
  rw [body_103, c103]
  have q1 : v.tmod 128 = v % 128 := Int.tmod_eq_emod_of_nonneg (by omega)
  have q2 : v.tdiv 128 = v / 128 := Int.tdiv_eq_ediv_of_nonneg (by omega)
  have q3 : v % 128 % 256 = v % 128 := by omega
  have a1 : 0 < v / 128 := by omega
  have q4 : (v / 128).tmod 128 = v / 128 := by rw [Int.tmod_eq_emod_of_nonneg (by omega)]; omega
  have q5 : (v / 128).tdiv 128 = 0 := by rw [Int.tdiv_eq_ediv_of_nonneg (by omega)]; omega
  have w1 := w64' (v / 128) (by omega) (by omega)
  have w2 := w64' (128 + v / 128) (by omega) (by omega)
  have q6 : (128 + v / 128) % 256 = 128 + v / 128 := by omega
  have o0 : TG.oct v 0 = v % 128 := by unfold TG.oct; simp
  have o1 : TG.oct v 1 = 128 + v / 128 := by unfold TG.oct; simp; omega
  simp [↓s_seq, ↓s_reg, ↓s_regd, ↓s_cond, ↓s_block, ↓s_cons, ↓s_consG, s_nil, s_loop, s_round, s_lpn, s_lpe, s_lpr, firstReg, s_gt, s_gf, s_wb, s_wu, s_val, s_valN, s_skip, s_calls, s_callP, s_cax, lookR, flatR, pureKs, s_ret, s_rgx, s_sqn, s_sqr, s_sqe, s_cdb, s_bkn, s_bkr, s_bke, s_exit, s_ret', s_skip', s_finr, s_finn, s_fin1, s_fix, s_clean, s_gc0, o_tmp, o_int, o_bool, o_nil, o_str, o_fn, o_nil', l_hit, l_miss, l_nil, ol_nil, ol_cons, ol_some, x_move, x_assign, x_pick, pk_t, pk_f, x_bin, bn_s, x_un, x_extract, x_callF, cl_no, x_callB, x_callBF, frzV, x_conv, cvx, convA, frame0, binA, intOp, resL, resA, results1, sealLW, AV.pure, AV.pureL, keepT, x_alloc, x_box, bxx, x_build, bdx, x_buildSlice, bsx, x_buildSliceF, bsf, x_load, ldx, x_store, stx, x_slice, slx, x_fieldAddr, x_field, x_index, ixx, x_indexAddr, iax, x_makeSlice, msx, x_nilCheck, newK, genOf, setK, lookK, fillA, writeL, writeC, readC, conts, TyI.mk1, sliceA, boundsA, boundsB, fitsA, numA, indexAddrA, fieldAddrA, partA, fieldA, indexA, appendA, copyA, builtinA, AV.cells, chunk, gcH, reach, keysT, keepK, inKs, AV.keys, AV.keysL, Ty.isAgg, eq1, eqL, convA.go, ltI, w_u8, w_u32, w_u64, w_i64, w_fdiv, w_tdiv, w_tmod, IntKind.bits, unA, sc_int, sc_bool, sc_str, sc_sl, sc_ref, sc_ptr, sc_pel, sc_nilp, sc_fn, sc_nilf, sc_if, sc_nili, sc_agg, sc_tup, sc_mem, bs_pure, bs_kl, bs_length, bs_cells, bs_all, sl_row, sealRow, sealY, sl_int, sl_bool, sl_str, sl_sl, sl_nilp, sl_nilf, sl_nili, sl_pel, sl_agg, sl_tup, sl_fn, sl_if, nat_1, bs_cons, bs_nil, i_beq, i_bne, x_mkF, x_mkI, x_tassert, x_panic, s_pan, s_sqp, s_bkp, s_finp, s_fixp, s_lpp, s_rgp, s_retp, s_site, s_stxN, s_stxO, x_callT, clx, El.avs_len, q1, q2, q3, a1, q4, q5, w1, w2, q6, o0, o1, w_i64]
theorem grp3 (v : Int) (h0 : 16384 ≤ v) (h1 : v < 2097152) : Con E 20 103 [.int .i64 v] (.sl false [.int .u8 (TG.oct v 2), .int .u8 (TG.oct v 1), .int .u8 (TG.oct v 0)] none) := by
  refine con_of E_fn103 rfl (Nat.le_of_ble_eq_true rfl) rfl rfl (g := []) ?_
  rw [body_103, c103]
  have q1 : v.tmod 128 = v % 128 := Int.tmod_eq_emod_of_nonneg (by omega)
  have q2 : v.tdiv 128 = v / 128 := Int.tdiv_eq_ediv_of_nonneg (by omega)
  have q3 : v % 128 % 256 = v % 128 := by omega
  have a1 : 0 < v / 128 := by omega
  have q4 : (v / 128).tmod 128 = v / 128 % 128 := Int.tmod_eq_emod_of_nonneg (by omega)
  have q5 : (v / 128).tdiv 128 = v / 16384 := by rw [Int.tdiv_eq_ediv_of_nonneg (by omega)]; omega
  have a2 : 0 < v / 16384 := by omega
  have q7 : (v / 16384).tmod 128 = v / 16384 := by rw [Int.tmod_eq_emod_of_nonneg (by omega)]; omega
  have q8 : (v / 16384).tdiv 128 = 0 := by rw [Int.tdiv_eq_ediv_of_nonneg (by omega)]; omega
  have w1 := w64' (v / 128) (by omega) (by omega)
  have w3 := w64' (v / 16384) (by omega) (by omega)
  have w2 := w64' (128 + v / 128 % 128) (by omega) (by omega)
  have w4 := w64' (128 + v / 16384) (by omega) (by omega)
  have q6 : (128 + v / 128 % 128) % 256 = 128 + v / 128 % 128 := by omega
  have q9 : (128 + v / 16384) % 256 = 128 + v / 16384 := by omega
  have o0 : TG.oct v 0 = v % 128 := by unfold TG.oct; simp
  have o1 : TG.oct v 1 = 128 + v / 128 % 128 := by unfold TG.oct; simp; omega
  have o2 : TG.oct v 2 = 128 + v / 16384 := by unfold TG.oct; simp; omega
  simp [↓s_seq, ↓s_reg, ↓s_regd, ↓s_cond, ↓s_block, ↓s_cons, ↓s_consG, s_nil, s_loop, s_round, s_lpn, s_lpe, s_lpr, firstReg, s_gt, s_gf, s_wb, s_wu, s_val, s_valN, s_skip, s_calls, s_callP, s_cax, lookR, flatR, pureKs, s_ret, s_rgx, s_sqn, s_sqr, s_sqe, s_cdb, s_bkn, s_bkr, s_bke, s_exit, s_ret', s_skip', s_finr, s_finn, s_fin1, s_fix, s_clean, s_gc0, o_tmp, o_int, o_bool, o_nil, o_str, o_fn, o_nil', l_hit, l_miss, l_nil, ol_nil, ol_cons, ol_some, x_move, x_assign, x_pick, pk_t, pk_f, x_bin, bn_s, x_un, x_extract, x_callF, cl_no, x_callB, x_callBF, frzV, x_conv, cvx, convA, frame0, binA, intOp, resL, resA, results1, sealLW, AV.pure, AV.pureL, keepT, x_alloc, x_box, bxx, x_build, bdx, x_buildSlice, bsx, x_buildSliceF, bsf, x_load, ldx, x_store, stx, x_slice, slx, x_fieldAddr, x_field, x_index, ixx, x_indexAddr, iax, x_makeSlice, msx, x_nilCheck, newK, genOf, setK, lookK, fillA, writeL, writeC, readC, conts, TyI.mk1, sliceA, boundsA, boundsB, fitsA, numA, indexAddrA, fieldAddrA, partA, fieldA, indexA, appendA, copyA, builtinA, AV.cells, chunk, gcH, reach, keysT, keepK, inKs, AV.keys, AV.keysL, Ty.isAgg, eq1, eqL, convA.go, ltI, w_u8, w_u32, w_u64, w_i64, w_fdiv, w_tdiv, w_tmod, IntKind.bits, unA, sc_int, sc_bool, sc_str, sc_sl, sc_ref, sc_ptr, sc_pel, sc_nilp, sc_fn, sc_nilf, sc_if, sc_nili, sc_agg, sc_tup, sc_mem, bs_pure, bs_kl, bs_length, bs_cells, bs_all, sl_row, sealRow, sealY, sl_int, sl_bool, sl_str, sl_sl, sl_nilp, sl_nilf, sl_nili, sl_pel, sl_agg, sl_tup, sl_fn, sl_if, nat_1, bs_cons, bs_nil, i_beq, i_bne, x_mkF, x_mkI, x_tassert, x_panic, s_pan, s_sqp, s_bkp, s_finp, s_fixp, s_lpp, s_rgp, s_retp, s_site, s_stxN, s_stxO, x_callT, clx, El.avs_len, q1, q2, q3, a1, a2, q4, q5, q7, q8, w1, w2, w3, w4, q6, q9, o0, o1, o2, w_i64]
theorem grp4 (v : Int) (h0 : 2097152 ≤ v) (h1 : v < 268435456) : Con E 20 103 [.int .i64 v] (.sl false [.int .u8 (TG.oct v 3), .int .u8 (TG.oct v 2), .int .u8 (TG.oct v 1), .int .u8 (TG.oct v 0)] none) := by
  refine con_of E_fn103 rfl (Nat.le_of_ble_eq_true rfl) rfl rfl (g := []) ?_
  rw [body_103, c103]
  have q1 : v.tmod 128 = v % 128 := Int.tmod_eq_emod_of_nonneg (by omega)
  have q2 : v.tdiv 128 = v / 128 := Int.tdiv_eq_ediv_of_nonneg (by omega)
  have q3 : v % 128 % 256 = v % 128 := by omega
  have a1 : 0 < v / 128 := by omega
  have q4 : (v / 128).tmod 128 = v / 128 % 128 := Int.tmod_eq_emod_of_nonneg (by omega)
  have q5 : (v / 128).tdiv 128 = v / 16384 := by rw [Int.tdiv_eq_ediv_of_nonneg (by omega)]; omega
  have a2 : 0 < v / 16384 := by omega
  have q7 : (v / 16384).tmod 128 = v / 16384 % 128 := Int.tmod_eq_emod_of_nonneg (by omega)
  have q8 : (v / 16384).tdiv 128 = v / 2097152 := by rw [Int.tdiv_eq_ediv_of_nonneg (by omega)]; omega
  have a3 : 0 < v / 2097152 := by omega
  have q10 : (v / 2097152).tmod 128 = v / 2097152 := by rw [Int.tmod_eq_emod_of_nonneg (by omega)]; omega
  have q11 : (v / 2097152).tdiv 128 = 0 := by rw [Int.tdiv_eq_ediv_of_nonneg (by omega)]; omega
  have w1 := w64' (v / 128) (by omega) (by omega)
  have w3 := w64' (v / 16384) (by omega) (by omega)
  have w5 := w64' (v / 2097152) (by omega) (by omega)
  have w2 := w64' (128 + v / 128 % 128) (by omega) (by omega)
  have w4 := w64' (128 + v / 16384 % 128) (by omega) (by omega)
  have w6 := w64' (128 + v / 2097152) (by omega) (by omega)
  have q6 : (128 + v / 128 % 128) % 256 = 128 + v / 128 % 128 := by omega
  have q9 : (128 + v / 16384 % 128) % 256 = 128 + v / 16384 % 128 := by omega
  have q12 : (128 + v / 2097152) % 256 = 128 + v / 2097152 := by omega
  have o0 : TG.oct v 0 = v % 128 := by unfold TG.oct; simp
  have o1 : TG.oct v 1 = 128 + v / 128 % 128 := by unfold TG.oct; simp; omega
  have o2 : TG.oct v 2 = 128 + v / 16384 % 128 := by unfold TG.oct; simp; omega
  have o3 : TG.oct v 3 = 128 + v / 2097152 := by unfold TG.oct; simp; omega
  simp [↓s_seq, ↓s_reg, ↓s_regd, ↓s_cond, ↓s_block, ↓s_cons, ↓s_consG, s_nil, s_loop, s_round, s_lpn, s_lpe, s_lpr, firstReg, s_gt, s_gf, s_wb, s_wu, s_val, s_valN, s_skip, s_calls, s_callP, s_cax, lookR, flatR, pureKs, s_ret, s_rgx, s_sqn, s_sqr, s_sqe, s_cdb, s_bkn, s_bkr, s_bke, s_exit, s_ret', s_skip', s_finr, s_finn, s_fin1, s_fix, s_clean, s_gc0, o_tmp, o_int, o_bool, o_nil, o_str, o_fn, o_nil', l_hit, l_miss, l_nil, ol_nil, ol_cons, ol_some, x_move, x_assign, x_pick, pk_t, pk_f, x_bin, bn_s, x_un, x_extract, x_callF, cl_no, x_callB, x_callBF, frzV, x_conv, cvx, convA, frame0, binA, intOp, resL, resA, results1, sealLW, AV.pure, AV.pureL, keepT, x_alloc, x_box, bxx, x_build, bdx, x_buildSlice, bsx, x_buildSliceF, bsf, x_load, ldx, x_store, stx, x_slice, slx, x_fieldAddr, x_field, x_index, ixx, x_indexAddr, iax, x_makeSlice, msx, x_nilCheck, newK, genOf, setK, lookK, fillA, writeL, writeC, readC, conts, TyI.mk1, sliceA, boundsA, boundsB, fitsA, numA, indexAddrA, fieldAddrA, partA, fieldA, indexA, appendA, copyA, builtinA, AV.cells, chunk, gcH, reach, keysT, keepK, inKs, AV.keys, AV.keysL, Ty.isAgg, eq1, eqL, convA.go, ltI, w_u8, w_u32, w_u64, w_i64, w_fdiv, w_tdiv, w_tmod, IntKind.bits, unA, sc_int, sc_bool, sc_str, sc_sl, sc_ref, sc_ptr, sc_pel, sc_nilp, sc_fn, sc_nilf, sc_if, sc_nili, sc_agg, sc_tup, sc_mem, bs_pure, bs_kl, bs_length, bs_cells, bs_all, sl_row, sealRow, sealY, sl_int, sl_bool, sl_str, sl_sl, sl_nilp, sl_nilf, sl_nili, sl_pel, sl_agg, sl_tup, sl_fn, sl_if, nat_1, bs_cons, bs_nil, i_beq, i_bne, x_mkF, x_mkI, x_tassert, x_panic, s_pan, s_sqp, s_bkp, s_finp, s_fixp, s_lpp, s_rgp, s_retp, s_site, s_stxN, s_stxO, x_callT, clx, El.avs_len, q1, q2, q3, a1, a2, a3, q4, q5, q7, q8, q10, q11, w1, w2, w3, w4, w5, w6, q6, q9, q12, o0, o1, o2, o3, w_i64]
theorem groups (v : Int) (h0 : 0 ≤ v) (h1 : v < 268435456) : ∃ c, Con E 20 103 [.int .i64 v] (.sl false (bs (TG.grp v)) c) := by
  unfold TG.grp TG.top
  by_cases a : v < 128
  · rw [if_pos a]; exact ⟨_, grp1 v h0 a⟩
  rw [if_neg a]
  by_cases b : v < 16384
  · rw [if_pos b]; exact ⟨_, grp2 v (by omega) b⟩
  rw [if_neg b]
  by_cases c : v < 2097152
  · rw [if_pos c]; exact ⟨_, grp3 v (by omega) c⟩
  rw [if_neg c]; exact ⟨_, grp4 v (by omega) h1⟩
/-- The octets of a tag, given. -/
theorem rtag_lo (c : Int) (k : Bool) (n : Int) (c0 : 0 ≤ c) (c3 : c ≤ 3) (n0 : 0 ≤ n) (n1 : n < 31) : ∀ q, 20 ≤ q → aRun E q 76 [.agg [.int .u8 c, .bool k, .int .u32 n]] [] = some (.ret (.ref (1, 21, 0) 0 1 (some 1)), [((1, 21, 0), ⟨bs (TG.tagO c k n), true, true, true, 1, false⟩)]) := by
  intro q hq
  obtain ⟨K, rfl⟩ : ∃ K, q = K + 1 := ⟨q - 1, by omega⟩
  rw [aRun_fn rfl E_fn76 rfl (Nat.le_of_ble_eq_true rfl), body_76, c76]
  have w1 := w64' c (by omega) (by omega)
  have w2 := w64' (64 * c) (by omega) (by omega)
  have w3 := w64' (64 * c + 32) (by omega) (by omega)
  have w4 := w64' n (by omega) (by omega)
  have w5 := w64' (64 * c + n) (by omega) (by omega)
  have w6 := w64' (64 * c + 32 + n) (by omega) (by omega)
  have m1 : (64 * c + n) % 256 = 64 * c + n := by omega
  have m2 : (64 * c + 32 + n) % 256 = 64 * c + 32 + n := by omega
  unfold TG.tagO
  rw [if_pos n1]
  cases k <;> simp [↓s_seq, ↓s_reg, ↓s_regd, ↓s_cond, ↓s_block, ↓s_cons, ↓s_consG, s_nil, s_loop, s_round, s_lpn, s_lpe, s_lpr, firstReg, s_gt, s_gf, s_wb, s_wu, s_val, s_valN, s_skip, s_calls, s_callP, s_cax, lookR, flatR, pureKs, s_ret, s_rgx, s_sqn, s_sqr, s_sqe, s_cdb, s_bkn, s_bkr, s_bke, s_exit, s_ret', s_skip', s_finr, s_finn, s_fin1, s_fix, s_clean, s_gc0, o_tmp, o_int, o_bool, o_nil, o_str, o_fn, o_nil', l_hit, l_miss, l_nil, ol_nil, ol_cons, ol_some, x_move, x_assign, x_pick, pk_t, pk_f, x_bin, bn_s, x_un, x_extract, x_callF, cl_no, x_callB, x_callBF, frzV, x_conv, cvx, convA, frame0, binA, intOp, resL, resA, results1, sealLW, AV.pure, AV.pureL, keepT, x_alloc, x_box, bxx, x_build, bdx, x_buildSlice, bsx, x_buildSliceF, bsf, x_load, ldx, x_store, stx, x_slice, slx, x_fieldAddr, x_field, x_index, ixx, x_indexAddr, iax, x_makeSlice, msx, x_nilCheck, newK, genOf, setK, lookK, fillA, writeL, writeC, readC, conts, TyI.mk1, sliceA, boundsA, boundsB, fitsA, numA, indexAddrA, fieldAddrA, partA, fieldA, indexA, appendA, copyA, builtinA, AV.cells, chunk, gcH, reach, keysT, keepK, inKs, AV.keys, AV.keysL, Ty.isAgg, eq1, eqL, convA.go, ltI, w_u8, w_u32, w_u64, w_i64, w_fdiv, w_tdiv, w_tmod, IntKind.bits, unA, sc_int, sc_bool, sc_str, sc_sl, sc_ref, sc_ptr, sc_pel, sc_nilp, sc_fn, sc_nilf, sc_if, sc_nili, sc_agg, sc_tup, sc_mem, bs_pure, bs_kl, bs_length, bs_cells, bs_all, sl_row, sealRow, sealY, sl_int, sl_bool, sl_str, sl_sl, sl_nilp, sl_nilf, sl_nili, sl_pel, sl_agg, sl_tup, sl_fn, sl_if, nat_1, bs_cons, bs_nil, i_beq, i_bne, x_mkF, x_mkI, x_tassert, x_panic, s_pan, s_sqp, s_bkp, s_finp, s_fixp, s_lpp, s_rgp, s_retp, s_site, s_stxN, s_stxO, x_callT, clx, El.avs_len, n1, w1, w2, w3, w4, w5, w6, m1, m2]
theorem rtag_hi (c : Int) (k : Bool) (n : Int) (c0 : 0 ≤ c) (c3 : c ≤ 3) (n0 : 31 ≤ n) (n1 : n < 268435456) : ∀ q, 40 ≤ q → aRun E q 76 [.agg [.int .u8 c, .bool k, .int .u32 n]] [] = some (.ret (.ref (1, 30, 0) 0 (TG.tagO c k n).length none), [((1, 30, 0), ⟨bs (TG.tagO c k n), true, true, false, 1, false⟩)]) := by
  intro q hq
  obtain ⟨K, rfl⟩ : ∃ K, q = K + 1 := ⟨q - 1, by omega⟩
  rw [aRun_fn rfl E_fn76 rfl (Nat.le_of_ble_eq_true rfl), body_76, c76]
  have w1 := w64' c (by omega) (by omega)
  have w2 := w64' (64 * c) (by omega) (by omega)
  have w3 := w64' (64 * c + 32) (by omega) (by omega)
  have w4 := w64' n (by omega) (by omega)
  have w5 := w64' (64 * c + 31) (by omega) (by omega)
  have w6 := w64' (64 * c + 32 + 31) (by omega) (by omega)
  have m1 : (64 * c + 31) % 256 = 64 * c + 31 := by omega
  have m2 : (64 * c + 32 + 31) % 256 = 64 * c + 32 + 31 := by omega
  have h31 : ¬ n < 31 := by omega
  obtain ⟨gc, hg⟩ := groups n (by omega) n1
  have hg' := hg K (by omega) 0
  unfold TG.tagO
  rw [if_neg h31]
  have gl : 1 ≤ (TG.grp n).length ∧ (TG.grp n).length ≤ 4 := by unfold TG.grp; split <;> simp
  have g1 : TG.grp n ≠ [] := by intro e; rw [e] at gl; simp at gl
  have cp : (TG.grp n).length + 1 ≤ 70368744177664 := by omega
  cases k <;> simp [↓s_seq, ↓s_reg, ↓s_regd, ↓s_cond, ↓s_block, ↓s_cons, ↓s_consG, s_nil, s_loop, s_round, s_lpn, s_lpe, s_lpr, firstReg, s_gt, s_gf, s_wb, s_wu, s_val, s_valN, s_skip, s_calls, s_callP, s_cax, lookR, flatR, pureKs, s_ret, s_rgx, s_sqn, s_sqr, s_sqe, s_cdb, s_bkn, s_bkr, s_bke, s_exit, s_ret', s_skip', s_finr, s_finn, s_fin1, s_fix, s_clean, s_gc0, o_tmp, o_int, o_bool, o_nil, o_str, o_fn, o_nil', l_hit, l_miss, l_nil, ol_nil, ol_cons, ol_some, x_move, x_assign, x_pick, pk_t, pk_f, x_bin, bn_s, x_un, x_extract, x_callF, cl_no, x_callB, x_callBF, frzV, x_conv, cvx, convA, frame0, binA, intOp, resL, resA, results1, sealLW, AV.pure, AV.pureL, keepT, x_alloc, x_box, bxx, x_build, bdx, x_buildSlice, bsx, x_buildSliceF, bsf, x_load, ldx, x_store, stx, x_slice, slx, x_fieldAddr, x_field, x_index, ixx, x_indexAddr, iax, x_makeSlice, msx, x_nilCheck, newK, genOf, setK, lookK, fillA, writeL, writeC, readC, conts, TyI.mk1, sliceA, boundsA, boundsB, fitsA, numA, indexAddrA, fieldAddrA, partA, fieldA, indexA, appendA, copyA, builtinA, AV.cells, chunk, gcH, reach, keysT, keepK, inKs, AV.keys, AV.keysL, Ty.isAgg, eq1, eqL, convA.go, ltI, w_u8, w_u32, w_u64, w_i64, w_fdiv, w_tdiv, w_tmod, IntKind.bits, unA, sc_int, sc_bool, sc_str, sc_sl, sc_ref, sc_ptr, sc_pel, sc_nilp, sc_fn, sc_nilf, sc_if, sc_nili, sc_agg, sc_tup, sc_mem, bs_pure, bs_kl, bs_length, bs_cells, bs_all, sl_row, sealRow, sealY, sl_int, sl_bool, sl_str, sl_sl, sl_nilp, sl_nilf, sl_nili, sl_pel, sl_agg, sl_tup, sl_fn, sl_if, nat_1, bs_cons, bs_nil, i_beq, i_bne, x_mkF, x_mkI, x_tassert, x_panic, s_pan, s_sqp, s_bkp, s_finp, s_fixp, s_lpp, s_rgp, s_retp, s_site, s_stxN, s_stxO, x_callT, clx, El.avs_len, h31, w1, w2, w3, w4, w5, w6, m1, m2, hg', g1, cp]
end E15
