/- The bits of content octets, by the reference, at the evaluator: what Get answers. No conditions. -/
import Derived.Test.YtalmnhdnclmhbaaT7
open Ab Go TabB T1 T2 T3 T4 T5 T6 T7
set_option maxRecDepth 20000
set_option linter.unusedSimpArgs false
set_option linter.unusedVariables false
set_option maxHeartbeats 8000000
namespace T8
theorem get_nil (f c) : Con E 1000 22 [.sl f [] c] (.tup [.sl true [] (some 0), .int .i64 11]) := by
  refine .of (g := []) rfl ?_
  rw [aCall_fn rfl (E_fn22) rfl (Nat.le_of_ble_eq_true rfl) rfl rfl, body_22, c22]
  simp [↓s_seq, ↓s_reg, ↓s_regd, ↓s_cond, ↓s_block, ↓s_cons, ↓s_consG, s_nil, s_loop, s_round, s_lpn, s_lpe, s_lpr, firstReg, s_gt, s_gf, s_wb, s_wu, s_val, s_valN, s_skip, s_calls, s_callP, s_cax, lookR, flatR, pureKs, s_ret, s_rgx, s_sqn, s_sqr, s_sqe, s_cdb, s_bkn, s_bkr, s_bke, s_exit, s_ret', s_skip', s_finr, s_finn, s_fin1, s_fix, s_clean, s_gc0, o_tmp, o_int, o_bool, o_nil, o_str, o_fn, o_nil', l_hit, l_miss, l_nil, ol_nil, ol_cons, ol_some, x_move, x_assign, x_pick, pk_t, pk_f, x_bin, bn_s, x_un, x_extract, x_callF, cl_no, x_callB, x_conv, cvx, convA, frame0, binA, intOp, resL, resA, results1, sealA, sealLW, AV.pure, AV.pureL, keepT, x_alloc, x_box, bxx, x_build, bdx, x_buildSlice, bsx, x_buildSliceF, bsf, x_load, ldx, x_store, stx, x_slice, slx, x_fieldAddr, x_field, x_index, ixx, x_indexAddr, iax, x_makeSlice, msx, x_nilCheck, newK, genOf, setK, lookK, fillA, writeL, writeC, readC, conts, TyI.mk1, sliceA, boundsA, boundsB, fitsA, numA, indexAddrA, fieldAddrA, partA, fieldA, indexA, appendA, copyA, builtinA, AV.cells, AV.scal, chunk, gcH, reach, keysT, keepK, inKs, AV.keys, AV.keysL, Ty.isAgg, eq1, eqL, convA.go, ltI, w_u8, w_u32, w_u64, w_i64, w_fdiv, w_tdiv, w_tmod, IntKind.bits, unA]
theorem get_big (f c) (x : Int) (ys : List Int) (h : 7 < x) : Con E 1000 22 [.sl f (bs (x :: ys)) c] (.tup [.sl true [] (some 0), .int .i64 11]) := by
  refine .of (g := []) (by simp [AV.pureL, AV.pure, bs_pure]) ?_
  rw [aCall_fn rfl (E_fn22) (by simp [AV.pureL, AV.pure, bs_pure]) (Nat.le_of_ble_eq_true rfl) rfl rfl, body_22, c22]
  have e0 : ((ys.length : Int) + 1 == 0) = false := by simp; omega
  have e1 : (0 : Int) < (ys.length : Int) + 1 := by omega
  have e2 : ¬ (ys.length : Int) + 1 = 0 := by omega
  simp [↓s_seq, ↓s_reg, ↓s_regd, ↓s_cond, ↓s_block, ↓s_cons, ↓s_consG, s_nil, s_loop, s_round, s_lpn, s_lpe, s_lpr, firstReg, s_gt, s_gf, s_wb, s_wu, s_val, s_valN, s_skip, s_calls, s_callP, s_cax, lookR, flatR, pureKs, s_ret, s_rgx, s_sqn, s_sqr, s_sqe, s_cdb, s_bkn, s_bkr, s_bke, s_exit, s_ret', s_skip', s_finr, s_finn, s_fin1, s_fix, s_clean, s_gc0, o_tmp, o_int, o_bool, o_nil, o_str, o_fn, o_nil', l_hit, l_miss, l_nil, ol_nil, ol_cons, ol_some, x_move, x_assign, x_pick, pk_t, pk_f, x_bin, bn_s, x_un, x_extract, x_callF, cl_no, x_callB, x_conv, cvx, convA, frame0, binA, intOp, resL, resA, results1, sealA, sealLW, AV.pure, AV.pureL, keepT, x_alloc, x_box, bxx, x_build, bdx, x_buildSlice, bsx, x_buildSliceF, bsf, x_load, ldx, x_store, stx, x_slice, slx, x_fieldAddr, x_field, x_index, ixx, x_indexAddr, iax, x_makeSlice, msx, x_nilCheck, newK, genOf, setK, lookK, fillA, writeL, writeC, readC, conts, TyI.mk1, sliceA, boundsA, boundsB, fitsA, numA, indexAddrA, fieldAddrA, partA, fieldA, indexA, appendA, copyA, builtinA, AV.cells, AV.scal, chunk, gcH, reach, keysT, keepK, inKs, AV.keys, AV.keysL, Ty.isAgg, eq1, eqL, convA.go, ltI, w_u8, w_u32, w_u64, w_i64, w_fdiv, w_tdiv, w_tmod, IntKind.bits, unA, bs_cons, bs_pure, bs_length, h, e0, e1, e2]
theorem get_short (f c) (x : Int) (h : 0 < x) (h7 : x ≤ 7) : Con E 1000 22 [.sl f (bs [x]) c] (.tup [.sl true [] (some 0), .int .i64 11]) := by
  refine .of (g := []) (by simp [AV.pureL, AV.pure, bs_pure]) ?_
  rw [aCall_fn rfl (E_fn22) (by simp [AV.pureL, AV.pure, bs_pure]) (Nat.le_of_ble_eq_true rfl) rfl rfl, body_22, c22]
  have e7 : ¬ 7 < x := by omega
  have w := w64 x (by omega) (by omega)
  simp [↓s_seq, ↓s_reg, ↓s_regd, ↓s_cond, ↓s_block, ↓s_cons, ↓s_consG, s_nil, s_loop, s_round, s_lpn, s_lpe, s_lpr, firstReg, s_gt, s_gf, s_wb, s_wu, s_val, s_valN, s_skip, s_calls, s_callP, s_cax, lookR, flatR, pureKs, s_ret, s_rgx, s_sqn, s_sqr, s_sqe, s_cdb, s_bkn, s_bkr, s_bke, s_exit, s_ret', s_skip', s_finr, s_finn, s_fin1, s_fix, s_clean, s_gc0, o_tmp, o_int, o_bool, o_nil, o_str, o_fn, o_nil', l_hit, l_miss, l_nil, ol_nil, ol_cons, ol_some, x_move, x_assign, x_pick, pk_t, pk_f, x_bin, bn_s, x_un, x_extract, x_callF, cl_no, x_callB, x_conv, cvx, convA, frame0, binA, intOp, resL, resA, results1, sealA, sealLW, AV.pure, AV.pureL, keepT, x_alloc, x_box, bxx, x_build, bdx, x_buildSlice, bsx, x_buildSliceF, bsf, x_load, ldx, x_store, stx, x_slice, slx, x_fieldAddr, x_field, x_index, ixx, x_indexAddr, iax, x_makeSlice, msx, x_nilCheck, newK, genOf, setK, lookK, fillA, writeL, writeC, readC, conts, TyI.mk1, sliceA, boundsA, boundsB, fitsA, numA, indexAddrA, fieldAddrA, partA, fieldA, indexA, appendA, copyA, builtinA, AV.cells, AV.scal, chunk, gcH, reach, keysT, keepK, inKs, AV.keys, AV.keysL, Ty.isAgg, eq1, eqL, convA.go, ltI, w_u8, w_u32, w_u64, w_i64, w_fdiv, w_tdiv, w_tmod, IntKind.bits, unA, bs_cons, bs_nil, h, e7, w]
theorem get_zero (f c) : Con E 1000 22 [.sl f (bs [0]) c] (.tup [.sl true [] (some 0), .int .i64 0]) := by
  refine .of (g := []) rfl ?_
  rw [aCall_fn rfl (E_fn22) rfl (Nat.le_of_ble_eq_true rfl) rfl rfl, body_22, c22]
  have b := fun f c => bits_nil f c
  simp only [bs_nil] at b
  simp [↓s_seq, ↓s_reg, ↓s_regd, ↓s_cond, ↓s_block, ↓s_cons, ↓s_consG, s_nil, s_loop, s_round, s_lpn, s_lpe, s_lpr, firstReg, s_gt, s_gf, s_wb, s_wu, s_val, s_valN, s_skip, s_calls, s_callP, s_cax, lookR, flatR, pureKs, s_ret, s_rgx, s_sqn, s_sqr, s_sqe, s_cdb, s_bkn, s_bkr, s_bke, s_exit, s_ret', s_skip', s_finr, s_finn, s_fin1, s_fix, s_clean, s_gc0, o_tmp, o_int, o_bool, o_nil, o_str, o_fn, o_nil', l_hit, l_miss, l_nil, ol_nil, ol_cons, ol_some, x_move, x_assign, x_pick, pk_t, pk_f, x_bin, bn_s, x_un, x_extract, x_callF, cl_no, x_callB, x_conv, cvx, convA, frame0, binA, intOp, resL, resA, results1, sealA, sealLW, AV.pure, AV.pureL, keepT, x_alloc, x_box, bxx, x_build, bdx, x_buildSlice, bsx, x_buildSliceF, bsf, x_load, ldx, x_store, stx, x_slice, slx, x_fieldAddr, x_field, x_index, ixx, x_indexAddr, iax, x_makeSlice, msx, x_nilCheck, newK, genOf, setK, lookK, fillA, writeL, writeC, readC, conts, TyI.mk1, sliceA, boundsA, boundsB, fitsA, numA, indexAddrA, fieldAddrA, partA, fieldA, indexA, appendA, copyA, builtinA, AV.cells, AV.scal, chunk, gcH, reach, keysT, keepK, inKs, AV.keys, AV.keysL, Ty.isAgg, eq1, eqL, convA.go, ltI, w_u8, w_u32, w_u64, w_i64, w_fdiv, w_tdiv, w_tmod, IntKind.bits, unA, bs_cons, bs_nil, b]
theorem get_ok (f c) (x : Int) (ys : List Int) (hb : isB ys) (h0 : 0 ≤ x) (h7 : x ≤ 7) (hy : ys ≠ []) (hl : ys.length ≤ 100) (n : Nat) (hn : (n : Int) = 8 * (ys.length : Int) - x) (hz : ∀ i, n ≤ i → i < (bits ys).length → (bits ys)[i]? = some 0) :
    Con E 1000 22 [.sl f (bs (x :: ys)) c] (.tup [.sl false (is ((bits ys).take n)) none, .int .i64 0]) := by
  refine .of (g := []) (by simp [AV.pureL, AV.pure, bs_pure]) ?_
  rw [aCall_fn rfl (E_fn22) (by simp [AV.pureL, AV.pure, bs_pure]) (Nat.le_of_ble_eq_true rfl) rfl rfl, body_22, c22]
  have hy1 : 0 < ys.length := List.length_pos_iff.2 hy
  have bl := bits_length ys
  have B := fun f c => bits_con f c ys hb (by omega) hy1 500 (by omega)
  have L := loop_ok (aCall E 999) (dcall (aRun E 999)) 999 999 (bits ys) n (by omega) hz (by omega) (by omega)
  simp [b22, c22, firstReg] at L
  have e0 : ((ys.length : Int) + 1 == 0) = false := by simp; omega
  have e1 : (0 : Int) < (ys.length : Int) + 1 := by omega
  have e2 : ¬ (ys.length : Int) + 1 = 0 := by omega
  have e3 : ¬ 7 < x := by omega
  have w := w64 x (by omega) (by omega)
  have w1 := w64 (ys.length : Int) (by omega) (by omega)
  have w2 := w64 (8 * (ys.length : Int)) (by omega) (by omega)
  have e4 : ¬ 8 * (ys.length : Int) < x := by omega
  have w3 := w64 (n : Int) (by omega) (by omega)
  have bl2 : ((bits ys).length : Int) = 8 * (ys.length : Int) := by omega
  have e5 : ¬ 524288 < (n : Int) := by omega
  have e6 : n ≤ (bits ys).length := by omega
  have p := is_pure (bits ys)
  have ln := is_length (bits ys)
  have tk : (is (bits ys)).take n = is ((bits ys).take n) := by simp [is, List.map_take]
  obtain ⟨y0, g0⟩ : ∃ y, (bs ys)[0]? = some (.int .u8 y) := ⟨ys[0], by rw [bs_get]; simp [hy1]⟩
  simp [↓s_seq, ↓s_reg, ↓s_regd, ↓s_cond, ↓s_block, ↓s_cons, ↓s_consG, s_nil, s_loop, s_round, s_lpn, s_lpe, s_lpr, firstReg, s_gt, s_gf, s_wb, s_wu, s_val, s_valN, s_skip, s_calls, s_callP, s_cax, lookR, flatR, pureKs, s_ret, s_rgx, s_sqn, s_sqr, s_sqe, s_cdb, s_bkn, s_bkr, s_bke, s_exit, s_ret', s_skip', s_finr, s_finn, s_fin1, s_fix, s_clean, s_gc0, o_tmp, o_int, o_bool, o_nil, o_str, o_fn, o_nil', l_hit, l_miss, l_nil, ol_nil, ol_cons, ol_some, x_move, x_assign, x_pick, pk_t, pk_f, x_bin, bn_s, x_un, x_extract, x_callF, cl_no, x_callB, x_conv, cvx, convA, frame0, binA, intOp, resL, resA, results1, sealA, sealLW, AV.pure, AV.pureL, keepT, x_alloc, x_box, bxx, x_build, bdx, x_buildSlice, bsx, x_buildSliceF, bsf, x_load, ldx, x_store, stx, x_slice, slx, x_fieldAddr, x_field, x_index, ixx, x_indexAddr, iax, x_makeSlice, msx, x_nilCheck, newK, genOf, setK, lookK, fillA, writeL, writeC, readC, conts, TyI.mk1, sliceA, boundsA, boundsB, fitsA, numA, indexAddrA, fieldAddrA, partA, fieldA, indexA, appendA, copyA, builtinA, AV.cells, AV.scal, chunk, gcH, reach, keysT, keepK, inKs, AV.keys, AV.keysL, Ty.isAgg, eq1, eqL, convA.go, ltI, w_u8, w_u32, w_u64, w_i64, w_fdiv, w_tdiv, w_tmod, IntKind.bits, unA, bs_all, hy, g0, bs_cons, bs_pure, bs_length, e0, e1, e2, e3, w, w1, w2, e4, w3, B, bl2, ← hn, L, e5, e6, p, ln, tk, -s_round]
theorem get_bad (f c) (x : Int) (ys : List Int) (hb : isB ys) (h0 : 0 ≤ x) (h7 : x ≤ 7) (hy : ys ≠ []) (hl : ys.length ≤ 100) (n : Nat) (hn : (n : Int) = 8 * (ys.length : Int) - x) (j : Nat) (y : Int) (hj : (bits ys)[n + j]? = some y) (hyj : ¬ y = 0) (hz : ∀ i, i < j → (bits ys)[n + i]? = some 0) :
    Con E 1000 22 [.sl f (bs (x :: ys)) c] (.tup [.sl true [] (some 0), .int .i64 11]) := by
  refine .of (g := []) (by simp [AV.pureL, AV.pure, bs_pure]) ?_
  rw [aCall_fn rfl (E_fn22) (by simp [AV.pureL, AV.pure, bs_pure]) (Nat.le_of_ble_eq_true rfl) rfl rfl, body_22, c22]
  have hy1 : 0 < ys.length := List.length_pos_iff.2 hy
  have bl := bits_length ys
  have B := fun f c => bits_con f c ys hb (by omega) hy1 500 (by omega)
  have L := loop_bad (aCall E 999) (dcall (aRun E 999)) 999 999 (bits ys) n j y hj hyj hz (by omega) (by omega)
  simp [b22, c22, firstReg] at L
  have e0 : ((ys.length : Int) + 1 == 0) = false := by simp; omega
  have e1 : (0 : Int) < (ys.length : Int) + 1 := by omega
  have e2 : ¬ (ys.length : Int) + 1 = 0 := by omega
  have e3 : ¬ 7 < x := by omega
  have w := w64 x (by omega) (by omega)
  have w1 := w64 (ys.length : Int) (by omega) (by omega)
  have w2 := w64 (8 * (ys.length : Int)) (by omega) (by omega)
  have e4 : ¬ 8 * (ys.length : Int) < x := by omega
  have w3 := w64 (n : Int) (by omega) (by omega)
  have bl2 : ((bits ys).length : Int) = 8 * (ys.length : Int) := by omega
  have e5 : ¬ 524288 < (n : Int) := by omega
  have e6 : n ≤ (bits ys).length := by omega
  have p := is_pure (bits ys)
  have ln := is_length (bits ys)
  have tk : (is (bits ys)).take n = is ((bits ys).take n) := by simp [is, List.map_take]
  obtain ⟨y0, g0⟩ : ∃ y, (bs ys)[0]? = some (.int .u8 y) := ⟨ys[0], by rw [bs_get]; simp [hy1]⟩
  simp [↓s_seq, ↓s_reg, ↓s_regd, ↓s_cond, ↓s_block, ↓s_cons, ↓s_consG, s_nil, s_loop, s_round, s_lpn, s_lpe, s_lpr, firstReg, s_gt, s_gf, s_wb, s_wu, s_val, s_valN, s_skip, s_calls, s_callP, s_cax, lookR, flatR, pureKs, s_ret, s_rgx, s_sqn, s_sqr, s_sqe, s_cdb, s_bkn, s_bkr, s_bke, s_exit, s_ret', s_skip', s_finr, s_finn, s_fin1, s_fix, s_clean, s_gc0, o_tmp, o_int, o_bool, o_nil, o_str, o_fn, o_nil', l_hit, l_miss, l_nil, ol_nil, ol_cons, ol_some, x_move, x_assign, x_pick, pk_t, pk_f, x_bin, bn_s, x_un, x_extract, x_callF, cl_no, x_callB, x_conv, cvx, convA, frame0, binA, intOp, resL, resA, results1, sealA, sealLW, AV.pure, AV.pureL, keepT, x_alloc, x_box, bxx, x_build, bdx, x_buildSlice, bsx, x_buildSliceF, bsf, x_load, ldx, x_store, stx, x_slice, slx, x_fieldAddr, x_field, x_index, ixx, x_indexAddr, iax, x_makeSlice, msx, x_nilCheck, newK, genOf, setK, lookK, fillA, writeL, writeC, readC, conts, TyI.mk1, sliceA, boundsA, boundsB, fitsA, numA, indexAddrA, fieldAddrA, partA, fieldA, indexA, appendA, copyA, builtinA, AV.cells, AV.scal, chunk, gcH, reach, keysT, keepK, inKs, AV.keys, AV.keysL, Ty.isAgg, eq1, eqL, convA.go, ltI, w_u8, w_u32, w_u64, w_i64, w_fdiv, w_tdiv, w_tmod, IntKind.bits, unA, bs_all, hy, g0, bs_cons, bs_pure, bs_length, e0, e1, e2, e3, w, w1, w2, e4, w3, B, bl2, ← hn, L, e5, e6, p, ln, tk, -s_round]
end T8
