/- Named bits read by the reference, at the evaluator: what it answers. No conditions. -/
import Derived.Test.YtalmnhdnclmhbaaT14
open Ab Go TabB T1 T2 T4 T14
set_option maxRecDepth 20000
set_option linter.unusedSimpArgs false
set_option linter.unusedVariables false
set_option maxHeartbeats 8000000
namespace T15
theorem err (f c) (cs : List Int) (e : Int) (he : ¬ e = 0) (G : Con E 1000 22 [.sl f (bs cs) c] (.tup [.sl true [] (some 0), .int .i64 e])) : Con E 1010 27 [.sl f (bs cs) c] (.tup [.int .u64 0, .int .i64 e]) := by
  refine .of (g := []) (by simp [AV.pureL, AV.pure, bs_pure]) ?_
  rw [aCall_fn rfl (E_fn27) (by simp [AV.pureL, AV.pure, bs_pure]) (Nat.le_of_ble_eq_true rfl) rfl rfl, body_27, c27]
  have e1 : (e != 0) = true := by simp [he]
  simp [↓s_seq, ↓s_reg, ↓s_regd, ↓s_cond, ↓s_block, ↓s_cons, ↓s_consG, s_nil, s_loop, s_round, s_lpn, s_lpe, s_lpr, firstReg, s_gt, s_gf, s_wb, s_wu, s_val, s_valN, s_skip, s_calls, s_callP, s_cax, lookR, flatR, pureKs, s_ret, s_rgx, s_sqn, s_sqr, s_sqe, s_cdb, s_bkn, s_bkr, s_bke, s_exit, s_ret', s_skip', s_finr, s_finn, s_fin1, s_fix, s_clean, s_gc0, o_tmp, o_int, o_bool, o_nil, o_str, o_fn, o_nil', l_hit, l_miss, l_nil, ol_nil, ol_cons, ol_some, x_move, x_assign, x_pick, pk_t, pk_f, x_bin, bn_s, x_un, x_extract, x_callF, cl_no, x_callB, x_conv, cvx, convA, frame0, binA, intOp, resL, resA, results1, sealA, sealLW, AV.pure, AV.pureL, keepT, x_alloc, x_box, bxx, x_build, bdx, x_buildSlice, bsx, x_buildSliceF, bsf, x_load, ldx, x_store, stx, x_slice, slx, x_fieldAddr, x_field, x_index, ixx, x_indexAddr, iax, x_makeSlice, msx, x_nilCheck, newK, genOf, setK, lookK, fillA, writeL, writeC, readC, conts, TyI.mk1, sliceA, boundsA, boundsB, fitsA, numA, indexAddrA, fieldAddrA, partA, fieldA, indexA, appendA, copyA, builtinA, AV.cells, AV.scal, chunk, gcH, reach, keysT, keepK, inKs, AV.keys, AV.keysL, Ty.isAgg, eq1, eqL, convA.go, ltI, w_u8, w_u32, w_u64, w_i64, w_fdiv, w_tdiv, w_tmod, IntKind.bits, unA, bs_pure, G, e1, he]
theorem none_ (f c) (cs : List Int) (G : Con E 1000 22 [.sl f (bs cs) c] (.tup [.sl true [] (some 0), .int .i64 0])) : Con E 1010 27 [.sl f (bs cs) c] (.tup [.int .u64 0, .int .i64 0]) := by
  refine .of (g := []) (by simp [AV.pureL, AV.pure, bs_pure]) ?_
  rw [aCall_fn rfl (E_fn27) (by simp [AV.pureL, AV.pure, bs_pure]) (Nat.le_of_ble_eq_true rfl) rfl rfl, body_27, c27]
  simp [↓s_seq, ↓s_reg, ↓s_regd, ↓s_cond, ↓s_block, ↓s_cons, ↓s_consG, s_nil, s_loop, s_round, s_lpn, s_lpe, s_lpr, firstReg, s_gt, s_gf, s_wb, s_wu, s_val, s_valN, s_skip, s_calls, s_callP, s_cax, lookR, flatR, pureKs, s_ret, s_rgx, s_sqn, s_sqr, s_sqe, s_cdb, s_bkn, s_bkr, s_bke, s_exit, s_ret', s_skip', s_finr, s_finn, s_fin1, s_fix, s_clean, s_gc0, o_tmp, o_int, o_bool, o_nil, o_str, o_fn, o_nil', l_hit, l_miss, l_nil, ol_nil, ol_cons, ol_some, x_move, x_assign, x_pick, pk_t, pk_f, x_bin, bn_s, x_un, x_extract, x_callF, cl_no, x_callB, x_conv, cvx, convA, frame0, binA, intOp, resL, resA, results1, sealA, sealLW, AV.pure, AV.pureL, keepT, x_alloc, x_box, bxx, x_build, bdx, x_buildSlice, bsx, x_buildSliceF, bsf, x_load, ldx, x_store, stx, x_slice, slx, x_fieldAddr, x_field, x_index, ixx, x_indexAddr, iax, x_makeSlice, msx, x_nilCheck, newK, genOf, setK, lookK, fillA, writeL, writeC, readC, conts, TyI.mk1, sliceA, boundsA, boundsB, fitsA, numA, indexAddrA, fieldAddrA, partA, fieldA, indexA, appendA, copyA, builtinA, AV.cells, AV.scal, chunk, gcH, reach, keysT, keepK, inKs, AV.keys, AV.keysL, Ty.isAgg, eq1, eqL, convA.go, ltI, w_u8, w_u32, w_u64, w_i64, w_fdiv, w_tdiv, w_tmod, IntKind.bits, unA, bs_pure, G]
theorem zero_ (f c) (cs l : List Int) (hl : l ≠ []) (hn : l.length < 1000000) (hz : l[l.length - 1]? = some 0) (G : Con E 1000 22 [.sl f (bs cs) c] (.tup [.sl false (is l) none, .int .i64 0])) : Con E 1010 27 [.sl f (bs cs) c] (.tup [.int .u64 0, .int .i64 11]) := by
  refine .of (g := []) (by simp [AV.pureL, AV.pure, bs_pure]) ?_
  rw [aCall_fn rfl (E_fn27) (by simp [AV.pureL, AV.pure, bs_pure]) (Nat.le_of_ble_eq_true rfl) rfl rfl, body_27, c27]
  have h0 : 0 < l.length := List.length_pos_iff.2 hl
  have ix := atI false none l (l.length - 1) 0 hz
  have e1 : ((l.length - 1 : Nat) : Int) = (l.length : Int) - 1 := by omega
  rw [e1] at ix
  have w := w64 ((l.length : Int) - 1) (by omega) (by omega)
  have p := is_pure l
  have ln := is_length l
  simp [↓s_seq, ↓s_reg, ↓s_regd, ↓s_cond, ↓s_block, ↓s_cons, ↓s_consG, s_nil, s_loop, s_round, s_lpn, s_lpe, s_lpr, firstReg, s_gt, s_gf, s_wb, s_wu, s_val, s_valN, s_skip, s_calls, s_callP, s_cax, lookR, flatR, pureKs, s_ret, s_rgx, s_sqn, s_sqr, s_sqe, s_cdb, s_bkn, s_bkr, s_bke, s_exit, s_ret', s_skip', s_finr, s_finn, s_fin1, s_fix, s_clean, s_gc0, o_tmp, o_int, o_bool, o_nil, o_str, o_fn, o_nil', l_hit, l_miss, l_nil, ol_nil, ol_cons, ol_some, x_move, x_assign, x_pick, pk_t, pk_f, x_bin, bn_s, x_un, x_extract, x_callF, cl_no, x_callB, x_conv, cvx, convA, frame0, binA, intOp, resL, resA, results1, sealA, sealLW, AV.pure, AV.pureL, keepT, x_alloc, x_box, bxx, x_build, bdx, x_buildSlice, bsx, x_buildSliceF, bsf, x_load, ldx, x_store, stx, x_slice, slx, x_fieldAddr, x_field, x_index, ixx, x_indexAddr, iax, x_makeSlice, msx, x_nilCheck, newK, genOf, setK, lookK, fillA, writeL, writeC, readC, conts, TyI.mk1, sliceA, boundsA, boundsB, fitsA, numA, indexAddrA, fieldAddrA, partA, fieldA, indexA, appendA, copyA, builtinA, AV.cells, AV.scal, chunk, gcH, reach, keysT, keepK, inKs, AV.keys, AV.keysL, Ty.isAgg, eq1, eqL, convA.go, ltI, w_u8, w_u32, w_u64, w_i64, w_fdiv, w_tdiv, w_tmod, IntKind.bits, unA, bs_pure, G, p, ln, h0, hl, w, -indexAddrA, ix]
theorem big_ (f c) (cs l : List Int) (hl : l ≠ []) (hn : l.length < 1000000) (hz : l[l.length - 1]? = some 1) (h64 : 64 < l.length) (G : Con E 1000 22 [.sl f (bs cs) c] (.tup [.sl false (is l) none, .int .i64 0])) : Con E 1010 27 [.sl f (bs cs) c] (.tup [.int .u64 0, .int .i64 3]) := by
  refine .of (g := []) (by simp [AV.pureL, AV.pure, bs_pure]) ?_
  rw [aCall_fn rfl (E_fn27) (by simp [AV.pureL, AV.pure, bs_pure]) (Nat.le_of_ble_eq_true rfl) rfl rfl, body_27, c27]
  have h0 : 0 < l.length := List.length_pos_iff.2 hl
  have ix := atI false none l (l.length - 1) 1 hz
  have e1 : ((l.length - 1 : Nat) : Int) = (l.length : Int) - 1 := by omega
  rw [e1] at ix
  have w := w64 ((l.length : Int) - 1) (by omega) (by omega)
  have b : (64 : Int) < (l.length : Int) := by omega
  have p := is_pure l
  have ln := is_length l
  simp [↓s_seq, ↓s_reg, ↓s_regd, ↓s_cond, ↓s_block, ↓s_cons, ↓s_consG, s_nil, s_loop, s_round, s_lpn, s_lpe, s_lpr, firstReg, s_gt, s_gf, s_wb, s_wu, s_val, s_valN, s_skip, s_calls, s_callP, s_cax, lookR, flatR, pureKs, s_ret, s_rgx, s_sqn, s_sqr, s_sqe, s_cdb, s_bkn, s_bkr, s_bke, s_exit, s_ret', s_skip', s_finr, s_finn, s_fin1, s_fix, s_clean, s_gc0, o_tmp, o_int, o_bool, o_nil, o_str, o_fn, o_nil', l_hit, l_miss, l_nil, ol_nil, ol_cons, ol_some, x_move, x_assign, x_pick, pk_t, pk_f, x_bin, bn_s, x_un, x_extract, x_callF, cl_no, x_callB, x_conv, cvx, convA, frame0, binA, intOp, resL, resA, results1, sealA, sealLW, AV.pure, AV.pureL, keepT, x_alloc, x_box, bxx, x_build, bdx, x_buildSlice, bsx, x_buildSliceF, bsf, x_load, ldx, x_store, stx, x_slice, slx, x_fieldAddr, x_field, x_index, ixx, x_indexAddr, iax, x_makeSlice, msx, x_nilCheck, newK, genOf, setK, lookK, fillA, writeL, writeC, readC, conts, TyI.mk1, sliceA, boundsA, boundsB, fitsA, numA, indexAddrA, fieldAddrA, partA, fieldA, indexA, appendA, copyA, builtinA, AV.cells, AV.scal, chunk, gcH, reach, keysT, keepK, inKs, AV.keys, AV.keysL, Ty.isAgg, eq1, eqL, convA.go, ltI, w_u8, w_u32, w_u64, w_i64, w_fdiv, w_tdiv, w_tmod, IntKind.bits, unA, bs_pure, G, p, ln, h0, hl, w, -indexAddrA, ix, b, h64]
theorem ok_ (f c) (cs l : List Int) (hb : isBit l) (hl : l ≠ []) (hz : l[l.length - 1]? = some 1) (h64 : l.length ≤ 64) (G : Con E 1000 22 [.sl f (bs cs) c] (.tup [.sl false (is l) none, .int .i64 0])) : Con E 1010 27 [.sl f (bs cs) c] (.tup [.int .u64 (W l), .int .i64 0]) := by
  refine .of (g := []) (by simp [AV.pureL, AV.pure, bs_pure]) ?_
  rw [aCall_fn rfl (E_fn27) (by simp [AV.pureL, AV.pure, bs_pure]) (Nat.le_of_ble_eq_true rfl) rfl rfl, body_27, c27]
  have h0 : 0 < l.length := List.length_pos_iff.2 hl
  have ix := atI false none l (l.length - 1) 1 hz
  have e1 : ((l.length - 1 : Nat) : Int) = (l.length : Int) - 1 := by omega
  rw [e1] at ix
  have w := w64 ((l.length : Int) - 1) (by omega) (by omega)
  have b : ¬ (64 : Int) < (l.length : Int) := by omega
  have b2 : ¬ 64 < l.length := by omega
  have p := is_pure l
  have ln := is_length l
  have L := loop (aCall E 1009) (dcall (aRun E 1009)) 1009 1009 l hb h64 (by omega)
  simp [b27, c27, firstReg] at L
  simp [↓s_seq, ↓s_reg, ↓s_regd, ↓s_cond, ↓s_block, ↓s_cons, ↓s_consG, s_nil, s_loop, s_round, s_lpn, s_lpe, s_lpr, firstReg, s_gt, s_gf, s_wb, s_wu, s_val, s_valN, s_skip, s_calls, s_callP, s_cax, lookR, flatR, pureKs, s_ret, s_rgx, s_sqn, s_sqr, s_sqe, s_cdb, s_bkn, s_bkr, s_bke, s_exit, s_ret', s_skip', s_finr, s_finn, s_fin1, s_fix, s_clean, s_gc0, o_tmp, o_int, o_bool, o_nil, o_str, o_fn, o_nil', l_hit, l_miss, l_nil, ol_nil, ol_cons, ol_some, x_move, x_assign, x_pick, pk_t, pk_f, x_bin, bn_s, x_un, x_extract, x_callF, cl_no, x_callB, x_conv, cvx, convA, frame0, binA, intOp, resL, resA, results1, sealA, sealLW, AV.pure, AV.pureL, keepT, x_alloc, x_box, bxx, x_build, bdx, x_buildSlice, bsx, x_buildSliceF, bsf, x_load, ldx, x_store, stx, x_slice, slx, x_fieldAddr, x_field, x_index, ixx, x_indexAddr, iax, x_makeSlice, msx, x_nilCheck, newK, genOf, setK, lookK, fillA, writeL, writeC, readC, conts, TyI.mk1, sliceA, boundsA, boundsB, fitsA, numA, indexAddrA, fieldAddrA, partA, fieldA, indexA, appendA, copyA, builtinA, AV.cells, AV.scal, chunk, gcH, reach, keysT, keepK, inKs, AV.keys, AV.keysL, Ty.isAgg, eq1, eqL, convA.go, ltI, w_u8, w_u32, w_u64, w_i64, w_fdiv, w_tdiv, w_tmod, IntKind.bits, unA, bs_pure, G, p, ln, h0, hl, w, -indexAddrA, ix, b, b2, L, -s_round]
end T15
