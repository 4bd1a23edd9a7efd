/- The law BitstringsGet at the evaluator: true at every row of octets. No conditions. -/
import Derived.Test.YtalmnhdnclmhbaaT23
import Derived.Test.YtalmnhdnclmhbaaT18
import Derived.Test.YtalmnhdnclmhbaaT13
import Derived.Test.YtalmnhdnclmhbaaT8
import Derived.Test.YtalmnhdnclmhbaaT10
import Derived.KernelRfl
open Ab Go TabB T1 T2 T3 T4 T5 T6 T14
set_option maxRecDepth 20000
set_option linter.unusedSimpArgs false
set_option linter.unusedVariables false
set_option maxHeartbeats 16000000
namespace T24
theorem lives : Con E 100 21 [] (.bool true) := by
  obtain ⟨g, h⟩ := isT_some (show isT (aCall E 100 0 21 [] []) = true by kernel_rfl)
  exact .of (g := g) rfl h
theorem named (f c) (cs : List Int) (w e : Int) (G : Con E 1000 48 [.sl f (bs cs) c] (.tup [.int .u64 w, .int .i64 e])) : Con E 1010 28 [.sl f (bs cs) c, .int .u64 w, .int .i64 e] (.bool true) := by
  refine .of (g := []) (by simp [AV.pureL, AV.pure, bs_pure]) ?_
  rw [aCall_fn rfl (E_fn28) (by simp [AV.pureL, AV.pure, bs_pure]) (Nat.le_of_ble_eq_true rfl) rfl rfl, body_28, c28]
  simp [↓s_seq, ↓s_reg, ↓s_regd, ↓s_cond, ↓s_block, ↓s_cons, ↓s_consG, s_nil, s_loop, s_round, s_lpn, s_lpe, s_lpr, firstReg, s_gt, s_gf, s_wb, s_wu, s_val, s_valN, s_skip, s_calls, s_callP, s_cax, lookR, flatR, pureKs, s_ret, s_rgx, s_sqn, s_sqr, s_sqe, s_cdb, s_bkn, s_bkr, s_bke, s_exit, s_ret', s_skip', s_finr, s_finn, s_fin1, s_fix, s_clean, s_gc0, o_tmp, o_int, o_bool, o_nil, o_str, o_fn, o_nil', l_hit, l_miss, l_nil, ol_nil, ol_cons, ol_some, x_move, x_assign, x_pick, pk_t, pk_f, x_bin, bn_s, x_un, x_extract, x_callF, cl_no, x_callB, x_conv, cvx, convA, frame0, binA, intOp, resL, resA, results1, sealA, sealLW, AV.pure, AV.pureL, keepT, x_alloc, x_box, bxx, x_build, bdx, x_buildSlice, bsx, x_buildSliceF, bsf, x_load, ldx, x_store, stx, x_slice, slx, x_fieldAddr, x_field, x_index, ixx, x_indexAddr, iax, x_makeSlice, msx, x_nilCheck, newK, genOf, setK, lookK, fillA, writeL, writeC, readC, conts, TyI.mk1, sliceA, boundsA, boundsB, fitsA, numA, indexAddrA, fieldAddrA, partA, fieldA, indexA, appendA, copyA, builtinA, AV.cells, AV.scal, chunk, gcH, reach, keysT, keepK, inKs, AV.keys, AV.keysL, Ty.isAgg, eq1, eqL, convA.go, ltI, w_u8, w_u32, w_u64, w_i64, w_fdiv, w_tdiv, w_tmod, IntKind.bits, unA, bs_pure, G]
theorem big (f c) (cs : List Int) (h : 60 < (cs.length : Int)) : Con E 1100 8 [.sl f (bs cs) c] (.bool true) := by
  refine .of (g := []) (by simp [AV.pureL, AV.pure, bs_pure]) ?_
  rw [aCall_fn rfl (E_fn8) (by simp [AV.pureL, AV.pure, bs_pure]) (Nat.le_of_ble_eq_true rfl) rfl rfl, body_8, c8]
  simp [↓s_seq, ↓s_reg, ↓s_regd, ↓s_cond, ↓s_block, ↓s_cons, ↓s_consG, s_nil, s_loop, s_round, s_lpn, s_lpe, s_lpr, firstReg, s_gt, s_gf, s_wb, s_wu, s_val, s_valN, s_skip, s_calls, s_callP, s_cax, lookR, flatR, pureKs, s_ret, s_rgx, s_sqn, s_sqr, s_sqe, s_cdb, s_bkn, s_bkr, s_bke, s_exit, s_ret', s_skip', s_finr, s_finn, s_fin1, s_fix, s_clean, s_gc0, o_tmp, o_int, o_bool, o_nil, o_str, o_fn, o_nil', l_hit, l_miss, l_nil, ol_nil, ol_cons, ol_some, x_move, x_assign, x_pick, pk_t, pk_f, x_bin, bn_s, x_un, x_extract, x_callF, cl_no, x_callB, x_conv, cvx, convA, frame0, binA, intOp, resL, resA, results1, sealA, sealLW, AV.pure, AV.pureL, keepT, x_alloc, x_box, bxx, x_build, bdx, x_buildSlice, bsx, x_buildSliceF, bsf, x_load, ldx, x_store, stx, x_slice, slx, x_fieldAddr, x_field, x_index, ixx, x_indexAddr, iax, x_makeSlice, msx, x_nilCheck, newK, genOf, setK, lookK, fillA, writeL, writeC, readC, conts, TyI.mk1, sliceA, boundsA, boundsB, fitsA, numA, indexAddrA, fieldAddrA, partA, fieldA, indexA, appendA, copyA, builtinA, AV.cells, AV.scal, chunk, gcH, reach, keysT, keepK, inKs, AV.keys, AV.keysL, Ty.isAgg, eq1, eqL, convA.go, ltI, w_u8, w_u32, w_u64, w_i64, w_fdiv, w_tdiv, w_tmod, IntKind.bits, unA, bs_pure, bs_length, h, lives]
/-- Where both refuse. -/
theorem bad (f c) (cs : List Int) (h : ¬ 60 < (cs.length : Int)) (R : Con E 1000 22 [.sl f (bs cs) c] (.tup [.sl true [] (some 0), .int .i64 11])) (G : Con E 100 31 [.sl f (bs cs) c] (.tup [.sl true [] (some 0), .int .i64 0, .int .i64 11])) : Con E 1100 8 [.sl f (bs cs) c] (.bool true) := by
  refine .of (g := []) (by simp [AV.pureL, AV.pure, bs_pure]) ?_
  rw [aCall_fn rfl (E_fn8) (by simp [AV.pureL, AV.pure, bs_pure]) (Nat.le_of_ble_eq_true rfl) rfl rfl, body_8, c8]
  have B := bytes_nil true (some 0)
  have rd := T10.read f c true true (some 0) cs [] 0 11 isB_nil G
  simp only [bs_nil] at rd
  have N1 := T15.err f c cs 11 (by decide) R
  have N2 := named f c cs 0 11 (T18.err f c cs G)
  simp [↓s_seq, ↓s_reg, ↓s_regd, ↓s_cond, ↓s_block, ↓s_cons, ↓s_consG, s_nil, s_loop, s_round, s_lpn, s_lpe, s_lpr, firstReg, s_gt, s_gf, s_wb, s_wu, s_val, s_valN, s_skip, s_calls, s_callP, s_cax, lookR, flatR, pureKs, s_ret, s_rgx, s_sqn, s_sqr, s_sqe, s_cdb, s_bkn, s_bkr, s_bke, s_exit, s_ret', s_skip', s_finr, s_finn, s_fin1, s_fix, s_clean, s_gc0, o_tmp, o_int, o_bool, o_nil, o_str, o_fn, o_nil', l_hit, l_miss, l_nil, ol_nil, ol_cons, ol_some, x_move, x_assign, x_pick, pk_t, pk_f, x_bin, bn_s, x_un, x_extract, x_callF, cl_no, x_callB, x_conv, cvx, convA, frame0, binA, intOp, resL, resA, results1, sealA, sealLW, AV.pure, AV.pureL, keepT, x_alloc, x_box, bxx, x_build, bdx, x_buildSlice, bsx, x_buildSliceF, bsf, x_load, ldx, x_store, stx, x_slice, slx, x_fieldAddr, x_field, x_index, ixx, x_indexAddr, iax, x_makeSlice, msx, x_nilCheck, newK, genOf, setK, lookK, fillA, writeL, writeC, readC, conts, TyI.mk1, sliceA, boundsA, boundsB, fitsA, numA, indexAddrA, fieldAddrA, partA, fieldA, indexA, appendA, copyA, builtinA, AV.cells, AV.scal, chunk, gcH, reach, keysT, keepK, inKs, AV.keys, AV.keysL, Ty.isAgg, eq1, eqL, convA.go, ltI, w_u8, w_u32, w_u64, w_i64, w_fdiv, w_tdiv, w_tmod, IntKind.bits, unA, bs_pure, bs_length, h, lives, R, B, rd, N1, N2]
end T24
