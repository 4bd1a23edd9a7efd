/- The octets of a number, read and written by the reference, at the evaluator. No conditions. -/
import Derived.Test.YtbgmkcmailcciaaDoorR1
open Ab Go TabC R1
set_option maxRecDepth 20000
set_option linter.unusedSimpArgs false
set_option linter.unusedVariables false
set_option maxHeartbeats 8000000
namespace R9
theorem wr {n : Int} (d : Int) (h : 0 ≤ n) (h1 : n < 2147483648) (hd : 0 < d) : n / d % 4294967296 = n / d := Int.emod_eq_of_lt (Int.ediv_nonneg h (by omega)) (by have := Int.ediv_le_self d h; omega)
theorem int0 : Con E 40 22 [.int .u32 0] (.sl false [.int .u8 0] (some 1)) := by
  refine .of (g := []) rfl ?_
  rw [aCall_fn rfl (E_fn22) rfl (Nat.le_of_ble_eq_true rfl) rfl rfl, body_22, c22]
  simp [↓s_seq, ↓s_reg, ↓s_regd, ↓s_cond, ↓s_block, ↓s_cons, ↓s_consG, s_nil, s_loop, s_round, s_lpn, s_lpe, s_lpr, firstReg, s_gt, s_gf, s_wb, s_wu, s_val, s_valN, s_skip, s_calls, s_callP, s_cax, lookR, flatR, pureKs, s_ret, s_rgx, s_sqn, s_sqr, s_sqe, s_cdb, s_bkn, s_bkr, s_bke, s_exit, s_ret', s_skip', s_finr, s_finn, s_fin1, s_fix, s_clean, s_gc0, o_tmp, o_int, o_bool, o_nil, o_str, o_fn, o_nil', l_hit, l_miss, l_nil, ol_nil, ol_cons, ol_some, x_move, x_assign, x_pick, pk_t, pk_f, x_bin, bn_s, x_un, x_extract, x_callF, cl_no, x_callB, x_conv, cvx, convA, frame0, binA, intOp, resL, resA, results1, sealA, sealLW, AV.pure, AV.pureL, keepT, x_alloc, x_box, bxx, x_build, bdx, x_buildSlice, bsx, x_buildSliceF, bsf, x_load, ldx, x_store, stx, x_slice, slx, x_fieldAddr, x_field, x_index, ixx, x_indexAddr, iax, x_makeSlice, msx, x_nilCheck, newK, genOf, setK, lookK, fillA, writeL, writeC, readC, conts, TyI.mk1, sliceA, boundsA, boundsB, fitsA, numA, indexAddrA, fieldAddrA, partA, fieldA, indexA, appendA, copyA, builtinA, AV.cells, AV.scal, chunk, gcH, reach, keysT, keepK, inKs, AV.keys, AV.keysL, Ty.isAgg, eq1, eqL, convA.go, ltI, w_u8, w_u32, w_u64, w_i64, w_fdiv, w_tdiv, w_tmod, IntKind.bits, unA]
theorem int1 (n : Int) (h0 : 1 ≤ n) (h1 : n < 128) : Con E 40 22 [.int .u32 n] (.sl false [.int .u8 (n % 256)] (some 1)) := by
  have g0 : 0 ≤ n := by omega
  have g1 : n < 2147483648 := by omega
  have w0 : n % 4294967296 = n := Int.emod_eq_of_lt g0 (by omega)
  have q0 : (n).tdiv 256 = n / 256 := by rw [Int.tdiv_eq_ediv_of_nonneg (by omega)]
  have m0 : (n).tmod 256 = n % 256 := Int.tmod_eq_emod_of_nonneg (by omega)
  have w1 : n / 256 % 4294967296 = n / 256 := wr _ g0 g1 (by omega)
  have p0 : 0 < n := by omega
  have z : n / 256 = 0 := by omega
  have t : ¬ 127 < n % 256 := by omega
  refine .of (g := []) rfl ?_
  rw [aCall_fn rfl (E_fn22) rfl (Nat.le_of_ble_eq_true rfl) rfl rfl, body_22, c22]
  simp [↓s_seq, ↓s_reg, ↓s_regd, ↓s_cond, ↓s_block, ↓s_cons, ↓s_consG, s_nil, s_loop, s_round, s_lpn, s_lpe, s_lpr, firstReg, s_gt, s_gf, s_wb, s_wu, s_val, s_valN, s_skip, s_calls, s_callP, s_cax, lookR, flatR, pureKs, s_ret, s_rgx, s_sqn, s_sqr, s_sqe, s_cdb, s_bkn, s_bkr, s_bke, s_exit, s_ret', s_skip', s_finr, s_finn, s_fin1, s_fix, s_clean, s_gc0, o_tmp, o_int, o_bool, o_nil, o_str, o_fn, o_nil', l_hit, l_miss, l_nil, ol_nil, ol_cons, ol_some, x_move, x_assign, x_pick, pk_t, pk_f, x_bin, bn_s, x_un, x_extract, x_callF, cl_no, x_callB, x_conv, cvx, convA, frame0, binA, intOp, resL, resA, results1, sealA, sealLW, AV.pure, AV.pureL, keepT, x_alloc, x_box, bxx, x_build, bdx, x_buildSlice, bsx, x_buildSliceF, bsf, x_load, ldx, x_store, stx, x_slice, slx, x_fieldAddr, x_field, x_index, ixx, x_indexAddr, iax, x_makeSlice, msx, x_nilCheck, newK, genOf, setK, lookK, fillA, writeL, writeC, readC, conts, TyI.mk1, sliceA, boundsA, boundsB, fitsA, numA, indexAddrA, fieldAddrA, partA, fieldA, indexA, appendA, copyA, builtinA, AV.cells, AV.scal, chunk, gcH, reach, keysT, keepK, inKs, AV.keys, AV.keysL, Ty.isAgg, eq1, eqL, convA.go, ltI, w_u8, w_u32, w_u64, w_i64, w_fdiv, w_tdiv, w_tmod, IntKind.bits, unA, w0, q0, m0, w1, p0, z, t]
theorem int2B (n : Int) (h0 : 128 ≤ n) (h1 : n < 256) : Con E 40 22 [.int .u32 n] (.sl false [.int .u8 (n / 256 % 256), .int .u8 (n % 256)] none) := by
  have g0 : 0 ≤ n := by omega
  have g1 : n < 2147483648 := by omega
  have w0 : n % 4294967296 = n := Int.emod_eq_of_lt g0 (by omega)
  have q0 : (n).tdiv 256 = n / 256 := by rw [Int.tdiv_eq_ediv_of_nonneg (by omega)]
  have m0 : (n).tmod 256 = n % 256 := Int.tmod_eq_emod_of_nonneg (by omega)
  have w1 : n / 256 % 4294967296 = n / 256 := wr _ g0 g1 (by omega)
  have p0 : 0 < n := by omega
  have z : n / 256 = 0 := by omega
  have t : 127 < n % 256 := by omega
  have tz : n / 256 % 256 = 0 := by omega
  refine .of (g := []) rfl ?_
  rw [aCall_fn rfl (E_fn22) rfl (Nat.le_of_ble_eq_true rfl) rfl rfl, body_22, c22]
  simp [↓s_seq, ↓s_reg, ↓s_regd, ↓s_cond, ↓s_block, ↓s_cons, ↓s_consG, s_nil, s_loop, s_round, s_lpn, s_lpe, s_lpr, firstReg, s_gt, s_gf, s_wb, s_wu, s_val, s_valN, s_skip, s_calls, s_callP, s_cax, lookR, flatR, pureKs, s_ret, s_rgx, s_sqn, s_sqr, s_sqe, s_cdb, s_bkn, s_bkr, s_bke, s_exit, s_ret', s_skip', s_finr, s_finn, s_fin1, s_fix, s_clean, s_gc0, o_tmp, o_int, o_bool, o_nil, o_str, o_fn, o_nil', l_hit, l_miss, l_nil, ol_nil, ol_cons, ol_some, x_move, x_assign, x_pick, pk_t, pk_f, x_bin, bn_s, x_un, x_extract, x_callF, cl_no, x_callB, x_conv, cvx, convA, frame0, binA, intOp, resL, resA, results1, sealA, sealLW, AV.pure, AV.pureL, keepT, x_alloc, x_box, bxx, x_build, bdx, x_buildSlice, bsx, x_buildSliceF, bsf, x_load, ldx, x_store, stx, x_slice, slx, x_fieldAddr, x_field, x_index, ixx, x_indexAddr, iax, x_makeSlice, msx, x_nilCheck, newK, genOf, setK, lookK, fillA, writeL, writeC, readC, conts, TyI.mk1, sliceA, boundsA, boundsB, fitsA, numA, indexAddrA, fieldAddrA, partA, fieldA, indexA, appendA, copyA, builtinA, AV.cells, AV.scal, chunk, gcH, reach, keysT, keepK, inKs, AV.keys, AV.keysL, Ty.isAgg, eq1, eqL, convA.go, ltI, w_u8, w_u32, w_u64, w_i64, w_fdiv, w_tdiv, w_tmod, IntKind.bits, unA, w0, q0, m0, w1, p0, z, t, tz]
theorem int2A (n : Int) (h0 : 256 ≤ n) (h1 : n < 32768) : Con E 40 22 [.int .u32 n] (.sl false [.int .u8 (n / 256 % 256), .int .u8 (n % 256)] none) := by
  have g0 : 0 ≤ n := by omega
  have g1 : n < 2147483648 := by omega
  have w0 : n % 4294967296 = n := Int.emod_eq_of_lt g0 (by omega)
  have q0 : (n).tdiv 256 = n / 256 := by rw [Int.tdiv_eq_ediv_of_nonneg (by omega)]
  have m0 : (n).tmod 256 = n % 256 := Int.tmod_eq_emod_of_nonneg (by omega)
  have q1 : (n / 256).tdiv 256 = n / 65536 := by rw [Int.tdiv_eq_ediv_of_nonneg (by omega)]; rw [Int.ediv_ediv_of_nonneg (by omega)]; rfl
  have m1 : (n / 256).tmod 256 = n / 256 % 256 := Int.tmod_eq_emod_of_nonneg (by omega)
  have w1 : n / 256 % 4294967296 = n / 256 := wr _ g0 g1 (by omega)
  have w2 : n / 65536 % 4294967296 = n / 65536 := wr _ g0 g1 (by omega)
  have p0 : 0 < n := by omega
  have p1 : 0 < n / 256 := by omega
  have z : n / 65536 = 0 := by omega
  have d2 : n / 256 / 256 = n / 65536 := by rw [Int.ediv_ediv_of_nonneg (by omega)]; rfl
  have t : ¬ 127 < n / 256 % 256 := by omega
  refine .of (g := []) rfl ?_
  rw [aCall_fn rfl (E_fn22) rfl (Nat.le_of_ble_eq_true rfl) rfl rfl, body_22, c22]
  simp [↓s_seq, ↓s_reg, ↓s_regd, ↓s_cond, ↓s_block, ↓s_cons, ↓s_consG, s_nil, s_loop, s_round, s_lpn, s_lpe, s_lpr, firstReg, s_gt, s_gf, s_wb, s_wu, s_val, s_valN, s_skip, s_calls, s_callP, s_cax, lookR, flatR, pureKs, s_ret, s_rgx, s_sqn, s_sqr, s_sqe, s_cdb, s_bkn, s_bkr, s_bke, s_exit, s_ret', s_skip', s_finr, s_finn, s_fin1, s_fix, s_clean, s_gc0, o_tmp, o_int, o_bool, o_nil, o_str, o_fn, o_nil', l_hit, l_miss, l_nil, ol_nil, ol_cons, ol_some, x_move, x_assign, x_pick, pk_t, pk_f, x_bin, bn_s, x_un, x_extract, x_callF, cl_no, x_callB, x_conv, cvx, convA, frame0, binA, intOp, resL, resA, results1, sealA, sealLW, AV.pure, AV.pureL, keepT, x_alloc, x_box, bxx, x_build, bdx, x_buildSlice, bsx, x_buildSliceF, bsf, x_load, ldx, x_store, stx, x_slice, slx, x_fieldAddr, x_field, x_index, ixx, x_indexAddr, iax, x_makeSlice, msx, x_nilCheck, newK, genOf, setK, lookK, fillA, writeL, writeC, readC, conts, TyI.mk1, sliceA, boundsA, boundsB, fitsA, numA, indexAddrA, fieldAddrA, partA, fieldA, indexA, appendA, copyA, builtinA, AV.cells, AV.scal, chunk, gcH, reach, keysT, keepK, inKs, AV.keys, AV.keysL, Ty.isAgg, eq1, eqL, convA.go, ltI, w_u8, w_u32, w_u64, w_i64, w_fdiv, w_tdiv, w_tmod, IntKind.bits, unA, w0, q0, m0, q1, m1, w1, w2, p0, p1, z, d2, t]
theorem int3B (n : Int) (h0 : 32768 ≤ n) (h1 : n < 65536) : Con E 40 22 [.int .u32 n] (.sl false [.int .u8 (n / 65536 % 256), .int .u8 (n / 256 % 256), .int .u8 (n % 256)] none) := by
  have g0 : 0 ≤ n := by omega
  have g1 : n < 2147483648 := by omega
  have w0 : n % 4294967296 = n := Int.emod_eq_of_lt g0 (by omega)
  have q0 : (n).tdiv 256 = n / 256 := by rw [Int.tdiv_eq_ediv_of_nonneg (by omega)]
  have m0 : (n).tmod 256 = n % 256 := Int.tmod_eq_emod_of_nonneg (by omega)
  have q1 : (n / 256).tdiv 256 = n / 65536 := by rw [Int.tdiv_eq_ediv_of_nonneg (by omega)]; rw [Int.ediv_ediv_of_nonneg (by omega)]; rfl
  have m1 : (n / 256).tmod 256 = n / 256 % 256 := Int.tmod_eq_emod_of_nonneg (by omega)
  have w1 : n / 256 % 4294967296 = n / 256 := wr _ g0 g1 (by omega)
  have w2 : n / 65536 % 4294967296 = n / 65536 := wr _ g0 g1 (by omega)
  have p0 : 0 < n := by omega
  have p1 : 0 < n / 256 := by omega
  have z : n / 65536 = 0 := by omega
  have d2 : n / 256 / 256 = n / 65536 := by rw [Int.ediv_ediv_of_nonneg (by omega)]; rfl
  have t : 127 < n / 256 % 256 := by omega
  have tz : n / 65536 % 256 = 0 := by omega
  refine .of (g := []) rfl ?_
  rw [aCall_fn rfl (E_fn22) rfl (Nat.le_of_ble_eq_true rfl) rfl rfl, body_22, c22]
  simp [↓s_seq, ↓s_reg, ↓s_regd, ↓s_cond, ↓s_block, ↓s_cons, ↓s_consG, s_nil, s_loop, s_round, s_lpn, s_lpe, s_lpr, firstReg, s_gt, s_gf, s_wb, s_wu, s_val, s_valN, s_skip, s_calls, s_callP, s_cax, lookR, flatR, pureKs, s_ret, s_rgx, s_sqn, s_sqr, s_sqe, s_cdb, s_bkn, s_bkr, s_bke, s_exit, s_ret', s_skip', s_finr, s_finn, s_fin1, s_fix, s_clean, s_gc0, o_tmp, o_int, o_bool, o_nil, o_str, o_fn, o_nil', l_hit, l_miss, l_nil, ol_nil, ol_cons, ol_some, x_move, x_assign, x_pick, pk_t, pk_f, x_bin, bn_s, x_un, x_extract, x_callF, cl_no, x_callB, x_conv, cvx, convA, frame0, binA, intOp, resL, resA, results1, sealA, sealLW, AV.pure, AV.pureL, keepT, x_alloc, x_box, bxx, x_build, bdx, x_buildSlice, bsx, x_buildSliceF, bsf, x_load, ldx, x_store, stx, x_slice, slx, x_fieldAddr, x_field, x_index, ixx, x_indexAddr, iax, x_makeSlice, msx, x_nilCheck, newK, genOf, setK, lookK, fillA, writeL, writeC, readC, conts, TyI.mk1, sliceA, boundsA, boundsB, fitsA, numA, indexAddrA, fieldAddrA, partA, fieldA, indexA, appendA, copyA, builtinA, AV.cells, AV.scal, chunk, gcH, reach, keysT, keepK, inKs, AV.keys, AV.keysL, Ty.isAgg, eq1, eqL, convA.go, ltI, w_u8, w_u32, w_u64, w_i64, w_fdiv, w_tdiv, w_tmod, IntKind.bits, unA, w0, q0, m0, q1, m1, w1, w2, p0, p1, z, d2, t, tz]
theorem int3A (n : Int) (h0 : 65536 ≤ n) (h1 : n < 8388608) : Con E 40 22 [.int .u32 n] (.sl false [.int .u8 (n / 65536 % 256), .int .u8 (n / 256 % 256), .int .u8 (n % 256)] none) := by
  have g0 : 0 ≤ n := by omega
  have g1 : n < 2147483648 := by omega
  have w0 : n % 4294967296 = n := Int.emod_eq_of_lt g0 (by omega)
  have q0 : (n).tdiv 256 = n / 256 := by rw [Int.tdiv_eq_ediv_of_nonneg (by omega)]
  have m0 : (n).tmod 256 = n % 256 := Int.tmod_eq_emod_of_nonneg (by omega)
  have q1 : (n / 256).tdiv 256 = n / 65536 := by rw [Int.tdiv_eq_ediv_of_nonneg (by omega)]; rw [Int.ediv_ediv_of_nonneg (by omega)]; rfl
  have m1 : (n / 256).tmod 256 = n / 256 % 256 := Int.tmod_eq_emod_of_nonneg (by omega)
  have q2 : (n / 65536).tdiv 256 = n / 16777216 := by rw [Int.tdiv_eq_ediv_of_nonneg (by omega)]; rw [Int.ediv_ediv_of_nonneg (by omega)]; rfl
  have m2 : (n / 65536).tmod 256 = n / 65536 % 256 := Int.tmod_eq_emod_of_nonneg (by omega)
  have w1 : n / 256 % 4294967296 = n / 256 := wr _ g0 g1 (by omega)
  have w2 : n / 65536 % 4294967296 = n / 65536 := wr _ g0 g1 (by omega)
  have w3 : n / 16777216 % 4294967296 = n / 16777216 := wr _ g0 g1 (by omega)
  have p0 : 0 < n := by omega
  have p1 : 0 < n / 256 := by omega
  have p2 : 0 < n / 65536 := by omega
  have z : n / 16777216 = 0 := by omega
  have d2 : n / 256 / 256 = n / 65536 := by rw [Int.ediv_ediv_of_nonneg (by omega)]; rfl
  have d3 : n / 65536 / 256 = n / 16777216 := by rw [Int.ediv_ediv_of_nonneg (by omega)]; rfl
  have t : ¬ 127 < n / 65536 % 256 := by omega
  refine .of (g := []) rfl ?_
  rw [aCall_fn rfl (E_fn22) rfl (Nat.le_of_ble_eq_true rfl) rfl rfl, body_22, c22]
  simp [↓s_seq, ↓s_reg, ↓s_regd, ↓s_cond, ↓s_block, ↓s_cons, ↓s_consG, s_nil, s_loop, s_round, s_lpn, s_lpe, s_lpr, firstReg, s_gt, s_gf, s_wb, s_wu, s_val, s_valN, s_skip, s_calls, s_callP, s_cax, lookR, flatR, pureKs, s_ret, s_rgx, s_sqn, s_sqr, s_sqe, s_cdb, s_bkn, s_bkr, s_bke, s_exit, s_ret', s_skip', s_finr, s_finn, s_fin1, s_fix, s_clean, s_gc0, o_tmp, o_int, o_bool, o_nil, o_str, o_fn, o_nil', l_hit, l_miss, l_nil, ol_nil, ol_cons, ol_some, x_move, x_assign, x_pick, pk_t, pk_f, x_bin, bn_s, x_un, x_extract, x_callF, cl_no, x_callB, x_conv, cvx, convA, frame0, binA, intOp, resL, resA, results1, sealA, sealLW, AV.pure, AV.pureL, keepT, x_alloc, x_box, bxx, x_build, bdx, x_buildSlice, bsx, x_buildSliceF, bsf, x_load, ldx, x_store, stx, x_slice, slx, x_fieldAddr, x_field, x_index, ixx, x_indexAddr, iax, x_makeSlice, msx, x_nilCheck, newK, genOf, setK, lookK, fillA, writeL, writeC, readC, conts, TyI.mk1, sliceA, boundsA, boundsB, fitsA, numA, indexAddrA, fieldAddrA, partA, fieldA, indexA, appendA, copyA, builtinA, AV.cells, AV.scal, chunk, gcH, reach, keysT, keepK, inKs, AV.keys, AV.keysL, Ty.isAgg, eq1, eqL, convA.go, ltI, w_u8, w_u32, w_u64, w_i64, w_fdiv, w_tdiv, w_tmod, IntKind.bits, unA, w0, q0, m0, q1, m1, q2, m2, w1, w2, w3, p0, p1, p2, z, d2, d3, t]
theorem int4B (n : Int) (h0 : 8388608 ≤ n) (h1 : n < 16777216) : Con E 40 22 [.int .u32 n] (.sl false [.int .u8 (n / 16777216 % 256), .int .u8 (n / 65536 % 256), .int .u8 (n / 256 % 256), .int .u8 (n % 256)] none) := by
  have g0 : 0 ≤ n := by omega
  have g1 : n < 2147483648 := by omega
  have w0 : n % 4294967296 = n := Int.emod_eq_of_lt g0 (by omega)
  have q0 : (n).tdiv 256 = n / 256 := by rw [Int.tdiv_eq_ediv_of_nonneg (by omega)]
  have m0 : (n).tmod 256 = n % 256 := Int.tmod_eq_emod_of_nonneg (by omega)
  have q1 : (n / 256).tdiv 256 = n / 65536 := by rw [Int.tdiv_eq_ediv_of_nonneg (by omega)]; rw [Int.ediv_ediv_of_nonneg (by omega)]; rfl
  have m1 : (n / 256).tmod 256 = n / 256 % 256 := Int.tmod_eq_emod_of_nonneg (by omega)
  have q2 : (n / 65536).tdiv 256 = n / 16777216 := by rw [Int.tdiv_eq_ediv_of_nonneg (by omega)]; rw [Int.ediv_ediv_of_nonneg (by omega)]; rfl
  have m2 : (n / 65536).tmod 256 = n / 65536 % 256 := Int.tmod_eq_emod_of_nonneg (by omega)
  have w1 : n / 256 % 4294967296 = n / 256 := wr _ g0 g1 (by omega)
  have w2 : n / 65536 % 4294967296 = n / 65536 := wr _ g0 g1 (by omega)
  have w3 : n / 16777216 % 4294967296 = n / 16777216 := wr _ g0 g1 (by omega)
  have p0 : 0 < n := by omega
  have p1 : 0 < n / 256 := by omega
  have p2 : 0 < n / 65536 := by omega
  have z : n / 16777216 = 0 := by omega
  have d2 : n / 256 / 256 = n / 65536 := by rw [Int.ediv_ediv_of_nonneg (by omega)]; rfl
  have d3 : n / 65536 / 256 = n / 16777216 := by rw [Int.ediv_ediv_of_nonneg (by omega)]; rfl
  have t : 127 < n / 65536 % 256 := by omega
  have tz : n / 16777216 % 256 = 0 := by omega
  refine .of (g := []) rfl ?_
  rw [aCall_fn rfl (E_fn22) rfl (Nat.le_of_ble_eq_true rfl) rfl rfl, body_22, c22]
  simp [↓s_seq, ↓s_reg, ↓s_regd, ↓s_cond, ↓s_block, ↓s_cons, ↓s_consG, s_nil, s_loop, s_round, s_lpn, s_lpe, s_lpr, firstReg, s_gt, s_gf, s_wb, s_wu, s_val, s_valN, s_skip, s_calls, s_callP, s_cax, lookR, flatR, pureKs, s_ret, s_rgx, s_sqn, s_sqr, s_sqe, s_cdb, s_bkn, s_bkr, s_bke, s_exit, s_ret', s_skip', s_finr, s_finn, s_fin1, s_fix, s_clean, s_gc0, o_tmp, o_int, o_bool, o_nil, o_str, o_fn, o_nil', l_hit, l_miss, l_nil, ol_nil, ol_cons, ol_some, x_move, x_assign, x_pick, pk_t, pk_f, x_bin, bn_s, x_un, x_extract, x_callF, cl_no, x_callB, x_conv, cvx, convA, frame0, binA, intOp, resL, resA, results1, sealA, sealLW, AV.pure, AV.pureL, keepT, x_alloc, x_box, bxx, x_build, bdx, x_buildSlice, bsx, x_buildSliceF, bsf, x_load, ldx, x_store, stx, x_slice, slx, x_fieldAddr, x_field, x_index, ixx, x_indexAddr, iax, x_makeSlice, msx, x_nilCheck, newK, genOf, setK, lookK, fillA, writeL, writeC, readC, conts, TyI.mk1, sliceA, boundsA, boundsB, fitsA, numA, indexAddrA, fieldAddrA, partA, fieldA, indexA, appendA, copyA, builtinA, AV.cells, AV.scal, chunk, gcH, reach, keysT, keepK, inKs, AV.keys, AV.keysL, Ty.isAgg, eq1, eqL, convA.go, ltI, w_u8, w_u32, w_u64, w_i64, w_fdiv, w_tdiv, w_tmod, IntKind.bits, unA, w0, q0, m0, q1, m1, q2, m2, w1, w2, w3, p0, p1, p2, z, d2, d3, t, tz]
theorem int4A (n : Int) (h0 : 16777216 ≤ n) (h1 : n < 2147483648) : Con E 40 22 [.int .u32 n] (.sl false [.int .u8 (n / 16777216 % 256), .int .u8 (n / 65536 % 256), .int .u8 (n / 256 % 256), .int .u8 (n % 256)] none) := by
  have g0 : 0 ≤ n := by omega
  have g1 : n < 2147483648 := by omega
  have w0 : n % 4294967296 = n := Int.emod_eq_of_lt g0 (by omega)
  have q0 : (n).tdiv 256 = n / 256 := by rw [Int.tdiv_eq_ediv_of_nonneg (by omega)]
  have m0 : (n).tmod 256 = n % 256 := Int.tmod_eq_emod_of_nonneg (by omega)
  have q1 : (n / 256).tdiv 256 = n / 65536 := by rw [Int.tdiv_eq_ediv_of_nonneg (by omega)]; rw [Int.ediv_ediv_of_nonneg (by omega)]; rfl
  have m1 : (n / 256).tmod 256 = n / 256 % 256 := Int.tmod_eq_emod_of_nonneg (by omega)
  have q2 : (n / 65536).tdiv 256 = n / 16777216 := by rw [Int.tdiv_eq_ediv_of_nonneg (by omega)]; rw [Int.ediv_ediv_of_nonneg (by omega)]; rfl
  have m2 : (n / 65536).tmod 256 = n / 65536 % 256 := Int.tmod_eq_emod_of_nonneg (by omega)
  have q3 : (n / 16777216).tdiv 256 = n / 4294967296 := by rw [Int.tdiv_eq_ediv_of_nonneg (by omega)]; rw [Int.ediv_ediv_of_nonneg (by omega)]; rfl
  have m3 : (n / 16777216).tmod 256 = n / 16777216 % 256 := Int.tmod_eq_emod_of_nonneg (by omega)
  have w1 : n / 256 % 4294967296 = n / 256 := wr _ g0 g1 (by omega)
  have w2 : n / 65536 % 4294967296 = n / 65536 := wr _ g0 g1 (by omega)
  have w3 : n / 16777216 % 4294967296 = n / 16777216 := wr _ g0 g1 (by omega)
  have w4 : n / 4294967296 % 4294967296 = n / 4294967296 := wr _ g0 g1 (by omega)
  have p0 : 0 < n := by omega
  have p1 : 0 < n / 256 := by omega
  have p2 : 0 < n / 65536 := by omega
  have p3 : 0 < n / 16777216 := by omega
  have z : n / 4294967296 = 0 := by omega
  have d2 : n / 256 / 256 = n / 65536 := by rw [Int.ediv_ediv_of_nonneg (by omega)]; rfl
  have d3 : n / 65536 / 256 = n / 16777216 := by rw [Int.ediv_ediv_of_nonneg (by omega)]; rfl
  have d4 : n / 16777216 / 256 = n / 4294967296 := by rw [Int.ediv_ediv_of_nonneg (by omega)]; rfl
  have t : ¬ 127 < n / 16777216 % 256 := by omega
  refine .of (g := []) rfl ?_
  rw [aCall_fn rfl (E_fn22) rfl (Nat.le_of_ble_eq_true rfl) rfl rfl, body_22, c22]
  simp [↓s_seq, ↓s_reg, ↓s_regd, ↓s_cond, ↓s_block, ↓s_cons, ↓s_consG, s_nil, s_loop, s_round, s_lpn, s_lpe, s_lpr, firstReg, s_gt, s_gf, s_wb, s_wu, s_val, s_valN, s_skip, s_calls, s_callP, s_cax, lookR, flatR, pureKs, s_ret, s_rgx, s_sqn, s_sqr, s_sqe, s_cdb, s_bkn, s_bkr, s_bke, s_exit, s_ret', s_skip', s_finr, s_finn, s_fin1, s_fix, s_clean, s_gc0, o_tmp, o_int, o_bool, o_nil, o_str, o_fn, o_nil', l_hit, l_miss, l_nil, ol_nil, ol_cons, ol_some, x_move, x_assign, x_pick, pk_t, pk_f, x_bin, bn_s, x_un, x_extract, x_callF, cl_no, x_callB, x_conv, cvx, convA, frame0, binA, intOp, resL, resA, results1, sealA, sealLW, AV.pure, AV.pureL, keepT, x_alloc, x_box, bxx, x_build, bdx, x_buildSlice, bsx, x_buildSliceF, bsf, x_load, ldx, x_store, stx, x_slice, slx, x_fieldAddr, x_field, x_index, ixx, x_indexAddr, iax, x_makeSlice, msx, x_nilCheck, newK, genOf, setK, lookK, fillA, writeL, writeC, readC, conts, TyI.mk1, sliceA, boundsA, boundsB, fitsA, numA, indexAddrA, fieldAddrA, partA, fieldA, indexA, appendA, copyA, builtinA, AV.cells, AV.scal, chunk, gcH, reach, keysT, keepK, inKs, AV.keys, AV.keysL, Ty.isAgg, eq1, eqL, convA.go, ltI, w_u8, w_u32, w_u64, w_i64, w_fdiv, w_tdiv, w_tmod, IntKind.bits, unA, w0, q0, m0, q1, m1, q2, m2, q3, m3, w1, w2, w3, w4, p0, p1, p2, p3, z, d2, d3, d4, t]
theorem orB (n x : Int) (h0 : 0 ≤ n) (h1 : n < 8388608) (h2 : 0 ≤ x) (h3 : x < 256) : ((BitVec.ofInt 64 (n * 256) ||| BitVec.ofInt 64 x).toNat : Int) = n * 256 + x := by
  obtain ⟨a, rfl⟩ := Int.eq_ofNat_of_zero_le h0
  obtain ⟨b, rfl⟩ := Int.eq_ofNat_of_zero_le h2
  have e1 : BitVec.ofInt 64 ((a : Int) * 256) = BitVec.ofNat 64 (a * 256) := by rw [show ((a : Int) * 256) = ((a * 256 : Nat) : Int) by push_cast; rfl]; exact BitVec.ofInt_natCast ..
  have e2 : BitVec.ofInt 64 (b : Int) = BitVec.ofNat 64 b := BitVec.ofInt_natCast ..
  rw [e1, e2, BitVec.toNat_or, BitVec.toNat_ofNat, BitVec.toNat_ofNat, Nat.mod_eq_of_lt (by omega), Nat.mod_eq_of_lt (by omega)]
  have := Nat.shiftLeft_add_eq_or_of_lt (i := 8) (b := b) (by omega) a
  rw [Nat.shiftLeft_eq] at this
  simp only [Nat.reducePow] at this
  rw [← this]
  push_cast
  rfl
theorem w64 (n : Int) (h0 : 0 ≤ n) (h1 : n < 4294967296) : IntKind.i64.wrap n = n := Go.IntWalk.i64_in _ (by omega)
theorem w8 (a : Int) (h0 : 0 ≤ a) (h1 : a < 128) : IntKind.i8.wrap a = a := by
  unfold IntKind.wrap
  simp [IntKind.bits, IntKind.signed]
  omega
end R9
