/- The reference's Put and PutNamed at the evaluator. No conditions. -/
import Derived.Test.YtalmnhdnclmhbaaT28
import Derived.Test.YtalmnhdnclmhbaaT26
import Derived.Test.YtalmnhdnclmhbaaB40
open Ab Go TabB T1 T2 T3 T4 T5 T6 T12 T14
set_option maxRecDepth 20000
set_option linter.unusedSimpArgs false
set_option linter.unusedVariables false
set_option maxHeartbeats 16000000
namespace T29
theorem put_nil (f c) : Con E 30 35 [.sl f [] c] (.sl false (bs [0]) (some 1)) := by
  refine .of (g := []) (by simp [AV.pureL, AV.pure]) ?_
  rw [aCall_fn rfl (E_fn35) (by simp [AV.pureL, AV.pure]) (Nat.le_of_ble_eq_true rfl) rfl rfl, body_35, c35]
  have B := bytes_nil f c
  simp [↓s_seq, ↓s_reg, ↓s_regd, ↓s_cond, ↓s_block, ↓s_cons, ↓s_consG, s_nil, s_loop, s_round, s_lpn, s_lpe, s_lpr, firstReg, s_gt, s_gf, s_wb, s_wu, s_val, s_valN, s_skip, s_calls, s_callP, s_cax, lookR, flatR, pureKs, s_ret, s_rgx, s_sqn, s_sqr, s_sqe, s_cdb, s_bkn, s_bkr, s_bke, s_exit, s_ret', s_skip', s_finr, s_finn, s_fin1, s_fix, s_clean, s_gc0, o_tmp, o_int, o_bool, o_nil, o_str, o_fn, o_nil', l_hit, l_miss, l_nil, ol_nil, ol_cons, ol_some, x_move, x_assign, x_pick, pk_t, pk_f, x_bin, bn_s, x_un, x_extract, x_callF, cl_no, x_callB, x_conv, cvx, convA, frame0, binA, intOp, resL, resA, results1, sealA, sealLW, AV.pure, AV.pureL, keepT, x_alloc, x_box, bxx, x_build, bdx, x_buildSlice, bsx, x_buildSliceF, bsf, x_load, ldx, x_store, stx, x_slice, slx, x_fieldAddr, x_field, x_index, ixx, x_indexAddr, iax, x_makeSlice, msx, x_nilCheck, newK, genOf, setK, lookK, fillA, writeL, writeC, readC, conts, TyI.mk1, sliceA, boundsA, boundsB, fitsA, numA, indexAddrA, fieldAddrA, partA, fieldA, indexA, appendA, copyA, builtinA, AV.cells, AV.scal, chunk, gcH, reach, keysT, keepK, inKs, AV.keys, AV.keysL, Ty.isAgg, eq1, eqL, convA.go, ltI, w_u8, w_u32, w_u64, w_i64, w_fdiv, w_tdiv, w_tmod, IntKind.bits, unA, B, bs]
theorem put_con (f c) (l : List Int) (hb : isBit l) (hl : l.length < 800000) (h0 : 0 < l.length) (x : Int) (hx : (8 - (l.length : Int) % 8) % 8 = x) (N : Nat) (hN : l.length + 30 ≤ N) : Con E N 35 [.sl f (is l) c] (.sl false (bs (x :: bytesOf l)) none) := by
  obtain ⟨N, rfl⟩ : ∃ M, N = M + 1 := ⟨N - 1, by omega⟩
  refine .of (g := []) (by simp [AV.pureL, AV.pure, is_pure]) ?_
  rw [aCall_fn rfl (E_fn35) (by simp [AV.pureL, AV.pure, is_pure]) (Nat.le_of_ble_eq_true rfl) rfl rfl, body_35, c35]
  have B := bytes_con f c l hb hl h0 N (by omega)
  have bl : (bytesOf l).length = (l.length + 7) / 8 := T28.bytesOf_length l
  have w1 := w64 (8 * ((bytesOf l).length : Int)) (by omega) (by omega)
  have w2 := w64 (8 * ((bytesOf l).length : Int) - (l.length : Int)) (by omega) (by omega)
  have e1 : (8 * ((bytesOf l).length : Int) - (l.length : Int)) % 256 = x := by omega
  have cp : (bytesOf l).length + 1 ≤ 70368744177664 := by omega
  have n0 : (bytesOf l).length ≠ 0 := by omega
  have c1 : 0 = 0 := rfl
  have n1 : bytesOf l ≠ [] := by intro e; rw [e] at n0; simp at n0
  have p := is_pure l
  have pb := bs_pure (bytesOf l)
  have ln := is_length l
  have lb := bs_length (bytesOf l)
  have cb := bs_cells (bytesOf l)
  have sb := bs_scal (bytesOf l)
  have B' := B N (Nat.le_refl _) 0
  simp [↓s_seq, ↓s_reg, ↓s_regd, ↓s_cond, ↓s_block, ↓s_cons, ↓s_consG, s_nil, s_loop, s_round, s_lpn, s_lpe, s_lpr, firstReg, s_gt, s_gf, s_wb, s_wu, s_val, s_valN, s_skip, s_calls, s_callP, s_cax, lookR, flatR, pureKs, s_ret, s_rgx, s_sqn, s_sqr, s_sqe, s_cdb, s_bkn, s_bkr, s_bke, s_exit, s_ret', s_skip', s_finr, s_finn, s_fin1, s_fix, s_clean, s_gc0, o_tmp, o_int, o_bool, o_nil, o_str, o_fn, o_nil', l_hit, l_miss, l_nil, ol_nil, ol_cons, ol_some, x_move, x_assign, x_pick, pk_t, pk_f, x_bin, bn_s, x_un, x_extract, x_callF, cl_no, x_callB, x_conv, cvx, convA, frame0, binA, intOp, resL, resA, results1, sealLW, AV.pure, AV.pureL, keepT, x_alloc, x_box, bxx, x_build, bdx, x_buildSlice, bsx, x_buildSliceF, bsf, x_load, ldx, x_store, stx, x_slice, slx, x_fieldAddr, x_field, x_index, ixx, x_indexAddr, iax, x_makeSlice, msx, x_nilCheck, newK, genOf, setK, lookK, fillA, writeL, writeC, readC, conts, TyI.mk1, sliceA, boundsA, boundsB, fitsA, numA, indexAddrA, fieldAddrA, partA, fieldA, indexA, appendA, copyA, builtinA, AV.cells, chunk, gcH, reach, keysT, keepK, inKs, AV.keys, AV.keysL, Ty.isAgg, eq1, eqL, convA.go, ltI, w_u8, w_u32, w_u64, w_i64, w_fdiv, w_tdiv, w_tmod, IntKind.bits, unA, sc_int, sc_bool, sc_str, sc_sl, sc_ref, sc_ptr, sc_pel, sc_nilp, sc_fn, sc_nilf, sc_if, sc_nili, sc_agg, sc_tup, sc_mem, bs_pure, bs_kl, bs_length, bs_cells, sl_row, sealRow, sealY, sl_int, sl_bool, sl_str, sl_sl, sl_nilp, sl_nilf, sl_nili, sl_pel, sl_agg, sl_tup, sl_fn, sl_if, nat_1, bs_cons, bs_nil, B', w1, w2, e1, cp, c1, n0, n1, p, pb, ln, lb, cb, sb]
end T29
