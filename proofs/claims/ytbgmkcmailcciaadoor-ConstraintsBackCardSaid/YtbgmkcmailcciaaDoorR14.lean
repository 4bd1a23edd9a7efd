/- The law ConstraintsBack at the evaluator: true at every two numbers. No conditions. -/
import Derived.Test.YtbgmkcmailcciaaDoorR13
open Ab Go TabC N0 N2 R1 R9 R10 R11 R12 R13
set_option maxRecDepth 20000
set_option linter.unusedSimpArgs false
set_option linter.unusedVariables false
set_option maxHeartbeats 16000000
namespace R14
structure All (a b : Int) (s : List AV) (m : Nat) (sw : List AV) (out : List Int) : Prop where
  hp : AV.pureL s = true
  hw : AV.pureL sw = true
  len : s.length = m
  el : Con E 60 11 [.agg [.int .i64 a, .int .i64 b]] (.tup [elem s (some m), .int .i64 0])
  rel : Con E 60 13 [.agg [.int .i64 a, .int .i64 b]] (elem sw none)
  same : Con E 40 15 [elem s (some m), elem sw none] (.int .i64 1)
  ib : isB out
  put : Con E 210 12 [.agg [.int .i64 a, .int .i64 b]] (.tup [.sl false (bs out) (some out.length), .int .i64 0])
  ref : Con E 200 16 [elem sw none] (.sl false (bs out) none)
  of : Con E 210 17 [elem s (some m)] (.tup [.agg [.int .i64 a, .int .i64 b], zf])
  get : Con E 230 18 [.sl false (bs out) (some out.length)] (.tup [.agg [.int .i64 a, .int .i64 b], .int .i64 0, .int .i64 0])
theorem all (a b : Int) (h : chkI a b = 0) : ∃ s m sw out, All a b s m sw out := by
  have hh := h
  unfold chkI at hh
  split at hh; · cases hh
  split at hh; · cases hh
  split at hh; · cases hh
  by_cases ea : a = -1
  · subst ea
    by_cases eb : b = -1
    · subst eb; omega
    · obtain ⟨lb, nb⟩ := num b (by omega) (by omega)
      obtain ⟨out, e⟩ := one1 nb
      have hp : AV.pureL [sub 1 (bs lb) (some lb.length)] = true := by simp [AV.pure, AV.pureL, bs_pure]
      have el := R2.elem_b b h eb (bs lb) lb.length nb.put (bs_pure _)
      have of := of_b b lb out nb e
      exact ⟨_, _, _, out, hp, by simp [AV.pure, AV.pureL, bs_pure], rfl, el, ref_b b lb nb (by omega) (by omega), same_a 1 lb nb.b, e.b, put _ _ h _ _ _ _ _ _ e hp el, e.ref, of, get out _ _ _ _ _ _ _ e hp of⟩
  · obtain ⟨la, na⟩ := num a (by omega) (by omega)
    by_cases eb : b = -1
    · subst eb
      obtain ⟨out, e⟩ := one0 na
      have hp : AV.pureL [sub 0 (bs la) (some la.length)] = true := by simp [AV.pure, AV.pureL, bs_pure]
      have el := R2.elem_a a h ea (bs la) la.length na.put (bs_pure _)
      have of := of_a a la out na e
      exact ⟨_, _, _, out, hp, by simp [AV.pure, AV.pureL, bs_pure], rfl, el, ref_a a la na (by omega) (by omega), same_a 0 la na.b, e.b, put _ _ h _ _ _ _ _ _ e hp el, e.ref, of, get out _ _ _ _ _ _ _ e hp of⟩
    · obtain ⟨lb, nb⟩ := num b (by omega) (by omega)
      obtain ⟨out, e⟩ := two na nb
      have hp : AV.pureL [sub 0 (bs la) (some la.length), sub 1 (bs lb) (some lb.length)] = true := by simp [AV.pure, AV.pureL, bs_pure]
      have el := R2.elem_ab a b h ea eb (bs la) (bs lb) la.length lb.length na.put nb.put (bs_pure _) (bs_pure _)
      have of := of_ab a b la lb out na nb e
      exact ⟨_, _, _, out, hp, by simp [AV.pure, AV.pureL, bs_pure], rfl, el, ref_ab a b la lb na nb (by omega) (by omega) (by omega) (by omega), same_ab la lb na.b nb.b, e.b, put _ _ h _ _ _ _ _ _ e hp el, e.ref, of, get out _ _ _ _ _ _ _ e hp of⟩
theorem law (x y : Int) (x0 : 0 ≤ x) (x1 : x < 4294967296) (y0 : 0 ≤ y) (y1 : y < 4294967296) : Con E 300 3 [.int .u32 x, .int .u32 y] (.bool true) := by
  obtain ⟨a, a0, a1, sa⟩ := skipV x x0 x1
  obtain ⟨b, b0, b1, sb⟩ := skipV y y0 y1
  refine .of (g := []) rfl ?_
  rw [aCall_fn rfl (E_fn3) rfl (Nat.le_of_ble_eq_true rfl) rfl rfl, body_3, c3]
  by_cases g1 : 2147483647 < a
  · simp [↓s_seq, ↓s_reg, ↓s_regd, ↓s_cond, ↓s_block, ↓s_cons, ↓s_consG, s_nil, s_loop, s_round, s_lpn, s_lpe, s_lpr, firstReg, s_gt, s_gf, s_wb, s_wu, s_val, s_valN, s_skip, s_calls, s_callP, s_cax, lookR, flatR, pureKs, s_ret, s_rgx, s_sqn, s_sqr, s_sqe, s_cdb, s_bkn, s_bkr, s_bke, s_exit, s_ret', s_skip', s_finr, s_finn, s_fin1, s_fix, s_clean, s_gc0, o_tmp, o_int, o_bool, o_nil, o_str, o_fn, o_nil', l_hit, l_miss, l_nil, ol_nil, ol_cons, ol_some, x_move, x_assign, x_pick, pk_t, pk_f, x_bin, bn_s, x_un, x_extract, x_callF, cl_no, x_callB, x_conv, cvx, convA, frame0, binA, intOp, resL, resA, results1, sealA, sealLW, AV.pure, AV.pureL, keepT, x_alloc, x_box, bxx, x_build, bdx, x_buildSlice, bsx, x_buildSliceF, bsf, x_load, ldx, x_store, stx, x_slice, slx, x_fieldAddr, x_field, x_index, ixx, x_indexAddr, iax, x_makeSlice, msx, x_nilCheck, newK, genOf, setK, lookK, fillA, writeL, writeC, readC, conts, TyI.mk1, sliceA, boundsA, boundsB, fitsA, numA, indexAddrA, fieldAddrA, partA, fieldA, indexA, appendA, copyA, builtinA, AV.cells, AV.scal, chunk, gcH, reach, keysT, keepK, inKs, AV.keys, AV.keysL, Ty.isAgg, eq1, eqL, convA.go, ltI, w_u8, w_u32, w_u64, w_i64, w_fdiv, w_tdiv, w_tmod, IntKind.bits, unA, sa, sb, g1, lives]
  by_cases g2 : 2147483647 < b
  · simp [↓s_seq, ↓s_reg, ↓s_regd, ↓s_cond, ↓s_block, ↓s_cons, ↓s_consG, s_nil, s_loop, s_round, s_lpn, s_lpe, s_lpr, firstReg, s_gt, s_gf, s_wb, s_wu, s_val, s_valN, s_skip, s_calls, s_callP, s_cax, lookR, flatR, pureKs, s_ret, s_rgx, s_sqn, s_sqr, s_sqe, s_cdb, s_bkn, s_bkr, s_bke, s_exit, s_ret', s_skip', s_finr, s_finn, s_fin1, s_fix, s_clean, s_gc0, o_tmp, o_int, o_bool, o_nil, o_str, o_fn, o_nil', l_hit, l_miss, l_nil, ol_nil, ol_cons, ol_some, x_move, x_assign, x_pick, pk_t, pk_f, x_bin, bn_s, x_un, x_extract, x_callF, cl_no, x_callB, x_conv, cvx, convA, frame0, binA, intOp, resL, resA, results1, sealA, sealLW, AV.pure, AV.pureL, keepT, x_alloc, x_box, bxx, x_build, bdx, x_buildSlice, bsx, x_buildSliceF, bsf, x_load, ldx, x_store, stx, x_slice, slx, x_fieldAddr, x_field, x_index, ixx, x_indexAddr, iax, x_makeSlice, msx, x_nilCheck, newK, genOf, setK, lookK, fillA, writeL, writeC, readC, conts, TyI.mk1, sliceA, boundsA, boundsB, fitsA, numA, indexAddrA, fieldAddrA, partA, fieldA, indexA, appendA, copyA, builtinA, AV.cells, AV.scal, chunk, gcH, reach, keysT, keepK, inKs, AV.keys, AV.keysL, Ty.isAgg, eq1, eqL, convA.go, ltI, w_u8, w_u32, w_u64, w_i64, w_fdiv, w_tdiv, w_tmod, IntKind.bits, unA, sa, sb, g1, g2, lives]
  by_cases g3 : a < 0
  · by_cases g4 : b < 0
    · simp [↓s_seq, ↓s_reg, ↓s_regd, ↓s_cond, ↓s_block, ↓s_cons, ↓s_consG, s_nil, s_loop, s_round, s_lpn, s_lpe, s_lpr, firstReg, s_gt, s_gf, s_wb, s_wu, s_val, s_valN, s_skip, s_calls, s_callP, s_cax, lookR, flatR, pureKs, s_ret, s_rgx, s_sqn, s_sqr, s_sqe, s_cdb, s_bkn, s_bkr, s_bke, s_exit, s_ret', s_skip', s_finr, s_finn, s_fin1, s_fix, s_clean, s_gc0, o_tmp, o_int, o_bool, o_nil, o_str, o_fn, o_nil', l_hit, l_miss, l_nil, ol_nil, ol_cons, ol_some, x_move, x_assign, x_pick, pk_t, pk_f, x_bin, bn_s, x_un, x_extract, x_callF, cl_no, x_callB, x_conv, cvx, convA, frame0, binA, intOp, resL, resA, results1, sealA, sealLW, AV.pure, AV.pureL, keepT, x_alloc, x_box, bxx, x_build, bdx, x_buildSlice, bsx, x_buildSliceF, bsf, x_load, ldx, x_store, stx, x_slice, slx, x_fieldAddr, x_field, x_index, ixx, x_indexAddr, iax, x_makeSlice, msx, x_nilCheck, newK, genOf, setK, lookK, fillA, writeL, writeC, readC, conts, TyI.mk1, sliceA, boundsA, boundsB, fitsA, numA, indexAddrA, fieldAddrA, partA, fieldA, indexA, appendA, copyA, builtinA, AV.cells, AV.scal, chunk, gcH, reach, keysT, keepK, inKs, AV.keys, AV.keysL, Ty.isAgg, eq1, eqL, convA.go, ltI, w_u8, w_u32, w_u64, w_i64, w_fdiv, w_tdiv, w_tmod, IntKind.bits, unA, sa, sb, g1, g2, g3, g4, lives]
    · have h : chkI a b = 0 := by unfold chkI; rw [if_neg (by omega), if_neg (by omega), if_neg (by omega)]
      obtain ⟨s, m, sw, out, A⟩ := all a b h
      simp [↓s_seq, ↓s_reg, ↓s_regd, ↓s_cond, ↓s_block, ↓s_cons, ↓s_consG, s_nil, s_loop, s_round, s_lpn, s_lpe, s_lpr, firstReg, s_gt, s_gf, s_wb, s_wu, s_val, s_valN, s_skip, s_calls, s_callP, s_cax, lookR, flatR, pureKs, s_ret, s_rgx, s_sqn, s_sqr, s_sqe, s_cdb, s_bkn, s_bkr, s_bke, s_exit, s_ret', s_skip', s_finr, s_finn, s_fin1, s_fix, s_clean, s_gc0, o_tmp, o_int, o_bool, o_nil, o_str, o_fn, o_nil', l_hit, l_miss, l_nil, ol_nil, ol_cons, ol_some, x_move, x_assign, x_pick, pk_t, pk_f, x_bin, bn_s, x_un, x_extract, x_callF, cl_no, x_callB, x_conv, cvx, convA, frame0, binA, intOp, resL, resA, results1, sealA, sealLW, AV.pure, AV.pureL, keepT, x_alloc, x_box, bxx, x_build, bdx, x_buildSlice, bsx, x_buildSliceF, bsf, x_load, ldx, x_store, stx, x_slice, slx, x_fieldAddr, x_field, x_index, ixx, x_indexAddr, iax, x_makeSlice, msx, x_nilCheck, newK, genOf, setK, lookK, fillA, writeL, writeC, readC, conts, TyI.mk1, sliceA, boundsA, boundsB, fitsA, numA, indexAddrA, fieldAddrA, partA, fieldA, indexA, appendA, copyA, builtinA, AV.cells, AV.scal, chunk, gcH, reach, keysT, keepK, inKs, AV.keys, AV.keysL, Ty.isAgg, eq1, eqL, convA.go, ltI, w_u8, w_u32, w_u64, w_i64, w_fdiv, w_tdiv, w_tmod, IntKind.bits, unA, sa, sb, g1, g2, g3, g4, lives, chk, h, A.hp, A.hw, A.len, A.el, A.rel, A.same, A.put, A.ref, A.of, A.get, fault0, bs_pure, bs_cells, bs_go A.ib, bs_length, fitZ, ↓s_regD, s_dyn0, s_rgy, barOf]
  · have h : chkI a b = 0 := by unfold chkI; rw [if_neg (by omega), if_neg (by omega), if_neg (by omega)]
    obtain ⟨s, m, sw, out, A⟩ := all a b h
    obtain ⟨la, na⟩ := num a (by omega) (by omega)
    obtain ⟨o2, k⟩ := R11.skip na
    have q1 := putS a la o2 na k (by omega) (by omega)
    have q2 := getS a la o2 na k
    have w : a % 4294967296 = a := Int.emod_eq_of_lt (by omega) (by omega)
    simp [↓s_seq, ↓s_reg, ↓s_regd, ↓s_cond, ↓s_block, ↓s_cons, ↓s_consG, s_nil, s_loop, s_round, s_lpn, s_lpe, s_lpr, firstReg, s_gt, s_gf, s_wb, s_wu, s_val, s_valN, s_skip, s_calls, s_callP, s_cax, lookR, flatR, pureKs, s_ret, s_rgx, s_sqn, s_sqr, s_sqe, s_cdb, s_bkn, s_bkr, s_bke, s_exit, s_ret', s_skip', s_finr, s_finn, s_fin1, s_fix, s_clean, s_gc0, o_tmp, o_int, o_bool, o_nil, o_str, o_fn, o_nil', l_hit, l_miss, l_nil, ol_nil, ol_cons, ol_some, x_move, x_assign, x_pick, pk_t, pk_f, x_bin, bn_s, x_un, x_extract, x_callF, cl_no, x_callB, x_conv, cvx, convA, frame0, binA, intOp, resL, resA, results1, sealA, sealLW, AV.pure, AV.pureL, keepT, x_alloc, x_box, bxx, x_build, bdx, x_buildSlice, bsx, x_buildSliceF, bsf, x_load, ldx, x_store, stx, x_slice, slx, x_fieldAddr, x_field, x_index, ixx, x_indexAddr, iax, x_makeSlice, msx, x_nilCheck, newK, genOf, setK, lookK, fillA, writeL, writeC, readC, conts, TyI.mk1, sliceA, boundsA, boundsB, fitsA, numA, indexAddrA, fieldAddrA, partA, fieldA, indexA, appendA, copyA, builtinA, AV.cells, AV.scal, chunk, gcH, reach, keysT, keepK, inKs, AV.keys, AV.keysL, Ty.isAgg, eq1, eqL, convA.go, ltI, w_u8, w_u32, w_u64, w_i64, w_fdiv, w_tdiv, w_tmod, IntKind.bits, unA, sa, sb, g1, g2, g3, lives, chk, h, A.hp, A.hw, A.len, A.el, A.rel, A.same, A.put, A.ref, A.of, A.get, fault0, bs_pure, bs_cells, bs_go A.ib, bs_length, fitZ, ↓s_regD, s_dyn0, s_rgy, barOf, q1, q2, na.int, k.ref, bs_go k.b, w]
end R14
