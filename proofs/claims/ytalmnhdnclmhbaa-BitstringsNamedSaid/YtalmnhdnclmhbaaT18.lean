/- bitstrings.GetNamed at the evaluator: what it answers. No conditions. -/
import Derived.Test.YtalmnhdnclmhbaaT17
import Derived.Test.YtalmnhdnclmhbaaT15
open Ab Go TabB T1 T2 T3 T4 T14 T17
set_option maxRecDepth 20000
set_option linter.unusedSimpArgs false
set_option linter.unusedVariables false
set_option maxHeartbeats 8000000
namespace T18
theorem loop (q k1 k : Nat) (ys l : List Int) (hb : isBit l) (hl : l.length ≤ 64) (hk : l.length < k) (hq : 60 ≤ q)
    (B : ∀ i x, l[i]? = some x → Con E 60 40 [.sl false (bs ys) (some ys.length), .int .i64 (l.length : Int), .int .i64 ((i : Nat) : Int)] (.bool (x == 1))) :
    aLoop (aCode E (aCall E q) (dcall (aRun E q)) k1 1 fn48 b48) (cleanS 1 ((firstReg b48).bind fn48.head)) k (S ys (l.length : Int) 0 0) = some (.exit 1, ⟨[(4, .sl false (bs ys) (some ys.length)), (5, .int .i64 (l.length : Int)), (7, .int .u64 (W l)), (58, .int .i64 (l.length : Int)), (59, .int .i64 (l.length : Int)), (60, .bool false)], []⟩) := by
  refine loopR (fun j => S ys (l.length : Int) (W (l.take j)) (j : Int)) l.length (by simp [W]) (fun j hj => ?_) ?_ (by simp) hk
  · obtain ⟨x, e⟩ : ∃ x, l[j]? = some x := ⟨l[j], by simp⟩
    have hx := hb x (List.mem_of_getElem? e)
    have b := B j x e
    rw [W_take l j x e]
    have ht : isBit (l.take j) := fun z hz => hb z (List.mem_of_mem_take hz)
    have lt := W_lt ht
    have lj : (l.take j).length = j := by rw [List.length_take]; omega
    rw [lj] at lt
    rcases hx with rfl | rfl
    · rw [Int.zero_mul, Int.add_zero]
      exact zero q k1 ys (l.length : Int) _ j (by omega) (by omega) b hq
    · rw [Int.one_mul]
      exact one q k1 ys (l.length : Int) _ j (by omega) (by omega) lt.1 lt.2 b hq
  · rw [List.take_length]
    exact fin q k1 ys (l.length : Int) (W l)
/-- Get told an error of the value. -/
theorem err (f c) (cs : List Int) (G : Con E 100 31 [.sl f (bs cs) c] (.tup [.sl true [] (some 0), .int .i64 0, .int .i64 11])) : Con E 1000 48 [.sl f (bs cs) c] (.tup [.int .u64 0, .int .i64 11]) := by
  refine .of (g := []) (by simp [AV.pureL, AV.pure, bs_pure]) ?_
  rw [aCall_fn rfl (E_fn48) (by simp [AV.pureL, AV.pure, bs_pure]) (Nat.le_of_ble_eq_true rfl) rfl rfl, body_48, c48]
  simp [↓s_seq, ↓s_reg, ↓s_regd, ↓s_cond, ↓s_block, ↓s_cons, ↓s_consG, s_nil, s_loop, s_round, s_lpn, s_lpe, s_lpr, firstReg, s_gt, s_gf, s_wb, s_wu, s_val, s_valN, s_skip, s_calls, s_callP, s_cax, lookR, flatR, pureKs, s_ret, s_rgx, s_sqn, s_sqr, s_sqe, s_cdb, s_bkn, s_bkr, s_bke, s_exit, s_ret', s_skip', s_finr, s_finn, s_fin1, s_fix, s_clean, s_gc0, o_tmp, o_int, o_bool, o_nil, o_str, o_fn, o_nil', l_hit, l_miss, l_nil, ol_nil, ol_cons, ol_some, x_move, x_assign, x_pick, pk_t, pk_f, x_bin, bn_s, x_un, x_extract, x_callF, cl_no, x_callB, x_conv, cvx, convA, frame0, binA, intOp, resL, resA, results1, sealA, sealLW, AV.pure, AV.pureL, keepT, x_alloc, x_box, bxx, x_build, bdx, x_buildSlice, bsx, x_buildSliceF, bsf, x_load, ldx, x_store, stx, x_slice, slx, x_fieldAddr, x_field, x_index, ixx, x_indexAddr, iax, x_makeSlice, msx, x_nilCheck, newK, genOf, setK, lookK, fillA, writeL, writeC, readC, conts, TyI.mk1, sliceA, boundsA, boundsB, fitsA, numA, indexAddrA, fieldAddrA, partA, fieldA, indexA, appendA, copyA, builtinA, AV.cells, AV.scal, chunk, gcH, reach, keysT, keepK, inKs, AV.keys, AV.keysL, Ty.isAgg, eq1, eqL, convA.go, ltI, w_u8, w_u32, w_u64, w_i64, w_fdiv, w_tdiv, w_tmod, IntKind.bits, unA, bs_pure, G]
theorem none_ (f c) (cs : List Int) (G : Con E 100 31 [.sl f (bs cs) c] (.tup [.sl false [] (some 0), .int .i64 0, .int .i64 0])) : Con E 1000 48 [.sl f (bs cs) c] (.tup [.int .u64 0, .int .i64 0]) := by
  refine .of (g := []) (by simp [AV.pureL, AV.pure, bs_pure]) ?_
  rw [aCall_fn rfl (E_fn48) (by simp [AV.pureL, AV.pure, bs_pure]) (Nat.le_of_ble_eq_true rfl) rfl rfl, body_48, c48]
  simp [↓s_seq, ↓s_reg, ↓s_regd, ↓s_cond, ↓s_block, ↓s_cons, ↓s_consG, s_nil, s_loop, s_round, s_lpn, s_lpe, s_lpr, firstReg, s_gt, s_gf, s_wb, s_wu, s_val, s_valN, s_skip, s_calls, s_callP, s_cax, lookR, flatR, pureKs, s_ret, s_rgx, s_sqn, s_sqr, s_sqe, s_cdb, s_bkn, s_bkr, s_bke, s_exit, s_ret', s_skip', s_finr, s_finn, s_fin1, s_fix, s_clean, s_gc0, o_tmp, o_int, o_bool, o_nil, o_str, o_fn, o_nil', l_hit, l_miss, l_nil, ol_nil, ol_cons, ol_some, x_move, x_assign, x_pick, pk_t, pk_f, x_bin, bn_s, x_un, x_extract, x_callF, cl_no, x_callB, x_conv, cvx, convA, frame0, binA, intOp, resL, resA, results1, sealA, sealLW, AV.pure, AV.pureL, keepT, x_alloc, x_box, bxx, x_build, bdx, x_buildSlice, bsx, x_buildSliceF, bsf, x_load, ldx, x_store, stx, x_slice, slx, x_fieldAddr, x_field, x_index, ixx, x_indexAddr, iax, x_makeSlice, msx, x_nilCheck, newK, genOf, setK, lookK, fillA, writeL, writeC, readC, conts, TyI.mk1, sliceA, boundsA, boundsB, fitsA, numA, indexAddrA, fieldAddrA, partA, fieldA, indexA, appendA, copyA, builtinA, AV.cells, AV.scal, chunk, gcH, reach, keysT, keepK, inKs, AV.keys, AV.keysL, Ty.isAgg, eq1, eqL, convA.go, ltI, w_u8, w_u32, w_u64, w_i64, w_fdiv, w_tdiv, w_tmod, IntKind.bits, unA, bs_pure, G, ↓s_regD, s_dyn0, s_rgy, barOf]
theorem zero_ (f c) (cs ys : List Int) (n : Int) (hn : 0 < n) (hm : n < 1000000) (G : Con E 100 31 [.sl f (bs cs) c] (.tup [.sl false (bs ys) (some ys.length), .int .i64 n, .int .i64 0]))
    (B : Con E 60 40 [.sl false (bs ys) (some ys.length), .int .i64 n, .int .i64 (n - 1)] (.bool false)) : Con E 1000 48 [.sl f (bs cs) c] (.tup [.int .u64 0, .int .i64 11]) := by
  refine .of (g := []) (by simp [AV.pureL, AV.pure, bs_pure]) ?_
  rw [aCall_fn rfl (E_fn48) (by simp [AV.pureL, AV.pure, bs_pure]) (Nat.le_of_ble_eq_true rfl) rfl rfl, body_48, c48]
  have w := w64 (n - 1) (by omega) (by omega)
  simp [↓s_seq, ↓s_reg, ↓s_regd, ↓s_cond, ↓s_block, ↓s_cons, ↓s_consG, s_nil, s_loop, s_round, s_lpn, s_lpe, s_lpr, firstReg, s_gt, s_gf, s_wb, s_wu, s_val, s_valN, s_skip, s_calls, s_callP, s_cax, lookR, flatR, pureKs, s_ret, s_rgx, s_sqn, s_sqr, s_sqe, s_cdb, s_bkn, s_bkr, s_bke, s_exit, s_ret', s_skip', s_finr, s_finn, s_fin1, s_fix, s_clean, s_gc0, o_tmp, o_int, o_bool, o_nil, o_str, o_fn, o_nil', l_hit, l_miss, l_nil, ol_nil, ol_cons, ol_some, x_move, x_assign, x_pick, pk_t, pk_f, x_bin, bn_s, x_un, x_extract, x_callF, cl_no, x_callB, x_conv, cvx, convA, frame0, binA, intOp, resL, resA, results1, sealA, sealLW, AV.pure, AV.pureL, keepT, x_alloc, x_box, bxx, x_build, bdx, x_buildSlice, bsx, x_buildSliceF, bsf, x_load, ldx, x_store, stx, x_slice, slx, x_fieldAddr, x_field, x_index, ixx, x_indexAddr, iax, x_makeSlice, msx, x_nilCheck, newK, genOf, setK, lookK, fillA, writeL, writeC, readC, conts, TyI.mk1, sliceA, boundsA, boundsB, fitsA, numA, indexAddrA, fieldAddrA, partA, fieldA, indexA, appendA, copyA, builtinA, AV.cells, AV.scal, chunk, gcH, reach, keysT, keepK, inKs, AV.keys, AV.keysL, Ty.isAgg, eq1, eqL, convA.go, ltI, w_u8, w_u32, w_u64, w_i64, w_fdiv, w_tdiv, w_tmod, IntKind.bits, unA, bs_pure, G, hn, w, B]
theorem big_ (f c) (cs ys : List Int) (n : Int) (hn : 64 < n) (hm : n < 1000000) (G : Con E 100 31 [.sl f (bs cs) c] (.tup [.sl false (bs ys) (some ys.length), .int .i64 n, .int .i64 0]))
    (B : Con E 60 40 [.sl false (bs ys) (some ys.length), .int .i64 n, .int .i64 (n - 1)] (.bool true)) : Con E 1000 48 [.sl f (bs cs) c] (.tup [.int .u64 0, .int .i64 3]) := by
  refine .of (g := []) (by simp [AV.pureL, AV.pure, bs_pure]) ?_
  rw [aCall_fn rfl (E_fn48) (by simp [AV.pureL, AV.pure, bs_pure]) (Nat.le_of_ble_eq_true rfl) rfl rfl, body_48, c48]
  have w := w64 (n - 1) (by omega) (by omega)
  have h0 : 0 < n := by omega
  simp [↓s_seq, ↓s_reg, ↓s_regd, ↓s_cond, ↓s_block, ↓s_cons, ↓s_consG, s_nil, s_loop, s_round, s_lpn, s_lpe, s_lpr, firstReg, s_gt, s_gf, s_wb, s_wu, s_val, s_valN, s_skip, s_calls, s_callP, s_cax, lookR, flatR, pureKs, s_ret, s_rgx, s_sqn, s_sqr, s_sqe, s_cdb, s_bkn, s_bkr, s_bke, s_exit, s_ret', s_skip', s_finr, s_finn, s_fin1, s_fix, s_clean, s_gc0, o_tmp, o_int, o_bool, o_nil, o_str, o_fn, o_nil', l_hit, l_miss, l_nil, ol_nil, ol_cons, ol_some, x_move, x_assign, x_pick, pk_t, pk_f, x_bin, bn_s, x_un, x_extract, x_callF, cl_no, x_callB, x_conv, cvx, convA, frame0, binA, intOp, resL, resA, results1, sealA, sealLW, AV.pure, AV.pureL, keepT, x_alloc, x_box, bxx, x_build, bdx, x_buildSlice, bsx, x_buildSliceF, bsf, x_load, ldx, x_store, stx, x_slice, slx, x_fieldAddr, x_field, x_index, ixx, x_indexAddr, iax, x_makeSlice, msx, x_nilCheck, newK, genOf, setK, lookK, fillA, writeL, writeC, readC, conts, TyI.mk1, sliceA, boundsA, boundsB, fitsA, numA, indexAddrA, fieldAddrA, partA, fieldA, indexA, appendA, copyA, builtinA, AV.cells, AV.scal, chunk, gcH, reach, keysT, keepK, inKs, AV.keys, AV.keysL, Ty.isAgg, eq1, eqL, convA.go, ltI, w_u8, w_u32, w_u64, w_i64, w_fdiv, w_tdiv, w_tmod, IntKind.bits, unA, bs_pure, G, hn, h0, w, B, ↓s_regD, s_dyn0, s_rgy, barOf]
theorem ok_ (f c) (cs ys l : List Int) (hb : isBit l) (h0 : 0 < l.length) (hl : l.length ≤ 64) (G : Con E 100 31 [.sl f (bs cs) c] (.tup [.sl false (bs ys) (some ys.length), .int .i64 (l.length : Int), .int .i64 0]))
    (B : ∀ i x, l[i]? = some x → Con E 60 40 [.sl false (bs ys) (some ys.length), .int .i64 (l.length : Int), .int .i64 ((i : Nat) : Int)] (.bool (x == 1))) (hz : l[l.length - 1]? = some 1) :
    Con E 1000 48 [.sl f (bs cs) c] (.tup [.int .u64 (W l), .int .i64 0]) := by
  refine .of (g := []) (by simp [AV.pureL, AV.pure, bs_pure]) ?_
  rw [aCall_fn rfl (E_fn48) (by simp [AV.pureL, AV.pure, bs_pure]) (Nat.le_of_ble_eq_true rfl) rfl rfl, body_48, c48]
  have w := w64 ((l.length : Int) - 1) (by omega) (by omega)
  have B1 := B (l.length - 1) 1 hz
  have e1 : ((l.length - 1 : Nat) : Int) = (l.length : Int) - 1 := by omega
  rw [e1] at B1
  have B2 : Con E 60 40 [.sl false (bs ys) (some ys.length), .int .i64 (l.length : Int), .int .i64 ((l.length : Int) - 1)] (.bool true) := B1
  have b : ¬ (64 : Int) < (l.length : Int) := by omega
  have b2 : ¬ 64 < l.length := by omega
  have n0 : l ≠ [] := List.length_pos_iff.1 h0
  have L := loop 999 999 999 ys l hb hl (by omega) (by omega) B
  simp [b48, c48, firstReg] at L
  simp [↓s_seq, ↓s_reg, ↓s_regd, ↓s_cond, ↓s_block, ↓s_cons, ↓s_consG, s_nil, s_loop, s_round, s_lpn, s_lpe, s_lpr, firstReg, s_gt, s_gf, s_wb, s_wu, s_val, s_valN, s_skip, s_calls, s_callP, s_cax, lookR, flatR, pureKs, s_ret, s_rgx, s_sqn, s_sqr, s_sqe, s_cdb, s_bkn, s_bkr, s_bke, s_exit, s_ret', s_skip', s_finr, s_finn, s_fin1, s_fix, s_clean, s_gc0, o_tmp, o_int, o_bool, o_nil, o_str, o_fn, o_nil', l_hit, l_miss, l_nil, ol_nil, ol_cons, ol_some, x_move, x_assign, x_pick, pk_t, pk_f, x_bin, bn_s, x_un, x_extract, x_callF, cl_no, x_callB, x_conv, cvx, convA, frame0, binA, intOp, resL, resA, results1, sealA, sealLW, AV.pure, AV.pureL, keepT, x_alloc, x_box, bxx, x_build, bdx, x_buildSlice, bsx, x_buildSliceF, bsf, x_load, ldx, x_store, stx, x_slice, slx, x_fieldAddr, x_field, x_index, ixx, x_indexAddr, iax, x_makeSlice, msx, x_nilCheck, newK, genOf, setK, lookK, fillA, writeL, writeC, readC, conts, TyI.mk1, sliceA, boundsA, boundsB, fitsA, numA, indexAddrA, fieldAddrA, partA, fieldA, indexA, appendA, copyA, builtinA, AV.cells, AV.scal, chunk, gcH, reach, keysT, keepK, inKs, AV.keys, AV.keysL, Ty.isAgg, eq1, eqL, convA.go, ltI, w_u8, w_u32, w_u64, w_i64, w_fdiv, w_tdiv, w_tmod, IntKind.bits, unA, bs_pure, G, h0, n0, w, B2, b, b2, L, ↓s_regD, s_dyn0, s_rgy, barOf, -s_round]
end T18
