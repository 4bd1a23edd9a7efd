/- The bits of content octets, by the reference, at the evaluator. No conditions. -/
import Derived.Test.YtalmnhdnclmhbaaT6
open Ab Go TabB T1 T2 T3 T4 T5 T6
set_option maxRecDepth 20000
set_option linter.unusedSimpArgs false
set_option linter.unusedVariables false
set_option maxHeartbeats 8000000
namespace T7
def b22 : Code := match c22 with
  | .seq _ (.seq _ (.seq _ (.seq _ (.seq (.seq _ (.block _ (.loop b))) _)))) => b
  | _ => .skip
abbrev S (l : List Int) (n : Int) (i : Int) : St := ⟨[(4, .sl false (is l) none), (5, .int .i64 n), (6, .int .i64 i)], []⟩
theorem go (call sc) (k1 : Nat) (l : List Int) (n : Int) (i : Nat) (h : l[i]? = some 0) (hl : l.length < 1000000) :
    aCode E call sc k1 1 fn22 b22 (cleanS 1 ((firstReg b22).bind fn22.head) (S l n (i : Int))) = some (.normal, S l n ((i + 1 : Nat) : Int)) := by
  have hi : i < l.length := (List.getElem?_eq_some_iff.1 h).1
  have hi2 : (i : Int) < (l.length : Int) := by omega
  have ix := atI false none l i 0 h
  have w := w64 ((i : Int) + 1) (by omega) (by omega)
  have e : ((i + 1 : Nat) : Int) = (i : Int) + 1 := by omega
  have p := is_pure l
  have kk := is_keys l
  have ln := is_length l
  simp [b22, c22, ↓s_seq, ↓s_reg, ↓s_regd, ↓s_cond, ↓s_block, ↓s_cons, ↓s_consG, s_nil, s_loop, s_round, s_lpn, s_lpe, s_lpr, firstReg, s_gt, s_gf, s_wb, s_wu, s_val, s_valN, s_skip, s_calls, s_callP, s_cax, lookR, flatR, pureKs, s_ret, s_rgx, s_sqn, s_sqr, s_sqe, s_cdb, s_bkn, s_bkr, s_bke, s_exit, s_ret', s_skip', s_finr, s_finn, s_fin1, s_fix, s_clean, s_gc0, o_tmp, o_int, o_bool, o_nil, o_str, o_fn, o_nil', l_hit, l_miss, l_nil, ol_nil, ol_cons, ol_some, x_move, x_assign, x_pick, pk_t, pk_f, x_bin, bn_s, x_un, x_extract, x_callF, cl_no, x_callB, x_conv, cvx, convA, frame0, binA, intOp, resL, resA, results1, sealA, sealLW, AV.pure, AV.pureL, keepT, x_alloc, x_box, bxx, x_build, bdx, x_buildSlice, bsx, x_buildSliceF, bsf, x_load, ldx, x_store, stx, x_slice, slx, x_fieldAddr, x_field, x_index, ixx, x_indexAddr, iax, x_makeSlice, msx, x_nilCheck, newK, genOf, setK, lookK, fillA, writeL, writeC, readC, conts, TyI.mk1, sliceA, boundsA, boundsB, fitsA, numA, indexAddrA, fieldAddrA, partA, fieldA, indexA, appendA, copyA, builtinA, AV.cells, AV.scal, chunk, gcH, reach, keysT, keepK, inKs, AV.keys, AV.keysL, Ty.isAgg, eq1, eqL, convA.go, ltI, w_u8, w_u32, w_u64, w_i64, w_fdiv, w_tdiv, w_tmod, IntKind.bits, unA, p, kk, ln, hi, hi2, -indexAddrA, ix, w]
theorem bad (call sc) (k1 : Nat) (l : List Int) (n : Int) (i : Nat) (x : Int) (h : l[i]? = some x) (hx : ¬ x = 0) (hl : l.length < 1000000) :
    aCode E call sc k1 1 fn22 b22 (cleanS 1 ((firstReg b22).bind fn22.head) (S l n (i : Int))) = some (.ret, ⟨[(2, .sl true [] (some 0)), (3, .int .i64 11)], []⟩) := by
  have hi : i < l.length := (List.getElem?_eq_some_iff.1 h).1
  have hi2 : (i : Int) < (l.length : Int) := by omega
  have ix := atI false none l i x h
  have e : (x != 0) = true := by simp [hx]
  have p := is_pure l
  have kk := is_keys l
  have ln := is_length l
  simp [b22, c22, ↓s_seq, ↓s_reg, ↓s_regd, ↓s_cond, ↓s_block, ↓s_cons, ↓s_consG, s_nil, s_loop, s_round, s_lpn, s_lpe, s_lpr, firstReg, s_gt, s_gf, s_wb, s_wu, s_val, s_valN, s_skip, s_calls, s_callP, s_cax, lookR, flatR, pureKs, s_ret, s_rgx, s_sqn, s_sqr, s_sqe, s_cdb, s_bkn, s_bkr, s_bke, s_exit, s_ret', s_skip', s_finr, s_finn, s_fin1, s_fix, s_clean, s_gc0, o_tmp, o_int, o_bool, o_nil, o_str, o_fn, o_nil', l_hit, l_miss, l_nil, ol_nil, ol_cons, ol_some, x_move, x_assign, x_pick, pk_t, pk_f, x_bin, bn_s, x_un, x_extract, x_callF, cl_no, x_callB, x_conv, cvx, convA, frame0, binA, intOp, resL, resA, results1, sealA, sealLW, AV.pure, AV.pureL, keepT, x_alloc, x_box, bxx, x_build, bdx, x_buildSlice, bsx, x_buildSliceF, bsf, x_load, ldx, x_store, stx, x_slice, slx, x_fieldAddr, x_field, x_index, ixx, x_indexAddr, iax, x_makeSlice, msx, x_nilCheck, newK, genOf, setK, lookK, fillA, writeL, writeC, readC, conts, TyI.mk1, sliceA, boundsA, boundsB, fitsA, numA, indexAddrA, fieldAddrA, partA, fieldA, indexA, appendA, copyA, builtinA, AV.cells, AV.scal, chunk, gcH, reach, keysT, keepK, inKs, AV.keys, AV.keysL, Ty.isAgg, eq1, eqL, convA.go, ltI, w_u8, w_u32, w_u64, w_i64, w_fdiv, w_tdiv, w_tmod, IntKind.bits, unA, p, kk, ln, hi, hi2, -indexAddrA, ix, hx, e]
theorem fin (call sc) (k1 : Nat) (l : List Int) (n : Int) :
    aCode E call sc k1 1 fn22 b22 (cleanS 1 ((firstReg b22).bind fn22.head) (S l n (l.length : Int))) = some (.exit 0, ⟨[(4, .sl false (is l) none), (5, .int .i64 n), (6, .int .i64 (l.length : Int)), (41, .bool false)], []⟩) := by
  have p := is_pure l
  have kk := is_keys l
  have ln := is_length l
  simp [b22, c22, ↓s_seq, ↓s_reg, ↓s_regd, ↓s_cond, ↓s_block, ↓s_cons, ↓s_consG, s_nil, s_loop, s_round, s_lpn, s_lpe, s_lpr, firstReg, s_gt, s_gf, s_wb, s_wu, s_val, s_valN, s_skip, s_calls, s_callP, s_cax, lookR, flatR, pureKs, s_ret, s_rgx, s_sqn, s_sqr, s_sqe, s_cdb, s_bkn, s_bkr, s_bke, s_exit, s_ret', s_skip', s_finr, s_finn, s_fin1, s_fix, s_clean, s_gc0, o_tmp, o_int, o_bool, o_nil, o_str, o_fn, o_nil', l_hit, l_miss, l_nil, ol_nil, ol_cons, ol_some, x_move, x_assign, x_pick, pk_t, pk_f, x_bin, bn_s, x_un, x_extract, x_callF, cl_no, x_callB, x_conv, cvx, convA, frame0, binA, intOp, resL, resA, results1, sealA, sealLW, AV.pure, AV.pureL, keepT, x_alloc, x_box, bxx, x_build, bdx, x_buildSlice, bsx, x_buildSliceF, bsf, x_load, ldx, x_store, stx, x_slice, slx, x_fieldAddr, x_field, x_index, ixx, x_indexAddr, iax, x_makeSlice, msx, x_nilCheck, newK, genOf, setK, lookK, fillA, writeL, writeC, readC, conts, TyI.mk1, sliceA, boundsA, boundsB, fitsA, numA, indexAddrA, fieldAddrA, partA, fieldA, indexA, appendA, copyA, builtinA, AV.cells, AV.scal, chunk, gcH, reach, keysT, keepK, inKs, AV.keys, AV.keysL, Ty.isAgg, eq1, eqL, convA.go, ltI, w_u8, w_u32, w_u64, w_i64, w_fdiv, w_tdiv, w_tmod, IntKind.bits, unA, p, kk, ln]
/-- All zero from n on: the loop runs out. -/
theorem loop_ok (call sc) (k1 k : Nat) (l : List Int) (n : Nat) (hn : n ≤ l.length) (hz : ∀ i, n ≤ i → i < l.length → l[i]? = some 0) (hl : l.length < 1000000) (hk : l.length < k) :
    aLoop (aCode E call sc k1 1 fn22 b22) (cleanS 1 ((firstReg b22).bind fn22.head)) k (S l (n : Int) (n : Int)) = some (.exit 0, ⟨[(4, .sl false (is l) none), (5, .int .i64 (n : Int)), (6, .int .i64 (l.length : Int)), (41, .bool false)], []⟩) := by
  refine loopR (fun j => S l (n : Int) ((n + j : Nat) : Int)) (l.length - n) rfl (fun j hj => ?_) ?_ (by simp) (by omega)
  · exact go call sc k1 l n (n + j) (hz _ (by omega) (by omega)) hl
  · have e : n + (l.length - n) = l.length := by omega
    simp only [e]
    exact fin call sc k1 l n
/-- Some one is not zero. -/
theorem loop_bad (call sc) (k1 k : Nat) (l : List Int) (n j : Nat) (x : Int) (hj : l[n + j]? = some x) (hx : ¬ x = 0) (hz : ∀ i, i < j → l[n + i]? = some 0) (hl : l.length < 1000000) (hk : l.length < k) :
    aLoop (aCode E call sc k1 1 fn22 b22) (cleanS 1 ((firstReg b22).bind fn22.head)) k (S l (n : Int) (n : Int)) = some (.ret, ⟨[(2, .sl true [] (some 0)), (3, .int .i64 11)], []⟩) := by
  have hlt : n + j < l.length := (List.getElem?_eq_some_iff.1 hj).1
  exact loopR (fun j => S l (n : Int) ((n + j : Nat) : Int)) j rfl (fun i hi => go call sc k1 l n (n + i) (hz i hi) hl) (bad call sc k1 l n (n + j) x hj hx hl) (by simp) (by omega)
end T7
