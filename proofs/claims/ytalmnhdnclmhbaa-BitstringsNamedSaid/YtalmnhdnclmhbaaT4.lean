/- The octets of bits, by the reference, at the evaluator. No conditions. -/
import Derived.Test.YtalmnhdnclmhbaaT3
open Ab Go TabB T1 T2 T3
set_option maxRecDepth 20000
set_option linter.unusedSimpArgs false
set_option linter.unusedVariables false
set_option maxHeartbeats 8000000
namespace T4
def bO24 : Code := match c24 with
  | .seq _ (.seq _ (.seq (.seq _ (.block _ (.loop b))) _)) => b
  | _ => .skip
def bI24 : Code := match bO24 with
  | .seq _ (.seq (.block _ (.seq _ (.seq (.seq _ (.block _ (.loop b))) _))) _) => b
  | _ => .skip
def R (m n : Nat) : AV := .ref (1, 37, m) 0 n none
def isBit (l : List Int) : Prop := ∀ x ∈ l, x = 0 ∨ x = 1
theorem atI (f c) (l : List Int) (i : Nat) (x : Int) (h : l[i]? = some x) : ∀ hp, indexAddrA E 39 (.sl f (is l) c) (.int .i64 i) hp = some (.pel [.int .i64 x]) := by
  intro hp
  have hl : i < l.length := (List.getElem?_eq_some_iff.1 h).1
  have e : (is l)[i]? = some (.int .i64 x) := by
    have : (is l)[i]? = (l[i]?).map (.int .i64) := List.getElem?_map ..
    rw [this, h]; rfl
  unfold indexAddrA
  simp only [E_ty39]
  rw [if_pos ⟨by omega, by rw [is_length]; omega⟩]
  simp only [Int.toNat_natCast, e, E_ty3]
  simp [AV.cells, AV.scal]
theorem inA (call sc) (k1 : Nat) (l : List Int) (f : Bool) (c : Option Nat) (i k v : Int) (h0 : 0 ≤ i) (h1 : i < 1000000) (k0 : 0 ≤ k) (k8 : k < 8) (v0 : 0 ≤ v) (v1 : v < 256) (x : Int) (hx : x = 0 ∨ x = 1) (hi : i + k < (l.length : Int)) (ix : ∀ h, indexAddrA E 39 (.sl f (is l) c) (.int .i64 (i + k)) h = some (.pel [.int .i64 x])) :
    aCode E call sc k1 1 fn24 bI24 (cleanS 1 ((firstReg bI24).bind fn24.head) ⟨[(0, .sl f (is l) c), (3, .sl true [] (some 0)), (4, .int .i64 i), (5, .int .i64 v), (6, .int .i64 k)], []⟩) = some (.normal, ⟨[(0, .sl f (is l) c), (3, .sl true [] (some 0)), (4, .int .i64 i), (5, .int .i64 (2 * v + x)), (6, .int .i64 (k + 1))], []⟩) := by
  have w1 := w64 (2 * v) (by omega) (by omega)
  have w2 := w64 (i + k) (by omega) (by omega)
  have w3 := w64 (2 * v + x) (by omega) (by omega)
  have w4 := w64 (k + 1) (by omega) (by omega)
  have p := is_pure l
  have kk := is_keys l
  have ln := is_length l
  simp [bI24, bO24, c24, ↓s_seq, ↓s_reg, ↓s_regd, ↓s_cond, ↓s_block, ↓s_cons, ↓s_consG, s_nil, s_loop, s_round, s_lpn, s_lpe, s_lpr, firstReg, s_gt, s_gf, s_wb, s_wu, s_val, s_valN, s_skip, s_calls, s_callP, s_cax, lookR, flatR, pureKs, s_ret, s_rgx, s_sqn, s_sqr, s_sqe, s_cdb, s_bkn, s_bkr, s_bke, s_exit, s_ret', s_skip', s_finr, s_finn, s_fin1, s_fix, s_clean, s_gc0, o_tmp, o_int, o_bool, o_nil, o_str, o_fn, o_nil', l_hit, l_miss, l_nil, ol_nil, ol_cons, ol_some, x_move, x_assign, x_pick, pk_t, pk_f, x_bin, bn_s, x_un, x_extract, x_callF, cl_no, x_callB, x_conv, cvx, convA, frame0, binA, intOp, resL, resA, results1, sealA, sealLW, AV.pure, AV.pureL, keepT, x_alloc, x_box, bxx, x_build, bdx, x_buildSlice, bsx, x_buildSliceF, bsf, x_load, ldx, x_store, stx, x_slice, slx, x_fieldAddr, x_field, x_index, ixx, x_indexAddr, iax, x_makeSlice, msx, x_nilCheck, newK, genOf, setK, lookK, fillA, writeL, writeC, readC, conts, TyI.mk1, sliceA, boundsA, boundsB, fitsA, numA, indexAddrA, fieldAddrA, partA, fieldA, indexA, appendA, copyA, builtinA, AV.cells, AV.scal, chunk, gcH, reach, keysT, keepK, inKs, AV.keys, AV.keysL, Ty.isAgg, eq1, eqL, convA.go, ltI, w_u8, w_u32, w_u64, w_i64, w_fdiv, w_tdiv, w_tmod, IntKind.bits, unA, p, kk, ln, k8, hi, -indexAddrA, ix, w1, w2, w3, w4]
theorem outA (call sc) (k1 : Nat) (l : List Int) (f : Bool) (c : Option Nat) (i k v : Int) (h0 : 0 ≤ i) (h1 : i < 1000000) (k0 : 0 ≤ k) (k8 : k < 8) (v0 : 0 ≤ v) (v1 : v < 256) (hi : ¬ i + k < (l.length : Int)) :
    aCode E call sc k1 1 fn24 bI24 (cleanS 1 ((firstReg bI24).bind fn24.head) ⟨[(0, .sl f (is l) c), (3, .sl true [] (some 0)), (4, .int .i64 i), (5, .int .i64 v), (6, .int .i64 k)], []⟩) = some (.normal, ⟨[(0, .sl f (is l) c), (3, .sl true [] (some 0)), (4, .int .i64 i), (5, .int .i64 (2 * v)), (6, .int .i64 (k + 1))], []⟩) := by
  have w1 := w64 (2 * v) (by omega) (by omega)
  have w2 := w64 (i + k) (by omega) (by omega)
  have w4 := w64 (k + 1) (by omega) (by omega)
  have p := is_pure l
  have kk := is_keys l
  have ln := is_length l
  simp [bI24, bO24, c24, ↓s_seq, ↓s_reg, ↓s_regd, ↓s_cond, ↓s_block, ↓s_cons, ↓s_consG, s_nil, s_loop, s_round, s_lpn, s_lpe, s_lpr, firstReg, s_gt, s_gf, s_wb, s_wu, s_val, s_valN, s_skip, s_calls, s_callP, s_cax, lookR, flatR, pureKs, s_ret, s_rgx, s_sqn, s_sqr, s_sqe, s_cdb, s_bkn, s_bkr, s_bke, s_exit, s_ret', s_skip', s_finr, s_finn, s_fin1, s_fix, s_clean, s_gc0, o_tmp, o_int, o_bool, o_nil, o_str, o_fn, o_nil', l_hit, l_miss, l_nil, ol_nil, ol_cons, ol_some, x_move, x_assign, x_pick, pk_t, pk_f, x_bin, bn_s, x_un, x_extract, x_callF, cl_no, x_callB, x_conv, cvx, convA, frame0, binA, intOp, resL, resA, results1, sealA, sealLW, AV.pure, AV.pureL, keepT, x_alloc, x_box, bxx, x_build, bdx, x_buildSlice, bsx, x_buildSliceF, bsf, x_load, ldx, x_store, stx, x_slice, slx, x_fieldAddr, x_field, x_index, ixx, x_indexAddr, iax, x_makeSlice, msx, x_nilCheck, newK, genOf, setK, lookK, fillA, writeL, writeC, readC, conts, TyI.mk1, sliceA, boundsA, boundsB, fitsA, numA, indexAddrA, fieldAddrA, partA, fieldA, indexA, appendA, copyA, builtinA, AV.cells, AV.scal, chunk, gcH, reach, keysT, keepK, inKs, AV.keys, AV.keysL, Ty.isAgg, eq1, eqL, convA.go, ltI, w_u8, w_u32, w_u64, w_i64, w_fdiv, w_tdiv, w_tmod, IntKind.bits, unA, p, kk, ln, k8, hi, w1, w2, w4]
theorem inB (call sc) (k1 : Nat) (l : List Int) (f : Bool) (c : Option Nat) (i k v : Int) (m n : Nat) (ys : List AV) (hky : AV.keysL ys = []) (h0 : 0 ≤ i) (h1 : i < 1000000) (k0 : 0 ≤ k) (k8 : k < 8) (v0 : 0 ≤ v) (v1 : v < 256) (x : Int) (hx : x = 0 ∨ x = 1) (hi : i + k < (l.length : Int)) (ix : ∀ h, indexAddrA E 39 (.sl f (is l) c) (.int .i64 (i + k)) h = some (.pel [.int .i64 x])) :
    aCode E call sc k1 1 fn24 bI24 (cleanS 1 ((firstReg bI24).bind fn24.head) ⟨[(0, .sl f (is l) c), (3, .ref (1, 37, m) 0 n none), (4, .int .i64 i), (5, .int .i64 v), (6, .int .i64 k)], [((1, 37, m), ⟨ys, true, true, false, 1, false⟩)]⟩) = some (.normal, ⟨[(0, .sl f (is l) c), (3, .ref (1, 37, m) 0 n none), (4, .int .i64 i), (5, .int .i64 (2 * v + x)), (6, .int .i64 (k + 1))], [((1, 37, m), ⟨ys, true, true, false, 1, false⟩)]⟩) := by
  have w1 := w64 (2 * v) (by omega) (by omega)
  have w2 := w64 (i + k) (by omega) (by omega)
  have w3 := w64 (2 * v + x) (by omega) (by omega)
  have w4 := w64 (k + 1) (by omega) (by omega)
  have p := is_pure l
  have kk := is_keys l
  have ln := is_length l
  simp [bI24, bO24, c24, ↓s_seq, ↓s_reg, ↓s_regd, ↓s_cond, ↓s_block, ↓s_cons, ↓s_consG, s_nil, s_loop, s_round, s_lpn, s_lpe, s_lpr, firstReg, s_gt, s_gf, s_wb, s_wu, s_val, s_valN, s_skip, s_calls, s_callP, s_cax, lookR, flatR, pureKs, s_ret, s_rgx, s_sqn, s_sqr, s_sqe, s_cdb, s_bkn, s_bkr, s_bke, s_exit, s_ret', s_skip', s_finr, s_finn, s_fin1, s_fix, s_clean, s_gc0, o_tmp, o_int, o_bool, o_nil, o_str, o_fn, o_nil', l_hit, l_miss, l_nil, ol_nil, ol_cons, ol_some, x_move, x_assign, x_pick, pk_t, pk_f, x_bin, bn_s, x_un, x_extract, x_callF, cl_no, x_callB, x_conv, cvx, convA, frame0, binA, intOp, resL, resA, results1, sealA, sealLW, AV.pure, AV.pureL, keepT, x_alloc, x_box, bxx, x_build, bdx, x_buildSlice, bsx, x_buildSliceF, bsf, x_load, ldx, x_store, stx, x_slice, slx, x_fieldAddr, x_field, x_index, ixx, x_indexAddr, iax, x_makeSlice, msx, x_nilCheck, newK, genOf, setK, lookK, fillA, writeL, writeC, readC, conts, TyI.mk1, sliceA, boundsA, boundsB, fitsA, numA, indexAddrA, fieldAddrA, partA, fieldA, indexA, appendA, copyA, builtinA, AV.cells, AV.scal, chunk, gcH, reach, keysT, keepK, inKs, AV.keys, AV.keysL, Ty.isAgg, eq1, eqL, convA.go, ltI, w_u8, w_u32, w_u64, w_i64, w_fdiv, w_tdiv, w_tmod, IntKind.bits, unA, p, kk, ln, k8, hi, -indexAddrA, ix, w1, w2, w3, w4, hky]
theorem outB (call sc) (k1 : Nat) (l : List Int) (f : Bool) (c : Option Nat) (i k v : Int) (m n : Nat) (ys : List AV) (hky : AV.keysL ys = []) (h0 : 0 ≤ i) (h1 : i < 1000000) (k0 : 0 ≤ k) (k8 : k < 8) (v0 : 0 ≤ v) (v1 : v < 256) (hi : ¬ i + k < (l.length : Int)) :
    aCode E call sc k1 1 fn24 bI24 (cleanS 1 ((firstReg bI24).bind fn24.head) ⟨[(0, .sl f (is l) c), (3, .ref (1, 37, m) 0 n none), (4, .int .i64 i), (5, .int .i64 v), (6, .int .i64 k)], [((1, 37, m), ⟨ys, true, true, false, 1, false⟩)]⟩) = some (.normal, ⟨[(0, .sl f (is l) c), (3, .ref (1, 37, m) 0 n none), (4, .int .i64 i), (5, .int .i64 (2 * v)), (6, .int .i64 (k + 1))], [((1, 37, m), ⟨ys, true, true, false, 1, false⟩)]⟩) := by
  have w1 := w64 (2 * v) (by omega) (by omega)
  have w2 := w64 (i + k) (by omega) (by omega)
  have w4 := w64 (k + 1) (by omega) (by omega)
  have p := is_pure l
  have kk := is_keys l
  have ln := is_length l
  simp [bI24, bO24, c24, ↓s_seq, ↓s_reg, ↓s_regd, ↓s_cond, ↓s_block, ↓s_cons, ↓s_consG, s_nil, s_loop, s_round, s_lpn, s_lpe, s_lpr, firstReg, s_gt, s_gf, s_wb, s_wu, s_val, s_valN, s_skip, s_calls, s_callP, s_cax, lookR, flatR, pureKs, s_ret, s_rgx, s_sqn, s_sqr, s_sqe, s_cdb, s_bkn, s_bkr, s_bke, s_exit, s_ret', s_skip', s_finr, s_finn, s_fin1, s_fix, s_clean, s_gc0, o_tmp, o_int, o_bool, o_nil, o_str, o_fn, o_nil', l_hit, l_miss, l_nil, ol_nil, ol_cons, ol_some, x_move, x_assign, x_pick, pk_t, pk_f, x_bin, bn_s, x_un, x_extract, x_callF, cl_no, x_callB, x_conv, cvx, convA, frame0, binA, intOp, resL, resA, results1, sealA, sealLW, AV.pure, AV.pureL, keepT, x_alloc, x_box, bxx, x_build, bdx, x_buildSlice, bsx, x_buildSliceF, bsf, x_load, ldx, x_store, stx, x_slice, slx, x_fieldAddr, x_field, x_index, ixx, x_indexAddr, iax, x_makeSlice, msx, x_nilCheck, newK, genOf, setK, lookK, fillA, writeL, writeC, readC, conts, TyI.mk1, sliceA, boundsA, boundsB, fitsA, numA, indexAddrA, fieldAddrA, partA, fieldA, indexA, appendA, copyA, builtinA, AV.cells, AV.scal, chunk, gcH, reach, keysT, keepK, inKs, AV.keys, AV.keysL, Ty.isAgg, eq1, eqL, convA.go, ltI, w_u8, w_u32, w_u64, w_i64, w_fdiv, w_tdiv, w_tmod, IntKind.bits, unA, p, kk, ln, k8, hi, w1, w2, w4, hky]
end T4
