/- The octets of bits, by the reference, at the evaluator. No conditions. -/
import Derived.Test.YtalmnhdnclmhbaaT5
open Ab Go TabB T1 T2 T3 T4 T5
set_option maxRecDepth 20000
set_option linter.unusedSimpArgs false
set_option linter.unusedVariables false
set_option maxHeartbeats 8000000
namespace T6
def upto (l : List Int) (j : Nat) : List Int := (List.range j).map fun j => val l (8 * j) 8
def bytesOf (l : List Int) : List Int := upto l ((l.length + 7) / 8)
theorem upto_length (l j) : (upto l j).length = j := by simp [upto]
theorem upto_succ (l j) : upto l (j + 1) = upto l j ++ [val l (8 * j) 8] := by simp [upto, List.range_succ]
theorem loop (call sc) (q k : Nat) (f : Bool) (c : Option Nat) (l : List Int) (hb : isBit l) (hl : l.length < 800000) (h0 : 0 < l.length) (hk : l.length < k) :
    ∃ m p : Nat, aLoop (aCode E call sc (q + 9) 1 fn24 bO24) (cleanS 1 ((firstReg bO24).bind fn24.head)) (k + 1) ⟨[(0, .sl f (is l) c), (3, .sl true [] (some 0)), (4, .int .i64 0)], []⟩ = some (.exit 0, ⟨[(0, .sl f (is l) c), (3, .ref (1, 37, m) 0 (bytesOf l).length none), (4, .int .i64 (p : Int)), (10, .bool false)], [((1, 37, m), ⟨bs (bytesOf l), true, true, false, 1, false⟩)]⟩) := by
  have r0 := outer0 call sc q l hb f c (by omega)
  rw [aLoop_succ r0]
  obtain ⟨N, eN⟩ : ∃ N, (l.length + 7) / 8 = N + 1 := ⟨(l.length + 7) / 8 - 1, by omega⟩
  refine ⟨N, 8 * (N + 1), ?_⟩
  refine loopR (fun j => O f l c (8 * (j + 1)) j (upto l (j + 1)).length (bs (upto l (j + 1)))) N rfl ?_ ?_ (by simp) (by omega)
  · intro j hj
    have r := outer call sc q l hb f c (8 * (j + 1)) j (upto l (j + 1)) (by omega) (by omega) (by rw [upto_length]; omega)
    rw [← upto_succ] at r
    exact r
  · have r := last call sc (q + 9) l f c (8 * (N + 1)) N (upto l (N + 1)).length (upto l (N + 1)) (by omega)
    have e : bytesOf l = upto l (N + 1) := by unfold bytesOf; rw [eN]
    rw [e]
    exact r
theorem bytes_nil (f c) : Con E 20 24 [.sl f [] c] (.sl true [] (some 0)) := by
  refine .of (g := []) rfl ?_
  rw [aCall_fn rfl (E_fn24) rfl (Nat.le_of_ble_eq_true rfl) rfl rfl, body_24, c24]
  simp [↓s_seq, ↓s_reg, ↓s_regd, ↓s_cond, ↓s_block, ↓s_cons, ↓s_consG, s_nil, s_loop, s_round, s_lpn, s_lpe, s_lpr, firstReg, s_gt, s_gf, s_wb, s_wu, s_val, s_valN, s_skip, s_calls, s_callP, s_cax, lookR, flatR, pureKs, s_ret, s_rgx, s_sqn, s_sqr, s_sqe, s_cdb, s_bkn, s_bkr, s_bke, s_exit, s_ret', s_skip', s_finr, s_finn, s_fin1, s_fix, s_clean, s_gc0, o_tmp, o_int, o_bool, o_nil, o_str, o_fn, o_nil', l_hit, l_miss, l_nil, ol_nil, ol_cons, ol_some, x_move, x_assign, x_pick, pk_t, pk_f, x_bin, bn_s, x_un, x_extract, x_callF, cl_no, x_callB, x_conv, cvx, convA, frame0, binA, intOp, resL, resA, results1, sealA, sealLW, AV.pure, AV.pureL, keepT, x_alloc, x_box, bxx, x_build, bdx, x_buildSlice, bsx, x_buildSliceF, bsf, x_load, ldx, x_store, stx, x_slice, slx, x_fieldAddr, x_field, x_index, ixx, x_indexAddr, iax, x_makeSlice, msx, x_nilCheck, newK, genOf, setK, lookK, fillA, writeL, writeC, readC, conts, TyI.mk1, sliceA, boundsA, boundsB, fitsA, numA, indexAddrA, fieldAddrA, partA, fieldA, indexA, appendA, copyA, builtinA, AV.cells, AV.scal, chunk, gcH, reach, keysT, keepK, inKs, AV.keys, AV.keysL, Ty.isAgg, eq1, eqL, convA.go, ltI, w_u8, w_u32, w_u64, w_i64, w_fdiv, w_tdiv, w_tmod, IntKind.bits, unA]
theorem bytes_con (f c) (l : List Int) (hb : isBit l) (hl : l.length < 800000) (h0 : 0 < l.length) (N : Nat) (hN : l.length + 20 ≤ N) : Con E N 24 [.sl f (is l) c] (.sl false (bs (bytesOf l)) none) := by
  obtain ⟨q, rfl⟩ : ∃ q, N = q + 9 + 1 := ⟨N - 10, by omega⟩
  refine .of (g := []) (by simp [AV.pureL, AV.pure, is_pure]) ?_
  rw [aCall_fn rfl (E_fn24) (by simp [AV.pureL, AV.pure, is_pure]) (Nat.le_of_ble_eq_true rfl) rfl rfl, body_24, c24]
  obtain ⟨m, p, e⟩ := loop (aCall E (q + 9)) (dcall (aRun E (q + 9))) q (q + 8) f c l hb hl h0 (by omega)
  simp [bO24, c24, firstReg] at e
  have k1 := bs_keys (bytesOf l)
  have k2 := bs_pure (bytesOf l)
  have k3 := bs_length (bytesOf l)
  have sl : ∀ h, lookK h (1, 37, m) = some ⟨bs (bytesOf l), true, true, false, 1, false⟩ → sealA 20 h (.ref (1, 37, m) 0 (bytesOf l).length none) = some (.sl false (bs (bytesOf l)) none, setK h (1, 37, m) ⟨bs (bytesOf l), true, false, false, 1, false⟩) := fun h hk => seal_row (n := 18) hk k3.symm k2
  simp [↓s_seq, ↓s_reg, ↓s_regd, ↓s_cond, ↓s_block, ↓s_cons, ↓s_consG, s_nil, s_loop, s_round, s_lpn, s_lpe, s_lpr, firstReg, s_gt, s_gf, s_wb, s_wu, s_val, s_valN, s_skip, s_calls, s_callP, s_cax, lookR, flatR, pureKs, s_ret, s_rgx, s_sqn, s_sqr, s_sqe, s_cdb, s_bkn, s_bkr, s_bke, s_exit, s_ret', s_skip', s_finr, s_finn, s_fin1, s_fix, s_clean, s_gc0, o_tmp, o_int, o_bool, o_nil, o_str, o_fn, o_nil', l_hit, l_miss, l_nil, ol_nil, ol_cons, ol_some, x_move, x_assign, x_pick, pk_t, pk_f, x_bin, bn_s, x_un, x_extract, x_callF, cl_no, x_callB, x_conv, cvx, convA, frame0, binA, intOp, resL, resA, results1, sealA, sealLW, AV.pure, AV.pureL, keepT, x_alloc, x_box, bxx, x_build, bdx, x_buildSlice, bsx, x_buildSliceF, bsf, x_load, ldx, x_store, stx, x_slice, slx, x_fieldAddr, x_field, x_index, ixx, x_indexAddr, iax, x_makeSlice, msx, x_nilCheck, newK, genOf, setK, lookK, fillA, writeL, writeC, readC, conts, TyI.mk1, sliceA, boundsA, boundsB, fitsA, numA, indexAddrA, fieldAddrA, partA, fieldA, indexA, appendA, copyA, builtinA, AV.cells, AV.scal, chunk, gcH, reach, keysT, keepK, inKs, AV.keys, AV.keysL, Ty.isAgg, eq1, eqL, convA.go, ltI, w_u8, w_u32, w_u64, w_i64, w_fdiv, w_tdiv, w_tmod, IntKind.bits, unA, is_pure, e, k1, k2, k3, sl, -s_round, -sealA, -sealLW]
end T6
