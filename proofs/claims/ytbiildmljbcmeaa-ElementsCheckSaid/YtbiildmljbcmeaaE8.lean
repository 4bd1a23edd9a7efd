/- elements.put at the evaluator. No conditions. -/
import Derived.Test.YtbiildmljbcmeaaE7
open Ab Go TabE Sp E6 E7
set_option maxRecDepth 20000
set_option linter.unusedSimpArgs false
set_option linter.unusedVariables false
set_option maxHeartbeats 8000000
namespace E8
theorem len_put (n : Int) (n0 : 0 ≤ n) (n1 : n ≤ 16777215) : Con E 10 94 [.int .i64 n] (.tup [.sl false (bs (lenO n)) (some (lenO n).length), .int .i64 0]) := by
  unfold lenO
  split
  · exact P1.put_1 n n0 (by omega)
  split
  · exact P1.put_2 n (by omega) (by omega)
  split
  · exact P1.put_3 n (by omega) (by omega)
  · exact P1.put_4 n (by omega) (by omega)
/-- A row that is filled from the left. -/
abbrev R (pre : List Int) (z : Nat) : AObj := ⟨bs (pre ++ List.replicate z 0), true, true, true, 1, false⟩
theorem w_row (pre ys : List Int) (z L : Nat) (hL : pre.length = L) (h : ys.length ≤ z) : writeL (bs (pre ++ List.replicate z 0)) L (bs ys) = bs (pre ++ ys ++ List.replicate (z - ys.length) 0) := by
  subst hL
  unfold writeL
  rw [bs_take, bs_drop, bs_length, ← bs_append, ← bs_append]
  congr 1
  rw [List.take_left, List.append_assoc, List.append_assoc]
  congr 1
  rw [List.drop_append, List.drop_of_length_le (by omega), List.nil_append, Nat.add_sub_cancel_left, List.drop_replicate]
theorem wc (pre ys : List Int) (z L : Nat) (hL : pre.length = L) (h : ys.length ≤ z) (own : Heap) : writeC (((0, 0, 0), R pre z) :: own) (0, 0, 0) L (bs ys) = some (((0, 0, 0), R (pre ++ ys) (z - ys.length)) :: own) := by
  unfold writeC
  simp only [lookK, if_true]
  rw [if_pos ⟨trivial, trivial, by rw [bs_length, bs_length, List.length_append, List.length_replicate]; omega, bs_scal ys⟩]
  simp only [setK, if_true, w_row pre ys z L hL h]
theorem op_put {run : RunF} {slot : Nat} {cs : List AV} {L L' n : Nat} {o o' : AObj} {own : Heap} (hp : AV.pureL cs = true) (k1 : AV.keysL o.cells = []) (k2 : AV.keysL o'.cells = []) (r1 : ∀ φ, AV.rnL φ o.cells = o.cells) (r2 : ∀ φ, AV.rnL φ o'.cells = o'.cells)
    (hr : run 70 [.ref (0, 0, 0) 0 L (some n), .agg cs] [((0, 0, 0), o)] = some (.ret (.ref (0, 0, 0) 0 L' (some n)), [((0, 0, 0), o')])) :
    opened [true, false] false run slot 70 [.ref (0, 0, 0) 0 L (some n), .agg cs] (((0, 0, 0), o) :: own) = some (.ret (.ref (0, 0, 0) 0 L' (some n)), ((0, 0, 0), o') :: own) := by
  have e1 : sealM (sealA 20) [true, false] (((0, 0, 0), o) :: own) [.ref (0, 0, 0) 0 L (some n), .agg cs] = some ([.ref (0, 0, 0) 0 L (some n), .agg cs], ((0, 0, 0), o) :: own) := by
    simp [sealM, sl_agg, hp]
  have kc : AV.keysL cs = [] := AV.keysL_pure _ hp
  have rc : ∀ φ, AV.rnL φ cs = cs := fun φ => rnL_pure cs hp
  unfold opened
  rw [e1]
  have e2 : AV.keysL [.ref (0, 0, 0) 0 L (some n), .agg cs] = [(0, 0, 0)] := by simp [AV.keysL, AV.keys, kc]
  simp only [e2]
  have e3 : dd (reach (((0, 0, 0), o) :: own) 3 [(0, 0, 0)]) = [(0, 0, 0)] := by
    simp [reach, lookK, k1, dd]
  rw [e3]
  unfold lendA
  have e4 : lendH (((0, 0, 0), o) :: own) (inK [(0, 0, 0)]) [(0, 0, 0)] = some [((0, 0, 0), o)] := by
    simp [lendH, lookK, inK, posK, r1]
  rw [e4]
  simp only [e2]
  have e6 : closedH (((0, 0, 0), o) :: own) [(0, 0, 0)] [(0, 0, 0)] = true := by simp [closedH, lookK, k1]
  rw [if_pos ⟨e6, by rfl⟩]
  have e5 : AV.rnL (inK [(0, 0, 0)]) [.ref (0, 0, 0) 0 L (some n), .agg cs] = [.ref (0, 0, 0) 0 L (some n), .agg cs] := by simp [AV.rnL, AV.rn, rc, inK, posK]
  rw [e5, hr]
  have e7 : ∀ o'' : AObj, AV.keysL o''.cells = [] → dd (reach [((0, 0, 0), o'')] 3 ([(0, 0, 0)] ++ [(0, 0, 0)])) = [(0, 0, 0)] := fun o'' h => by simp [reach, lookK, h, dd]
  have e8 : AV.keysL [AV.ref (0, 0, 0) 0 L' (some n)] = [(0, 0, 0)] := rfl
  have e9 : lentKs 1 = [(0, 0, 0)] := rfl
  have e10 : closedH [((0, 0, 0), o')] [(0, 0, 0)] [(0, 0, 0)] = true := by simp [closedH, lookK, k2]
  simp only [backR, Bool.false_eq_true, if_false, backV, back, List.length_singleton, e8, e9, e7 o' k2, backA]
  rw [if_pos ⟨e10, by rfl, by rfl, by rfl⟩]
  simp [AV.rnL, AV.rn, outK, putAll, lookK, setK, r2]
theorem R_keys (pre z) : AV.keysL (R pre z).cells = [] := bs_kl _
theorem R_rn (pre z φ) : AV.rnL φ (R pre z).cells = (R pre z).cells := rnL_pure _ (bs_pure _)
def b70 : Code := lp c70 0
abbrev S (L n : Nat) (f : Bool) (s : List El) (c : Option Nat) (i : Nat) (pre : List Int) (z : Nat) : St := ⟨[(0, .ref (0, 0, 0) 0 L (some n)), (33, .sl f (El.avs s) c), (34, .int .i64 (s.length : Int)), (35, .int .i64 (i : Int))], [((0, 0, 0), R pre z)]⟩
theorem round (q k1 : Nat) (L L' n : Nat) (f s c) (i : Nat) (pre pre' : List Int) (z z' : Nat) (x : El) (hx : s[i]? = some x) (ls : s.length ≤ 1000000000)
    (B : ∀ own slot, opened [true, false] false (aRun E q) slot 70 [.ref (0, 0, 0) 0 L (some n), .agg (ec x)] (((0, 0, 0), R pre z) :: own) = some (.ret (.ref (0, 0, 0) 0 L' (some n)), ((0, 0, 0), R pre' z') :: own)) :
    rndO fn70 b70 q k1 (S L n f s c i pre z) = some (.normal, S L' n f s c (i + 1) pre' z') := by
  have hi : i < s.length := (List.getElem?_eq_some_iff.1 hx).1
  have ix := El.at_ f c s i x hx
  have w := w64' ((i : Int) + 1) (by omega) (by omega)
  simp [R] at B
  have kk : ∀ pre z, AV.keysL (bs (pre ++ List.replicate z 0)) = [] := fun _ _ => bs_kl _
  simp [b70, lp, lps, c70, ↓s_seq, ↓s_reg, ↓s_regd, ↓s_cond, ↓s_block, ↓s_cons, ↓s_consG, s_nil, s_loop, s_round, s_lpn, s_lpe, s_lpr, firstReg, s_gt, s_gf, s_wb, s_wu, s_val, s_valN, s_skip, s_calls, s_callP, s_cax, lookR, flatR, pureKs, s_ret, s_rgx, s_sqn, s_sqr, s_sqe, s_cdb, s_bkn, s_bkr, s_bke, s_exit, s_ret', s_skip', s_finr, s_finn, s_fin1, s_fix, s_clean, s_gc0, o_tmp, o_int, o_bool, o_nil, o_str, o_fn, o_nil', l_hit, l_miss, l_nil, ol_nil, ol_cons, ol_some, x_move, x_assign, x_pick, pk_t, pk_f, x_bin, bn_s, x_un, x_extract, x_callF, cl_no, x_callB, x_callBF, frzV, x_conv, cvx, convA, frame0, binA, intOp, resL, resA, results1, sealLW, AV.pure, AV.pureL, keepT, x_alloc, x_box, bxx, x_build, bdx, x_buildSlice, bsx, x_buildSliceF, bsf, x_load, ldx, x_store, stx, x_slice, slx, x_fieldAddr, x_field, x_index, ixx, x_indexAddr, iax, x_makeSlice, msx, x_nilCheck, newK, genOf, setK, lookK, fillA, writeL, writeC, readC, conts, TyI.mk1, sliceA, boundsA, boundsB, fitsA, numA, indexAddrA, fieldAddrA, partA, fieldA, indexA, appendA, copyA, builtinA, AV.cells, chunk, gcH, reach, keysT, keepK, inKs, AV.keys, AV.keysL, Ty.isAgg, eq1, eqL, convA.go, ltI, w_u8, w_u32, w_u64, w_i64, w_fdiv, w_tdiv, w_tmod, IntKind.bits, unA, sc_int, sc_bool, sc_str, sc_sl, sc_ref, sc_ptr, sc_pel, sc_nilp, sc_fn, sc_nilf, sc_if, sc_nili, sc_agg, sc_tup, sc_mem, bs_pure, bs_kl, bs_length, bs_cells, bs_all, sl_row, sealRow, sealY, sl_int, sl_bool, sl_str, sl_sl, sl_nilp, sl_nilf, sl_nili, sl_pel, sl_agg, sl_tup, sl_fn, sl_if, nat_1, bs_cons, bs_nil, i_beq, i_bne, x_mkF, x_mkI, x_tassert, x_panic, s_pan, s_sqp, s_bkp, s_finp, s_fixp, s_lpp, s_rgp, s_retp, s_site, s_stxN, s_stxO, x_callT, clx, El.avs_len, -indexAddrA, ix, w, hi, B]
theorem last (q k1 : Nat) (L n : Nat) (f s c) (pre : List Int) (z : Nat) :
    rndO fn70 b70 q k1 (S L n f s c s.length pre z) = some (.exit 0, ⟨[(0, .ref (0, 0, 0) 0 L (some n)), (33, .sl f (El.avs s) c), (34, .int .i64 (s.length : Int)), (35, .int .i64 (s.length : Int)), (36, .bool false)], [((0, 0, 0), R pre z)]⟩) := by
  simp [b70, lp, lps, c70, ↓s_seq, ↓s_reg, ↓s_regd, ↓s_cond, ↓s_block, ↓s_cons, ↓s_consG, s_nil, s_loop, s_round, s_lpn, s_lpe, s_lpr, firstReg, s_gt, s_gf, s_wb, s_wu, s_val, s_valN, s_skip, s_calls, s_callP, s_cax, lookR, flatR, pureKs, s_ret, s_rgx, s_sqn, s_sqr, s_sqe, s_cdb, s_bkn, s_bkr, s_bke, s_exit, s_ret', s_skip', s_finr, s_finn, s_fin1, s_fix, s_clean, s_gc0, o_tmp, o_int, o_bool, o_nil, o_str, o_fn, o_nil', l_hit, l_miss, l_nil, ol_nil, ol_cons, ol_some, x_move, x_assign, x_pick, pk_t, pk_f, x_bin, bn_s, x_un, x_extract, x_callF, cl_no, x_callB, x_callBF, frzV, x_conv, cvx, convA, frame0, binA, intOp, resL, resA, results1, sealLW, AV.pure, AV.pureL, keepT, x_alloc, x_box, bxx, x_build, bdx, x_buildSlice, bsx, x_buildSliceF, bsf, x_load, ldx, x_store, stx, x_slice, slx, x_fieldAddr, x_field, x_index, ixx, x_indexAddr, iax, x_makeSlice, msx, x_nilCheck, newK, genOf, setK, lookK, fillA, writeL, writeC, readC, conts, TyI.mk1, sliceA, boundsA, boundsB, fitsA, numA, indexAddrA, fieldAddrA, partA, fieldA, indexA, appendA, copyA, builtinA, AV.cells, chunk, gcH, reach, keysT, keepK, inKs, AV.keys, AV.keysL, Ty.isAgg, eq1, eqL, convA.go, ltI, w_u8, w_u32, w_u64, w_i64, w_fdiv, w_tdiv, w_tmod, IntKind.bits, unA, sc_int, sc_bool, sc_str, sc_sl, sc_ref, sc_ptr, sc_pel, sc_nilp, sc_fn, sc_nilf, sc_if, sc_nili, sc_agg, sc_tup, sc_mem, bs_pure, bs_kl, bs_length, bs_cells, bs_all, sl_row, sealRow, sealY, sl_int, sl_bool, sl_str, sl_sl, sl_nilp, sl_nilf, sl_nili, sl_pel, sl_agg, sl_tup, sl_fn, sl_if, nat_1, bs_cons, bs_nil, i_beq, i_bne, x_mkF, x_mkI, x_tassert, x_panic, s_pan, s_sqp, s_bkp, s_finp, s_fixp, s_lpp, s_rgp, s_retp, s_site, s_stxN, s_stxO, x_callT, clx, El.avs_len]
end E8
