/- The reference's Put at the evaluator. No conditions. -/
import Derived.Test.YtbiildmljbcmeaaE15
open Ab Go TabE Sp
set_option maxRecDepth 20000
set_option linter.unusedSimpArgs false
set_option linter.unusedVariables false
set_option maxHeartbeats 8000000
namespace E16
/-- A row that is given back. -/
theorem op_give {run : RunF} {slot : Nat} {g : FuncId} {cs : List AV} {kk : Key} {len : Nat} {cap : Option Nat} {o : AObj} {h : Heap} (hk : kk.1 ≠ 0) (hp : AV.pureL cs = true) (k1 : AV.keysL o.cells = []) (r1 : ∀ φ, AV.rnL φ o.cells = o.cells) (hg : genOf h 1 slot = 0)
    (hr : run g [.agg cs] [] = some (.ret (.ref kk 0 len cap), [(kk, o)])) :
    opened [false] false run slot g [.agg cs] h = some (.ret (.ref (1, slot, 0) 0 len cap), setK h (1, slot, 0) o) := by
  have e1 : sealM (sealA 20) [false] h [.agg cs] = some ([.agg cs], h) := by simp [sealM, sl_agg, hp]
  have kc : AV.keysL cs = [] := AV.keysL_pure _ hp
  have rc : ∀ φ, AV.rnL φ cs = cs := fun φ => rnL_pure cs hp
  unfold opened
  rw [e1]
  have e2 : AV.keysL [.agg cs] = [] := by simp [AV.keysL, AV.keys, kc]
  have e7 : ∀ h : Heap, dd (reach h 3 []) = [] := fun h => rfl
  simp only [e2, e7]
  unfold lendA
  have e3 : AV.rnL (inK []) [.agg cs] = [.agg cs] := by simp [AV.rnL, AV.rn, rc]
  simp only [lendH, closedH, e2, List.all_nil, and_self, if_true, e3, hr]
  have e4 : AV.keysL [AV.ref kk 0 len cap] = [kk] := rfl
  have e5 : dd (reach [(kk, o)] 3 ([] ++ [kk])) = [kk] := by simp [reach, lookK, k1, dd]
  have e6 : lentKs 0 = [] := rfl
  simp only [backR, Bool.false_eq_true, if_false, backV, back, List.length_nil, e4, e6, e5, backA]
  have e8 : closedH [(kk, o)] [kk] [kk] = true := by simp [closedH, lookK, k1]
  have e9 : ([kk] : List Key).all (okK 0) = true := by simp [okK, hk]
  rw [if_pos ⟨e8, e9, by simp [inKs], by simp⟩]
  have e10 : ([kk] : List Key).filter (fun k => !decide (k.1 = 0)) = [kk] := by simp [hk]
  have e11 : outK [] [kk] slot (genOf h 1 slot) kk = (1, slot, 0) := by unfold outK; rw [if_neg hk]; simp [posK, hg]
  simp only [e10, AV.rnL, AV.rn, e11, putAll, lookK, if_true, r1]
def b35 : Code := lp c35 0
abbrev S (e : El) (i : Nat) (key : Key) (cap : Option Nat) (ex : Bool) (ys : List Int) : St := ⟨[(1, .ptr (1, 1, 0) 0), (3, .ref key 0 ys.length cap), (4, .int .i64 (i : Int))], [((1, 1, 0), bx (ec e)), (key, ⟨bs ys, true, true, ex, 1, false⟩)]⟩
theorem first (q k1 : Nat) (e x : El) (i : Nat) (xs : List Int) (c : Option Nat) (hx : e.s[i]? = some x) (le : e.s.length ≤ 9223372036854775807) (n0 : xs ≠ []) (n1 : xs.length ≤ 2000000) (B : ∀ h, aCall E q 0 35 [x.av] h = some (.ret (.sl false (bs xs) c), h)) :
    rndO fn35 b35 q k1 (S e i (1, 5, 0) (some 0) true []) = some (.normal, S e (i + 1) (1, 23, 0) none false xs) := by
  have hi : i < e.s.length := (List.getElem?_eq_some_iff.1 hx).1
  have ix := El.at_ e.fs e.cs e.s i x hx
  have w := w64' ((i : Int) + 1) (by omega) (by omega)
  have cp : xs.length ≤ 70368744177664 := by omega
  rw [El.av_eq] at B
  simp [b35, lp, lps, c35, ↓s_seq, ↓s_reg, ↓s_regd, ↓s_cond, ↓s_block, ↓s_cons, ↓s_consG, s_nil, s_loop, s_round, s_lpn, s_lpe, s_lpr, firstReg, s_gt, s_gf, s_wb, s_wu, s_val, s_valN, s_skip, s_calls, s_callP, s_cax, lookR, flatR, pureKs, s_ret, s_rgx, s_sqn, s_sqr, s_sqe, s_cdb, s_bkn, s_bkr, s_bke, s_exit, s_ret', s_skip', s_finr, s_finn, s_fin1, s_fix, s_clean, s_gc0, o_tmp, o_int, o_bool, o_nil, o_str, o_fn, o_nil', l_hit, l_miss, l_nil, ol_nil, ol_cons, ol_some, x_move, x_assign, x_pick, pk_t, pk_f, x_bin, bn_s, x_un, x_extract, x_callF, cl_no, x_callB, x_callBF, frzV, x_conv, cvx, convA, frame0, binA, intOp, resL, resA, results1, sealLW, AV.pure, AV.pureL, keepT, x_alloc, x_box, bxx, x_build, bdx, x_buildSlice, bsx, x_buildSliceF, bsf, x_load, ldx, x_store, stx, x_slice, slx, x_fieldAddr, x_field, x_index, ixx, x_indexAddr, iax, x_makeSlice, msx, x_nilCheck, newK, genOf, setK, lookK, fillA, writeL, writeC, readC, conts, TyI.mk1, sliceA, boundsA, boundsB, fitsA, numA, indexAddrA, fieldAddrA, partA, fieldA, indexA, appendA, copyA, builtinA, AV.cells, chunk, gcH, reach, keysT, keepK, inKs, AV.keys, AV.keysL, Ty.isAgg, eq1, eqL, convA.go, ltI, w_u8, w_u32, w_u64, w_i64, w_fdiv, w_tdiv, w_tmod, IntKind.bits, unA, sc_int, sc_bool, sc_str, sc_sl, sc_ref, sc_ptr, sc_pel, sc_nilp, sc_fn, sc_nilf, sc_if, sc_nili, sc_agg, sc_tup, sc_mem, bs_pure, bs_kl, bs_length, bs_cells, bs_all, sl_row, sealRow, sealY, sl_int, sl_bool, sl_str, sl_sl, sl_nilp, sl_nilf, sl_nili, sl_pel, sl_agg, sl_tup, sl_fn, sl_if, nat_1, bs_cons, bs_nil, i_beq, i_bne, x_mkF, x_mkI, x_tassert, x_panic, s_pan, s_sqp, s_bkp, s_finp, s_fixp, s_lpp, s_rgp, s_retp, s_site, s_stxN, s_stxO, x_callT, clx, El.avs_len, -indexAddrA, ix, w, hi, B, n0, cp]
theorem next (q k1 : Nat) (e x : El) (i m : Nat) (xs ys : List Int) (c : Option Nat) (hx : e.s[i]? = some x) (le : e.s.length ≤ 9223372036854775807) (n1 : ys.length + xs.length ≤ 2000000) (B : ∀ h, aCall E q 0 35 [x.av] h = some (.ret (.sl false (bs xs) c), h)) :
    rndO fn35 b35 q k1 (S e i (1, 23, m) none false ys) = some (.normal, S e (i + 1) (1, 23, m + 1) none false (ys ++ xs)) := by
  have hi : i < e.s.length := (List.getElem?_eq_some_iff.1 hx).1
  have ix := El.at_ e.fs e.cs e.s i x hx
  have w := w64' ((i : Int) + 1) (by omega) (by omega)
  have cp : ys.length + xs.length ≤ 70368744177664 := by omega
  have kk : AV.keysL (bs ys ++ bs xs) = [] := by rw [← bs_append]; exact bs_kl _
  rw [El.av_eq] at B
  simp [b35, lp, lps, c35, ↓s_seq, ↓s_reg, ↓s_regd, ↓s_cond, ↓s_block, ↓s_cons, ↓s_consG, s_nil, s_loop, s_round, s_lpn, s_lpe, s_lpr, firstReg, s_gt, s_gf, s_wb, s_wu, s_val, s_valN, s_skip, s_calls, s_callP, s_cax, lookR, flatR, pureKs, s_ret, s_rgx, s_sqn, s_sqr, s_sqe, s_cdb, s_bkn, s_bkr, s_bke, s_exit, s_ret', s_skip', s_finr, s_finn, s_fin1, s_fix, s_clean, s_gc0, o_tmp, o_int, o_bool, o_nil, o_str, o_fn, o_nil', l_hit, l_miss, l_nil, ol_nil, ol_cons, ol_some, x_move, x_assign, x_pick, pk_t, pk_f, x_bin, bn_s, x_un, x_extract, x_callF, cl_no, x_callB, x_callBF, frzV, x_conv, cvx, convA, frame0, binA, intOp, resL, resA, results1, sealLW, AV.pure, AV.pureL, keepT, x_alloc, x_box, bxx, x_build, bdx, x_buildSlice, bsx, x_buildSliceF, bsf, x_load, ldx, x_store, stx, x_slice, slx, x_fieldAddr, x_field, x_index, ixx, x_indexAddr, iax, x_makeSlice, msx, x_nilCheck, newK, genOf, setK, lookK, fillA, writeL, writeC, readC, conts, TyI.mk1, sliceA, boundsA, boundsB, fitsA, numA, indexAddrA, fieldAddrA, partA, fieldA, indexA, appendA, copyA, builtinA, AV.cells, chunk, gcH, reach, keysT, keepK, inKs, AV.keys, AV.keysL, Ty.isAgg, eq1, eqL, convA.go, ltI, w_u8, w_u32, w_u64, w_i64, w_fdiv, w_tdiv, w_tmod, IntKind.bits, unA, sc_int, sc_bool, sc_str, sc_sl, sc_ref, sc_ptr, sc_pel, sc_nilp, sc_fn, sc_nilf, sc_if, sc_nili, sc_agg, sc_tup, sc_mem, bs_pure, bs_kl, bs_length, bs_cells, bs_all, sl_row, sealRow, sealY, sl_int, sl_bool, sl_str, sl_sl, sl_nilp, sl_nilf, sl_nili, sl_pel, sl_agg, sl_tup, sl_fn, sl_if, nat_1, bs_cons, bs_nil, i_beq, i_bne, x_mkF, x_mkI, x_tassert, x_panic, s_pan, s_sqp, s_bkp, s_finp, s_fixp, s_lpp, s_rgp, s_retp, s_site, s_stxN, s_stxO, x_callT, clx, El.avs_len, -indexAddrA, ix, w, hi, B, cp, bs_append, kk]
theorem last (q k1 : Nat) (e : El) (key : Key) (cap : Option Nat) (ex : Bool) (ys : List Int) (hkey : key = (1, 5, 0) ∨ key = (1, 8, 0) ∨ ∃ m, key = (1, 23, m)) : rndO fn35 b35 q k1 (S e e.s.length key cap ex ys) = some (.exit 0, ⟨[(1, .ptr (1, 1, 0) 0), (3, .ref key 0 ys.length cap), (4, .int .i64 (e.s.length : Int)), (13, .bool false)], [((1, 1, 0), bx (ec e)), (key, ⟨bs ys, true, true, ex, 1, false⟩)]⟩) := by
  rcases hkey with rfl | rfl | ⟨m, rfl⟩ <;> simp [b35, lp, lps, c35, ↓s_seq, ↓s_reg, ↓s_regd, ↓s_cond, ↓s_block, ↓s_cons, ↓s_consG, s_nil, s_loop, s_round, s_lpn, s_lpe, s_lpr, firstReg, s_gt, s_gf, s_wb, s_wu, s_val, s_valN, s_skip, s_calls, s_callP, s_cax, lookR, flatR, pureKs, s_ret, s_rgx, s_sqn, s_sqr, s_sqe, s_cdb, s_bkn, s_bkr, s_bke, s_exit, s_ret', s_skip', s_finr, s_finn, s_fin1, s_fix, s_clean, s_gc0, o_tmp, o_int, o_bool, o_nil, o_str, o_fn, o_nil', l_hit, l_miss, l_nil, ol_nil, ol_cons, ol_some, x_move, x_assign, x_pick, pk_t, pk_f, x_bin, bn_s, x_un, x_extract, x_callF, cl_no, x_callB, x_callBF, frzV, x_conv, cvx, convA, frame0, binA, intOp, resL, resA, results1, sealLW, AV.pure, AV.pureL, keepT, x_alloc, x_box, bxx, x_build, bdx, x_buildSlice, bsx, x_buildSliceF, bsf, x_load, ldx, x_store, stx, x_slice, slx, x_fieldAddr, x_field, x_index, ixx, x_indexAddr, iax, x_makeSlice, msx, x_nilCheck, newK, genOf, setK, lookK, fillA, writeL, writeC, readC, conts, TyI.mk1, sliceA, boundsA, boundsB, fitsA, numA, indexAddrA, fieldAddrA, partA, fieldA, indexA, appendA, copyA, builtinA, AV.cells, chunk, gcH, reach, keysT, keepK, inKs, AV.keys, AV.keysL, Ty.isAgg, eq1, eqL, convA.go, ltI, w_u8, w_u32, w_u64, w_i64, w_fdiv, w_tdiv, w_tmod, IntKind.bits, unA, sc_int, sc_bool, sc_str, sc_sl, sc_ref, sc_ptr, sc_pel, sc_nilp, sc_fn, sc_nilf, sc_if, sc_nili, sc_agg, sc_tup, sc_mem, bs_pure, bs_kl, bs_length, bs_cells, bs_all, sl_row, sealRow, sealY, sl_int, sl_bool, sl_str, sl_sl, sl_nilp, sl_nilf, sl_nili, sl_pel, sl_agg, sl_tup, sl_fn, sl_if, nat_1, bs_cons, bs_nil, i_beq, i_bne, x_mkF, x_mkI, x_tassert, x_panic, s_pan, s_sqp, s_bkp, s_finp, s_fixp, s_lpp, s_rgp, s_retp, s_site, s_stxN, s_stxO, x_callT, clx, El.avs_len]
end E16
