/- elements.measure, Check, Count and Depth at the evaluator. No conditions. -/
import Derived.Test.YtbiildmljbcmeaaE4
open Ab Go TabE Sp E2 E3 E4
set_option maxRecDepth 20000
set_option linter.unusedSimpArgs false
set_option linter.unusedVariables false
set_option maxHeartbeats 8000000
namespace E5
abbrev HW (cs : List AV) (m l : Int) : Heap := [((0, 0, 0), bx [.int .i64 m]), ((0, 0, 1), bx [.int .i64 l]), ((1, 2, 0), bx cs), ((1, 3, 0), bx [.fn 101 [] [.ptr (0, 0, 0) 0, .ptr (0, 0, 1) 0]]), ((1, 5, 0), bx [.fn 113 [] [.ptr (1, 3, 0) 0, .ptr (1, 5, 0) 0]])]
theorem op_first {run : RunF} {slot : Nat} {cs ds : List AV} {d m l r m' l' : Int} (hp : AV.pureL cs = true)
    (hr : run 113 [.agg cs, .int .i64 d, .ptr (0, 0, 0) 0, .ptr (0, 0, 1) 0] (H m l) = some (.ret (.int .i64 r), H m' l')) :
    opened [false, false, true, true] true run slot 113 [.agg cs, .int .i64 d, .ptr (1, 3, 0) 0, .ptr (1, 5, 0) 0] (HW ds m l) = some (.ret (.int .i64 r), HW ds m' l') := by
  have e1 : sealM (sealA 20) [false, false, true, true] (HW ds m l) [.agg cs, .int .i64 d, .ptr (1, 3, 0) 0, .ptr (1, 5, 0) 0] = some ([.agg cs, .int .i64 d, .ptr (1, 3, 0) 0, .ptr (1, 5, 0) 0], HW ds m l) := by
    simp [sealM, sl_agg, sl_int, hp]
  have k1 : AV.keysL cs = [] := AV.keysL_pure _ hp
  have r1 : ∀ φ, AV.rnL φ cs = cs := fun φ => rnL_pure cs hp
  unfold opened
  rw [e1]
  have e2 : AV.keysL [.agg cs, .int .i64 d, .ptr (1, 3, 0) 0, .ptr (1, 5, 0) 0] = [(1, 3, 0), (1, 5, 0)] := by simp [AV.keysL, AV.keys, k1]
  simp only [e2]
  have e3 : dd (reach (HW ds m l) 3 [(1, 3, 0), (1, 5, 0)]) = [(1, 3, 0), (1, 5, 0), (0, 0, 0), (0, 0, 1)] := by kernel_rfl
  rw [e3]
  unfold lendA
  have e4 : lendH (HW ds m l) (inK [(1, 3, 0), (1, 5, 0), (0, 0, 0), (0, 0, 1)]) [(1, 3, 0), (1, 5, 0), (0, 0, 0), (0, 0, 1)] = some (H m l) := by kernel_rfl
  rw [e4]
  simp only [e2]
  rw [if_pos ⟨by kernel_rfl, by kernel_rfl⟩]
  have e5 : AV.rnL (inK [(1, 3, 0), (1, 5, 0), (0, 0, 0), (0, 0, 1)]) [.agg cs, .int .i64 d, .ptr (1, 3, 0) 0, .ptr (1, 5, 0) 0] = [.agg cs, .int .i64 d, .ptr (0, 0, 0) 0, .ptr (0, 0, 1) 0] := by simp [AV.rnL, AV.rn, r1]; exact ⟨by kernel_rfl, by kernel_rfl⟩
  rw [e5, hr]
  show backR [(1, 3, 0), (1, 5, 0), (0, 0, 0), (0, 0, 1)] slot (HW ds m l) true (some (.ret (.int .i64 r), H m' l')) = some (.ret (.int .i64 r), HW ds m' l')
  kernel_rfl
theorem walk (e : El) (he : e.ok) : ∃ N, ∀ k, N ≤ k → ∀ m l : Int, 0 ≤ m → m ≤ 8192 → 0 ≤ l → l ≤ 16 →
    aRun E k 100 [.agg (ec e), .fn 101 [] [.ptr (0, 0, 0) 0, .ptr (0, 0, 1) 0]] (HC m l) = some (.ret (.int .i64 (chk e.core 1 m l).1), HC (chk e.core 1 m l).2.1 (chk e.core 1 m l).2.2) := by
  obtain ⟨N, hN⟩ := walks e he
  refine ⟨N + 20, fun k hk m l m0 m1 l0 l1 => ?_⟩
  obtain ⟨K, rfl⟩ : ∃ K, k = K + 1 := ⟨k - 1, by omega⟩
  rw [aRun_fn rfl E_fn100 rfl (Nat.le_of_ble_eq_true rfl), body_100, c100]
  have V := fun ds slot => op_first (slot := slot) (ds := ds) rfl (hN K (by omega) 1 m l (by omega) (by omega) m0 m1 l0 l1)
  obtain ⟨p, hp⟩ : ∃ p, chk e.core 1 m l = p := ⟨_, rfl⟩
  rw [hp] at V ⊢
  simp [HW] at V
  simp [↓s_seq, ↓s_reg, ↓s_regd, ↓s_cond, ↓s_block, ↓s_cons, ↓s_consG, s_nil, s_loop, s_round, s_lpn, s_lpe, s_lpr, firstReg, s_gt, s_gf, s_wb, s_wu, s_val, s_valN, s_skip, s_calls, s_callP, s_cax, lookR, flatR, pureKs, s_ret, s_rgx, s_sqn, s_sqr, s_sqe, s_cdb, s_bkn, s_bkr, s_bke, s_exit, s_ret', s_skip', s_finr, s_finn, s_fin1, s_fix, s_clean, s_gc0, o_tmp, o_int, o_bool, o_nil, o_str, o_fn, o_nil', l_hit, l_miss, l_nil, ol_nil, ol_cons, ol_some, x_move, x_assign, x_pick, pk_t, pk_f, x_bin, bn_s, x_un, x_extract, x_callF, cl_no, x_callB, x_callBF, frzV, x_conv, cvx, convA, frame0, binA, intOp, resL, resA, results1, sealLW, AV.pure, AV.pureL, keepT, x_alloc, x_box, bxx, x_build, bdx, x_buildSlice, bsx, x_buildSliceF, bsf, x_load, ldx, x_store, stx, x_slice, slx, x_fieldAddr, x_field, x_index, ixx, x_indexAddr, iax, x_makeSlice, msx, x_nilCheck, newK, genOf, setK, lookK, fillA, writeL, writeC, readC, conts, TyI.mk1, sliceA, boundsA, boundsB, fitsA, numA, indexAddrA, fieldAddrA, partA, fieldA, indexA, appendA, copyA, builtinA, AV.cells, chunk, gcH, reach, keysT, keepK, inKs, AV.keys, AV.keysL, Ty.isAgg, eq1, eqL, convA.go, ltI, w_u8, w_u32, w_u64, w_i64, w_fdiv, w_tdiv, w_tmod, IntKind.bits, unA, sc_int, sc_bool, sc_str, sc_sl, sc_ref, sc_ptr, sc_pel, sc_nilp, sc_fn, sc_nilf, sc_if, sc_nili, sc_agg, sc_tup, sc_mem, bs_pure, bs_kl, bs_length, bs_cells, bs_all, sl_row, sealRow, sealY, sl_int, sl_bool, sl_str, sl_sl, sl_nilp, sl_nilf, sl_nili, sl_pel, sl_agg, sl_tup, sl_fn, sl_if, nat_1, bs_cons, bs_nil, i_beq, i_bne, x_mkF, x_mkI, x_tassert, x_panic, s_pan, s_sqp, s_bkp, s_finp, s_fixp, s_lpp, s_rgp, s_retp, s_site, s_stxN, s_stxO, x_callT, clx, V, HC]
theorem op_walk {run : RunF} {slot : Nat} {cs ds : List AV} {r m' l' : Int} (hp : AV.pureL cs = true)
    (hr : run 100 [.agg cs, .fn 101 [] [.ptr (0, 0, 0) 0, .ptr (0, 0, 1) 0]] (HC 0 0) = some (.ret (.int .i64 r), HC m' l')) :
    opened [false, true] true run slot 100 [.agg cs, .fn 101 [] [.ptr (1, 3, 0) 0, .ptr (1, 4, 0) 0]] [((1, 1, 0), bx ds), ((1, 3, 0), bx [.int .i64 0]), ((1, 4, 0), bx [.int .i64 0])] = some (.ret (.int .i64 r), [((1, 1, 0), bx ds), ((1, 3, 0), bx [.int .i64 m']), ((1, 4, 0), bx [.int .i64 l'])]) := by
  obtain ⟨h, hh⟩ : ∃ h : Heap, [((1, 1, 0), bx ds), ((1, 3, 0), bx [.int .i64 0]), ((1, 4, 0), bx [.int .i64 0])] = h := ⟨_, rfl⟩
  have e1 : sealM (sealA 20) [false, true] h [.agg cs, .fn 101 [] [.ptr (1, 3, 0) 0, .ptr (1, 4, 0) 0]] = some ([.agg cs, .fn 101 [] [.ptr (1, 3, 0) 0, .ptr (1, 4, 0) 0]], h) := by
    simp [sealM, sl_agg, sl_int, hp]
  have k1 : AV.keysL cs = [] := AV.keysL_pure _ hp
  have r1 : ∀ φ, AV.rnL φ cs = cs := fun φ => rnL_pure cs hp
  rw [hh]
  unfold opened
  rw [e1]
  have e2 : AV.keysL [.agg cs, .fn 101 [] [.ptr (1, 3, 0) 0, .ptr (1, 4, 0) 0]] = [(1, 3, 0), (1, 4, 0)] := by simp [AV.keysL, AV.keys, k1]
  simp only [e2]
  subst hh
  have e3 : dd (reach [((1, 1, 0), bx ds), ((1, 3, 0), bx [.int .i64 0]), ((1, 4, 0), bx [.int .i64 0])] 3 [(1, 3, 0), (1, 4, 0)]) = [(1, 3, 0), (1, 4, 0)] := by kernel_rfl
  rw [e3]
  unfold lendA
  have e4 : lendH [((1, 1, 0), bx ds), ((1, 3, 0), bx [.int .i64 0]), ((1, 4, 0), bx [.int .i64 0])] (inK [(1, 3, 0), (1, 4, 0)]) [(1, 3, 0), (1, 4, 0)] = some (HC 0 0) := by kernel_rfl
  rw [e4]
  simp only [e2]
  rw [if_pos ⟨by kernel_rfl, by kernel_rfl⟩]
  have e5 : AV.rnL (inK [(1, 3, 0), (1, 4, 0)]) [.agg cs, .fn 101 [] [.ptr (1, 3, 0) 0, .ptr (1, 4, 0) 0]] = [.agg cs, .fn 101 [] [.ptr (0, 0, 0) 0, .ptr (0, 0, 1) 0]] := by simp [AV.rnL, AV.rn, r1]; exact ⟨by kernel_rfl, by kernel_rfl⟩
  rw [e5, hr]
  show backR [(1, 3, 0), (1, 4, 0)] slot [((1, 1, 0), bx ds), ((1, 3, 0), bx [.int .i64 0]), ((1, 4, 0), bx [.int .i64 0])] true (some (.ret (.int .i64 r), HC m' l')) = some (.ret (.int .i64 r), [((1, 1, 0), bx ds), ((1, 3, 0), bx [.int .i64 m']), ((1, 4, 0), bx [.int .i64 l'])])
  kernel_rfl
/-- The error of an element, the number of its elements, its levels. -/
def meas (e : El) : Int × Int × Int := if (chk e.core 1 0 0).1 = 0 then chk e.core 1 0 0 else ((chk e.core 1 0 0).1, 0, 0)
theorem measure (e : El) (he : e.ok) : ∃ N, Con E N 75 [e.av] (.tup [.int .i64 (meas e).1, .int .i64 (meas e).2.1, .int .i64 (meas e).2.2]) := by
  obtain ⟨N, hN⟩ := walk e he
  refine ⟨N + 20 + 1, con_ofO E_fn75 (by simp [AV.pureL, El.av_pure]) (Nat.le_of_ble_eq_true rfl) rfl (g := []) ?_⟩
  rw [body_75, c75]
  have V := fun ds slot => op_walk (slot := slot) (ds := ds) rfl (hN (N + 20) (by omega) 0 0 (by omega) (by omega) (by omega) (by omega))
  unfold meas
  obtain ⟨p, hp⟩ : ∃ p, chk e.core 1 0 0 = p := ⟨_, rfl⟩
  rw [hp] at V ⊢
  by_cases h : p.1 = 0
  · simp [El.av_eq, ↓s_seq, ↓s_reg, ↓s_regd, ↓s_cond, ↓s_block, ↓s_cons, ↓s_consG, s_nil, s_loop, s_round, s_lpn, s_lpe, s_lpr, firstReg, s_gt, s_gf, s_wb, s_wu, s_val, s_valN, s_skip, s_calls, s_callP, s_cax, lookR, flatR, pureKs, s_ret, s_rgx, s_sqn, s_sqr, s_sqe, s_cdb, s_bkn, s_bkr, s_bke, s_exit, s_ret', s_skip', s_finr, s_finn, s_fin1, s_fix, s_clean, s_gc0, o_tmp, o_int, o_bool, o_nil, o_str, o_fn, o_nil', l_hit, l_miss, l_nil, ol_nil, ol_cons, ol_some, x_move, x_assign, x_pick, pk_t, pk_f, x_bin, bn_s, x_un, x_extract, x_callF, cl_no, x_callB, x_callBF, frzV, x_conv, cvx, convA, frame0, binA, intOp, resL, resA, results1, sealLW, AV.pure, AV.pureL, keepT, x_alloc, x_box, bxx, x_build, bdx, x_buildSlice, bsx, x_buildSliceF, bsf, x_load, ldx, x_store, stx, x_slice, slx, x_fieldAddr, x_field, x_index, ixx, x_indexAddr, iax, x_makeSlice, msx, x_nilCheck, newK, genOf, setK, lookK, fillA, writeL, writeC, readC, conts, TyI.mk1, sliceA, boundsA, boundsB, fitsA, numA, indexAddrA, fieldAddrA, partA, fieldA, indexA, appendA, copyA, builtinA, AV.cells, chunk, gcH, reach, keysT, keepK, inKs, AV.keys, AV.keysL, Ty.isAgg, eq1, eqL, convA.go, ltI, w_u8, w_u32, w_u64, w_i64, w_fdiv, w_tdiv, w_tmod, IntKind.bits, unA, sc_int, sc_bool, sc_str, sc_sl, sc_ref, sc_ptr, sc_pel, sc_nilp, sc_fn, sc_nilf, sc_if, sc_nili, sc_agg, sc_tup, sc_mem, bs_pure, bs_kl, bs_length, bs_cells, bs_all, sl_row, sealRow, sealY, sl_int, sl_bool, sl_str, sl_sl, sl_nilp, sl_nilf, sl_nili, sl_pel, sl_agg, sl_tup, sl_fn, sl_if, nat_1, bs_cons, bs_nil, i_beq, i_bne, x_mkF, x_mkI, x_tassert, x_panic, s_pan, s_sqp, s_bkp, s_finp, s_fixp, s_lpp, s_rgp, s_retp, s_site, s_stxN, s_stxO, x_callT, clx, V, h, ↓s_regD, s_dyn0, s_rgy, barOf, dynChk, footL, dynOK, disjK, keysOp, opVals, Op.operands]
  · simp [El.av_eq, ↓s_seq, ↓s_reg, ↓s_regd, ↓s_cond, ↓s_block, ↓s_cons, ↓s_consG, s_nil, s_loop, s_round, s_lpn, s_lpe, s_lpr, firstReg, s_gt, s_gf, s_wb, s_wu, s_val, s_valN, s_skip, s_calls, s_callP, s_cax, lookR, flatR, pureKs, s_ret, s_rgx, s_sqn, s_sqr, s_sqe, s_cdb, s_bkn, s_bkr, s_bke, s_exit, s_ret', s_skip', s_finr, s_finn, s_fin1, s_fix, s_clean, s_gc0, o_tmp, o_int, o_bool, o_nil, o_str, o_fn, o_nil', l_hit, l_miss, l_nil, ol_nil, ol_cons, ol_some, x_move, x_assign, x_pick, pk_t, pk_f, x_bin, bn_s, x_un, x_extract, x_callF, cl_no, x_callB, x_callBF, frzV, x_conv, cvx, convA, frame0, binA, intOp, resL, resA, results1, sealLW, AV.pure, AV.pureL, keepT, x_alloc, x_box, bxx, x_build, bdx, x_buildSlice, bsx, x_buildSliceF, bsf, x_load, ldx, x_store, stx, x_slice, slx, x_fieldAddr, x_field, x_index, ixx, x_indexAddr, iax, x_makeSlice, msx, x_nilCheck, newK, genOf, setK, lookK, fillA, writeL, writeC, readC, conts, TyI.mk1, sliceA, boundsA, boundsB, fitsA, numA, indexAddrA, fieldAddrA, partA, fieldA, indexA, appendA, copyA, builtinA, AV.cells, chunk, gcH, reach, keysT, keepK, inKs, AV.keys, AV.keysL, Ty.isAgg, eq1, eqL, convA.go, ltI, w_u8, w_u32, w_u64, w_i64, w_fdiv, w_tdiv, w_tmod, IntKind.bits, unA, sc_int, sc_bool, sc_str, sc_sl, sc_ref, sc_ptr, sc_pel, sc_nilp, sc_fn, sc_nilf, sc_if, sc_nili, sc_agg, sc_tup, sc_mem, bs_pure, bs_kl, bs_length, bs_cells, bs_all, sl_row, sealRow, sealY, sl_int, sl_bool, sl_str, sl_sl, sl_nilp, sl_nilf, sl_nili, sl_pel, sl_agg, sl_tup, sl_fn, sl_if, nat_1, bs_cons, bs_nil, i_beq, i_bne, x_mkF, x_mkI, x_tassert, x_panic, s_pan, s_sqp, s_bkp, s_finp, s_fixp, s_lpp, s_rgp, s_retp, s_site, s_stxN, s_stxO, x_callT, clx, V, h, ↓s_regD, s_dyn0, s_rgy, barOf, dynChk, footL, dynOK, disjK, keysOp, opVals, Op.operands]
end E5
