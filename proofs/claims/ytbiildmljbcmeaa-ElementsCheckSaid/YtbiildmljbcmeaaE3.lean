/- elements.walk at the evaluator. No conditions. -/
import Derived.Test.YtbiildmljbcmeaaE2
import Derived.Test.YtbiildmljbcmeaaB24
open Ab Go TabE Sp E2
set_option maxRecDepth 20000
set_option linter.unusedSimpArgs false
set_option linter.unusedVariables false
set_option maxHeartbeats 8000000
namespace E3
theorem op_visit {run : RunF} {slot : Nat} {cs : List AV} {d m l r m' l' : Int} {own : Heap} (hp : AV.pureL cs = true)
    (hr : run 101 [.agg cs, .int .i64 d, .ptr (0, 0, 0) 0, .ptr (0, 0, 1) 0] (HC m l) = some (.ret (.int .i64 r), HC m' l')) :
    opened [false, false, true, true] true run slot 101 [.agg cs, .int .i64 d, .ptr (0, 0, 2) 0, .ptr (0, 0, 3) 0] (H m l ++ own) = some (.ret (.int .i64 r), H m' l' ++ own) := by
  have e1 : sealM (sealA 20) [false, false, true, true] (H m l ++ own) [.agg cs, .int .i64 d, .ptr (0, 0, 2) 0, .ptr (0, 0, 3) 0] = some ([.agg cs, .int .i64 d, .ptr (0, 0, 2) 0, .ptr (0, 0, 3) 0], H m l ++ own) := by
    simp [sealM, sl_agg, sl_int, hp]
  have k1 : AV.keysL cs = [] := AV.keysL_pure _ hp
  have r1 : ∀ φ, AV.rnL φ cs = cs := fun φ => rnL_pure cs hp
  unfold opened
  rw [e1]
  have e2 : AV.keysL [.agg cs, .int .i64 d, .ptr (0, 0, 2) 0, .ptr (0, 0, 3) 0] = [(0, 0, 2), (0, 0, 3)] := by simp [AV.keysL, AV.keys, k1]
  simp only [e2]
  have e3 : dd (reach (H m l ++ own) 3 [(0, 0, 2), (0, 0, 3)]) = [(0, 0, 2), (0, 0, 3)] := by rfl
  rw [e3]
  unfold lendA
  have e4 : lendH (H m l ++ own) (inK [(0, 0, 2), (0, 0, 3)]) [(0, 0, 2), (0, 0, 3)] = some (HC m l) := by rfl
  rw [e4]
  simp only [e2]
  rw [if_pos ⟨rfl, rfl⟩]
  have e5 : AV.rnL (inK [(0, 0, 2), (0, 0, 3)]) [.agg cs, .int .i64 d, .ptr (0, 0, 2) 0, .ptr (0, 0, 3) 0] = [.agg cs, .int .i64 d, .ptr (0, 0, 0) 0, .ptr (0, 0, 1) 0] := by simp [AV.rnL, AV.rn, r1]; exact ⟨rfl, rfl⟩
  rw [e5, hr]
  rfl
theorem op_self {run : RunF} {slot : Nat} {cs : List AV} {d m l r m' l' : Int} {own : Heap} (hp : AV.pureL cs = true)
    (hr : run 113 [.agg cs, .int .i64 d, .ptr (0, 0, 0) 0, .ptr (0, 0, 1) 0] (H m l) = some (.ret (.int .i64 r), H m' l')) :
    opened [false, false, true, true] true run slot 113 [.agg cs, .int .i64 d, .ptr (0, 0, 0) 0, .ptr (0, 0, 1) 0] (H m l ++ own) = some (.ret (.int .i64 r), H m' l' ++ own) := by
  have e1 : sealM (sealA 20) [false, false, true, true] (H m l ++ own) [.agg cs, .int .i64 d, .ptr (0, 0, 0) 0, .ptr (0, 0, 1) 0] = some ([.agg cs, .int .i64 d, .ptr (0, 0, 0) 0, .ptr (0, 0, 1) 0], H m l ++ own) := by
    simp [sealM, sl_agg, sl_int, hp]
  have k1 : AV.keysL cs = [] := AV.keysL_pure _ hp
  have r1 : ∀ φ, AV.rnL φ cs = cs := fun φ => rnL_pure cs hp
  unfold opened
  rw [e1]
  have e2 : AV.keysL [.agg cs, .int .i64 d, .ptr (0, 0, 0) 0, .ptr (0, 0, 1) 0] = [(0, 0, 0), (0, 0, 1)] := by simp [AV.keysL, AV.keys, k1]
  simp only [e2]
  have e3 : dd (reach (H m l ++ own) 3 [(0, 0, 0), (0, 0, 1)]) = [(0, 0, 0), (0, 0, 1), (0, 0, 2), (0, 0, 3)] := by kernel_rfl
  rw [e3]
  unfold lendA
  have e4 : lendH (H m l ++ own) (inK [(0, 0, 0), (0, 0, 1), (0, 0, 2), (0, 0, 3)]) [(0, 0, 0), (0, 0, 1), (0, 0, 2), (0, 0, 3)] = some (H m l) := by kernel_rfl
  rw [e4]
  simp only [e2]
  rw [if_pos ⟨by kernel_rfl, by kernel_rfl⟩]
  have e5 : AV.rnL (inK [(0, 0, 0), (0, 0, 1), (0, 0, 2), (0, 0, 3)]) [.agg cs, .int .i64 d, .ptr (0, 0, 0) 0, .ptr (0, 0, 1) 0] = [.agg cs, .int .i64 d, .ptr (0, 0, 0) 0, .ptr (0, 0, 1) 0] := by simp [AV.rnL, AV.rn, r1]; exact ⟨by kernel_rfl, by kernel_rfl⟩
  rw [e5, hr]
  show backR [(0, 0, 0), (0, 0, 1), (0, 0, 2), (0, 0, 3)] slot (H m l ++ own) true (some (.ret (.int .i64 r), H m' l')) = some (.ret (.int .i64 r), H m' l' ++ own)
  kernel_rfl
def b113 : Code := lp c113 0
abbrev S (d : Int) (f : Bool) (s : List El) (c : Option Nat) (i : Nat) (m l : Int) : St := ⟨[(1, .int .i64 d), (3, .ptr (0, 0, 1) 0), (19, .sl f (El.avs s) c), (20, .int .i64 (s.length : Int)), (21, .int .i64 (i : Int))], H m l⟩
theorem go (q k1 : Nat) (d : Int) (f s c) (i : Nat) (m l m' l' : Int) (x : El) (hx : s[i]? = some x) (ls : s.length ≤ 9223372036854775807) (d0 : 0 ≤ d) (d1 : d < 1000)
    (R : ∀ own slot, opened [false, false, true, true] true (aRun E q) slot 113 [.agg (ec x), .int .i64 (d + 1), .ptr (0, 0, 0) 0, .ptr (0, 0, 1) 0] (H m l ++ own) = some (.ret (.int .i64 0), H m' l' ++ own)) :
    rndO fn113 b113 q k1 (S d f s c i m l) = some (.normal, S d f s c (i + 1) m' l') := by
  have hi : i < s.length := (List.getElem?_eq_some_iff.1 hx).1
  have ix := El.at_ f c s i x hx
  have w := w64' ((i : Int) + 1) (by omega) (by omega)
  have w2 := w64' (d + 1) (by omega) (by omega)
  have R' := R [((1, 9, 0), bx (ec x))] 29
  simp [H] at R'
  simp [b113, lp, lps, c113, ↓s_seq, ↓s_reg, ↓s_regd, ↓s_cond, ↓s_block, ↓s_cons, ↓s_consG, s_nil, s_loop, s_round, s_lpn, s_lpe, s_lpr, firstReg, s_gt, s_gf, s_wb, s_wu, s_val, s_valN, s_skip, s_calls, s_callP, s_cax, lookR, flatR, pureKs, s_ret, s_rgx, s_sqn, s_sqr, s_sqe, s_cdb, s_bkn, s_bkr, s_bke, s_exit, s_ret', s_skip', s_finr, s_finn, s_fin1, s_fix, s_clean, s_gc0, o_tmp, o_int, o_bool, o_nil, o_str, o_fn, o_nil', l_hit, l_miss, l_nil, ol_nil, ol_cons, ol_some, x_move, x_assign, x_pick, pk_t, pk_f, x_bin, bn_s, x_un, x_extract, x_callF, cl_no, x_callB, x_callBF, frzV, x_conv, cvx, convA, frame0, binA, intOp, resL, resA, results1, sealLW, AV.pure, AV.pureL, keepT, x_alloc, x_box, bxx, x_build, bdx, x_buildSlice, bsx, x_buildSliceF, bsf, x_load, ldx, x_store, stx, x_slice, slx, x_fieldAddr, x_field, x_index, ixx, x_indexAddr, iax, x_makeSlice, msx, x_nilCheck, newK, genOf, setK, lookK, fillA, writeL, writeC, readC, conts, TyI.mk1, sliceA, boundsA, boundsB, fitsA, numA, indexAddrA, fieldAddrA, partA, fieldA, indexA, appendA, copyA, builtinA, AV.cells, chunk, gcH, reach, keysT, keepK, inKs, AV.keys, AV.keysL, Ty.isAgg, eq1, eqL, convA.go, ltI, w_u8, w_u32, w_u64, w_i64, w_fdiv, w_tdiv, w_tmod, IntKind.bits, unA, sc_int, sc_bool, sc_str, sc_sl, sc_ref, sc_ptr, sc_pel, sc_nilp, sc_fn, sc_nilf, sc_if, sc_nili, sc_agg, sc_tup, sc_mem, bs_pure, bs_kl, bs_length, bs_cells, bs_all, sl_row, sealRow, sealY, sl_int, sl_bool, sl_str, sl_sl, sl_nilp, sl_nilf, sl_nili, sl_pel, sl_agg, sl_tup, sl_fn, sl_if, nat_1, bs_cons, bs_nil, i_beq, i_bne, x_mkF, x_mkI, x_tassert, x_panic, s_pan, s_sqp, s_bkp, s_finp, s_fixp, s_lpp, s_rgp, s_retp, s_site, s_stxN, s_stxO, x_callT, clx, -indexAddrA, ix, w, w2, hi, R']
end E3
