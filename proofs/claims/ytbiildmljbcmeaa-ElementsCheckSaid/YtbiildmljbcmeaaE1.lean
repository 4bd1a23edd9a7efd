/- The reference's Same at the evaluator. No conditions. -/
import Derived.Test.YtbiildmljbcmeaaEl
open Ab Go TabE
set_option maxRecDepth 20000
set_option linter.unusedSimpArgs false
set_option linter.unusedVariables false
set_option maxHeartbeats 8000000
namespace E1
def b24 : Code := lp c24 0
abbrev S (a b : El) (i : Nat) : St := ⟨[(2, .ptr (1, 2, 0) 0), (3, .ptr (1, 3, 0) 0), (5, .int .i64 (i : Int))], [((1, 2, 0), bx (ec a)), ((1, 3, 0), bx (ec b))]⟩
theorem round (q k1 : Nat) (a b x y : El) (i : Nat) (hx : a.s[i]? = some x) (hy : b.s[i]? = some y) (la : a.s.length ≤ 9223372036854775807) (B : ∀ h, aCall E q 0 24 [x.av, y.av] h = some (.ret (.bool true), h)) :
    aCode E (aCall E q) (dcall (aRun E q)) k1 1 fn24 b24 (cleanS 1 ((firstReg b24).bind fn24.head) (S a b i)) = some (.normal, S a b (i + 1)) := by
  have hi : i < a.s.length := (List.getElem?_eq_some_iff.1 hx).1
  have ix := El.at_ a.fs a.cs a.s i x hx
  have iy := El.at_ b.fs b.cs b.s i y hy
  have w := w64' ((i : Int) + 1) (by omega) (by omega)
  rw [El.av_eq, El.av_eq] at B
  have ln := El.avs_len a.s
  simp [b24, lp, lps, c24, ↓s_seq, ↓s_reg, ↓s_regd, ↓s_cond, ↓s_block, ↓s_cons, ↓s_consG, s_nil, s_loop, s_round, s_lpn, s_lpe, s_lpr, firstReg, s_gt, s_gf, s_wb, s_wu, s_val, s_valN, s_skip, s_calls, s_callP, s_cax, lookR, flatR, pureKs, s_ret, s_rgx, s_sqn, s_sqr, s_sqe, s_cdb, s_bkn, s_bkr, s_bke, s_exit, s_ret', s_skip', s_finr, s_finn, s_fin1, s_fix, s_clean, s_gc0, o_tmp, o_int, o_bool, o_nil, o_str, o_fn, o_nil', l_hit, l_miss, l_nil, ol_nil, ol_cons, ol_some, x_move, x_assign, x_pick, pk_t, pk_f, x_bin, bn_s, x_un, x_extract, x_callF, cl_no, x_callB, x_callBF, frzV, x_conv, cvx, convA, frame0, binA, intOp, resL, resA, results1, sealLW, AV.pure, AV.pureL, keepT, x_alloc, x_box, bxx, x_build, bdx, x_buildSlice, bsx, x_buildSliceF, bsf, x_load, ldx, x_store, stx, x_slice, slx, x_fieldAddr, x_field, x_index, ixx, x_indexAddr, iax, x_makeSlice, msx, x_nilCheck, newK, genOf, setK, lookK, fillA, writeL, writeC, readC, conts, TyI.mk1, sliceA, boundsA, boundsB, fitsA, numA, indexAddrA, fieldAddrA, partA, fieldA, indexA, appendA, copyA, builtinA, AV.cells, chunk, gcH, reach, keysT, keepK, inKs, AV.keys, AV.keysL, Ty.isAgg, eq1, eqL, convA.go, ltI, w_u8, w_u32, w_u64, w_i64, w_fdiv, w_tdiv, w_tmod, IntKind.bits, unA, sc_int, sc_bool, sc_str, sc_sl, sc_ref, sc_ptr, sc_pel, sc_nilp, sc_fn, sc_nilf, sc_if, sc_nili, sc_agg, sc_tup, sc_mem, bs_pure, bs_kl, bs_length, bs_cells, bs_all, sl_row, sealRow, sealY, sl_int, sl_bool, sl_str, sl_sl, sl_nilp, sl_nilf, sl_nili, sl_pel, sl_agg, sl_tup, sl_fn, sl_if, nat_1, bs_cons, bs_nil, i_beq, i_bne, x_mkF, x_mkI, x_tassert, x_panic, s_pan, s_sqp, s_bkp, s_finp, s_fixp, s_lpp, s_rgp, s_retp, s_site, s_stxN, s_stxO, x_callT, clx, -indexAddrA, ix, iy, w, B, hi, ln]
theorem last (q k1 : Nat) (a b : El) :
    aCode E (aCall E q) (dcall (aRun E q)) k1 1 fn24 b24 (cleanS 1 ((firstReg b24).bind fn24.head) (S a b a.s.length)) = some (.exit 0, ⟨[(2, .ptr (1, 2, 0) 0), (3, .ptr (1, 3, 0) 0), (5, .int .i64 (a.s.length : Int)), (33, .bool false)], [((1, 2, 0), bx (ec a)), ((1, 3, 0), bx (ec b))]⟩) := by
  have ln := El.avs_len a.s
  simp [b24, lp, lps, c24, ↓s_seq, ↓s_reg, ↓s_regd, ↓s_cond, ↓s_block, ↓s_cons, ↓s_consG, s_nil, s_loop, s_round, s_lpn, s_lpe, s_lpr, firstReg, s_gt, s_gf, s_wb, s_wu, s_val, s_valN, s_skip, s_calls, s_callP, s_cax, lookR, flatR, pureKs, s_ret, s_rgx, s_sqn, s_sqr, s_sqe, s_cdb, s_bkn, s_bkr, s_bke, s_exit, s_ret', s_skip', s_finr, s_finn, s_fin1, s_fix, s_clean, s_gc0, o_tmp, o_int, o_bool, o_nil, o_str, o_fn, o_nil', l_hit, l_miss, l_nil, ol_nil, ol_cons, ol_some, x_move, x_assign, x_pick, pk_t, pk_f, x_bin, bn_s, x_un, x_extract, x_callF, cl_no, x_callB, x_callBF, frzV, x_conv, cvx, convA, frame0, binA, intOp, resL, resA, results1, sealLW, AV.pure, AV.pureL, keepT, x_alloc, x_box, bxx, x_build, bdx, x_buildSlice, bsx, x_buildSliceF, bsf, x_load, ldx, x_store, stx, x_slice, slx, x_fieldAddr, x_field, x_index, ixx, x_indexAddr, iax, x_makeSlice, msx, x_nilCheck, newK, genOf, setK, lookK, fillA, writeL, writeC, readC, conts, TyI.mk1, sliceA, boundsA, boundsB, fitsA, numA, indexAddrA, fieldAddrA, partA, fieldA, indexA, appendA, copyA, builtinA, AV.cells, chunk, gcH, reach, keysT, keepK, inKs, AV.keys, AV.keysL, Ty.isAgg, eq1, eqL, convA.go, ltI, w_u8, w_u32, w_u64, w_i64, w_fdiv, w_tdiv, w_tmod, IntKind.bits, unA, sc_int, sc_bool, sc_str, sc_sl, sc_ref, sc_ptr, sc_pel, sc_nilp, sc_fn, sc_nilf, sc_if, sc_nili, sc_agg, sc_tup, sc_mem, bs_pure, bs_kl, bs_length, bs_cells, bs_all, sl_row, sealRow, sealY, sl_int, sl_bool, sl_str, sl_sl, sl_nilp, sl_nilf, sl_nili, sl_pel, sl_agg, sl_tup, sl_fn, sl_if, nat_1, bs_cons, bs_nil, i_beq, i_bne, x_mkF, x_mkI, x_tassert, x_panic, s_pan, s_sqp, s_bkp, s_finp, s_fixp, s_lpp, s_rgp, s_retp, s_site, s_stxN, s_stxO, x_callT, clx, ln]
theorem same : ∀ a : El, ∀ b : El, a.ok → a.core = b.core → ∃ N, Con E N 24 [a.av, b.av] (.bool true) := by
  refine El.ind fun a ih b ha hc => ?_
  obtain ⟨e1, e2, e3, e4, e5⟩ := El.core_inj.1 hc
  have ll := El.cores_len e5
  obtain ⟨N, hN⟩ := unif (P := fun (i n : Nat) => ∀ x y : El, a.s[i]? = some x → b.s[i]? = some y → Con E n 24 [x.av, y.av] (.bool true)) (fun i n m h hm x y hx hy k hk => h x y hx hy k (Nat.le_trans hm hk)) (List.range a.s.length) (fun i hi => by
    have hi' : i < a.s.length := List.mem_range.1 hi
    obtain ⟨x, hx⟩ : ∃ x, a.s[i]? = some x := ⟨a.s[i], by simp⟩
    obtain ⟨y, hy⟩ : ∃ y, b.s[i]? = some y := ⟨b.s[i]'(by omega), List.getElem?_eq_getElem _⟩
    have mx := List.mem_of_getElem? hx
    obtain ⟨n, hn⟩ := ih x mx y (ha.sub x mx) (El.cores_get e5 hx hy)
    exact ⟨n, fun x' y' hx' hy' => by rw [hx] at hx'; rw [hy] at hy'; cases hx'; cases hy'; exact hn⟩)
  obtain ⟨K, hK⟩ : ∃ K, N + a.s.length + 10 = K := ⟨_, rfl⟩
  refine ⟨K + 1, .of (g := []) (by simp [AV.pureL, El.av_pure]) ?_⟩
  rw [aCall_fn rfl E_fn24 (by simp [AV.pureL, El.av_pure]) (Nat.le_of_ble_eq_true rfl) rfl rfl, body_24, c24]
  have L := loopR (f := aCode E (aCall E K) (dcall (aRun E K)) K 1 fn24 b24) (cl := cleanS 1 ((firstReg b24).bind fn24.head)) (k := K) (fun i => S a b i) a.s.length rfl (fun i hi => by
    obtain ⟨x, hx⟩ : ∃ x, a.s[i]? = some x := ⟨a.s[i], by simp⟩
    obtain ⟨y, hy⟩ : ∃ y, b.s[i]? = some y := ⟨b.s[i]'(by omega), List.getElem?_eq_getElem _⟩
    exact round K K a b x y i hx hy ha.sl fun h => hN i (List.mem_range.2 hi) x y hx hy K (by omega) 0 h) (last K K a b) (by simp) (by omega)
  simp [b24, lp, lps, c24, firstReg, S, bx, ec, ← e1, ← e2, ← e3, ← e4] at L
  have ga := bs_go ha.bb
  have la := El.avs_len a.s
  have lb := El.avs_len b.s
  simp [El.av_eq, ↓s_seq, ↓s_reg, ↓s_regd, ↓s_cond, ↓s_block, ↓s_cons, ↓s_consG, s_nil, s_loop, s_round, s_lpn, s_lpe, s_lpr, firstReg, s_gt, s_gf, s_wb, s_wu, s_val, s_valN, s_skip, s_calls, s_callP, s_cax, lookR, flatR, pureKs, s_ret, s_rgx, s_sqn, s_sqr, s_sqe, s_cdb, s_bkn, s_bkr, s_bke, s_exit, s_ret', s_skip', s_finr, s_finn, s_fin1, s_fix, s_clean, s_gc0, o_tmp, o_int, o_bool, o_nil, o_str, o_fn, o_nil', l_hit, l_miss, l_nil, ol_nil, ol_cons, ol_some, x_move, x_assign, x_pick, pk_t, pk_f, x_bin, bn_s, x_un, x_extract, x_callF, cl_no, x_callB, x_callBF, frzV, x_conv, cvx, convA, frame0, binA, intOp, resL, resA, results1, sealLW, AV.pure, AV.pureL, keepT, x_alloc, x_box, bxx, x_build, bdx, x_buildSlice, bsx, x_buildSliceF, bsf, x_load, ldx, x_store, stx, x_slice, slx, x_fieldAddr, x_field, x_index, ixx, x_indexAddr, iax, x_makeSlice, msx, x_nilCheck, newK, genOf, setK, lookK, fillA, writeL, writeC, readC, conts, TyI.mk1, sliceA, boundsA, boundsB, fitsA, numA, indexAddrA, fieldAddrA, partA, fieldA, indexA, appendA, copyA, builtinA, AV.cells, chunk, gcH, reach, keysT, keepK, inKs, AV.keys, AV.keysL, Ty.isAgg, eq1, eqL, convA.go, ltI, w_u8, w_u32, w_u64, w_i64, w_fdiv, w_tdiv, w_tmod, IntKind.bits, unA, sc_int, sc_bool, sc_str, sc_sl, sc_ref, sc_ptr, sc_pel, sc_nilp, sc_fn, sc_nilf, sc_if, sc_nili, sc_agg, sc_tup, sc_mem, bs_pure, bs_kl, bs_length, bs_cells, bs_all, sl_row, sealRow, sealY, sl_int, sl_bool, sl_str, sl_sl, sl_nilp, sl_nilf, sl_nili, sl_pel, sl_agg, sl_tup, sl_fn, sl_if, nat_1, bs_cons, bs_nil, i_beq, i_bne, x_mkF, x_mkI, x_tassert, x_panic, s_pan, s_sqp, s_bkp, s_finp, s_fixp, s_lpp, s_rgp, s_retp, s_site, s_stxN, s_stxO, x_callT, clx, -s_round, ← e1, ← e2, ← e3, ← e4, ← ll, ga, la, lb, L, fitZ]
end E1
