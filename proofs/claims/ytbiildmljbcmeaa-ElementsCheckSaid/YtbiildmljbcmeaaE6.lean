/- elements.size and content at the evaluator. No conditions. -/
import Derived.Test.YtbiildmljbcmeaaE5
import Derived.Test.YtbiildmljbcmeaaSq
import Derived.Test.YtbiildmljbcmeaaP9
open Ab Go TabE Sp
set_option maxRecDepth 20000
set_option linter.unusedSimpArgs false
set_option linter.unusedVariables false
set_option maxHeartbeats 8000000
namespace E6
theorem tag_put (c : Int) (k : Bool) (n : Int) (c0 : 0 ≤ c) (c1 : c < 256) (n0 : 0 ≤ n) (n1 : n < 4294967296) (h : tagE c k n = 0) :
    Con E 1 93 [.agg [.int .u8 c, .bool k, .int .u32 n]] (.tup [.sl false (bs (TG.tagO c k n)) (some (TG.tagO c k n).length), .int .i64 0]) :=
  con_prim (p := TG.tagP) rfl rfl (by unfold TG.tagP; simp only; rw [if_pos ⟨c0, c1, n0, n1⟩, if_pos h, h]; rfl) rfl
theorem tag_size (c : Int) (k : Bool) (n : Int) (c0 : 0 ≤ c) (c1 : c < 256) (n0 : 0 ≤ n) (n1 : n < 4294967296) (h : tagE c k n = 0) :
    Con E 10 92 [.agg [.int .u8 c, .bool k, .int .u32 n]] (.int .i64 ((TG.tagO c k n).length : Int)) := by
  refine con_of E_fn92 rfl (Nat.le_of_ble_eq_true rfl) rfl rfl (g := []) ?_
  rw [body_92, c92]
  have p := tag_put c k n c0 c1 n0 n1 h
  simp [↓s_seq, ↓s_reg, ↓s_regd, ↓s_cond, ↓s_block, ↓s_cons, ↓s_consG, s_nil, s_loop, s_round, s_lpn, s_lpe, s_lpr, firstReg, s_gt, s_gf, s_wb, s_wu, s_val, s_valN, s_skip, s_calls, s_callP, s_cax, lookR, flatR, pureKs, s_ret, s_rgx, s_sqn, s_sqr, s_sqe, s_cdb, s_bkn, s_bkr, s_bke, s_exit, s_ret', s_skip', s_finr, s_finn, s_fin1, s_fix, s_clean, s_gc0, o_tmp, o_int, o_bool, o_nil, o_str, o_fn, o_nil', l_hit, l_miss, l_nil, ol_nil, ol_cons, ol_some, x_move, x_assign, x_pick, pk_t, pk_f, x_bin, bn_s, x_un, x_extract, x_callF, cl_no, x_callB, x_callBF, frzV, x_conv, cvx, convA, frame0, binA, intOp, resL, resA, results1, sealLW, AV.pure, AV.pureL, keepT, x_alloc, x_box, bxx, x_build, bdx, x_buildSlice, bsx, x_buildSliceF, bsf, x_load, ldx, x_store, stx, x_slice, slx, x_fieldAddr, x_field, x_index, ixx, x_indexAddr, iax, x_makeSlice, msx, x_nilCheck, newK, genOf, setK, lookK, fillA, writeL, writeC, readC, conts, TyI.mk1, sliceA, boundsA, boundsB, fitsA, numA, indexAddrA, fieldAddrA, partA, fieldA, indexA, appendA, copyA, builtinA, AV.cells, chunk, gcH, reach, keysT, keepK, inKs, AV.keys, AV.keysL, Ty.isAgg, eq1, eqL, convA.go, ltI, w_u8, w_u32, w_u64, w_i64, w_fdiv, w_tdiv, w_tmod, IntKind.bits, unA, sc_int, sc_bool, sc_str, sc_sl, sc_ref, sc_ptr, sc_pel, sc_nilp, sc_fn, sc_nilf, sc_if, sc_nili, sc_agg, sc_tup, sc_mem, bs_pure, bs_kl, bs_length, bs_cells, bs_all, sl_row, sealRow, sealY, sl_int, sl_bool, sl_str, sl_sl, sl_nilp, sl_nilf, sl_nili, sl_pel, sl_agg, sl_tup, sl_fn, sl_if, nat_1, bs_cons, bs_nil, i_beq, i_bne, x_mkF, x_mkI, x_tassert, x_panic, s_pan, s_sqp, s_bkp, s_finp, s_fixp, s_lpp, s_rgp, s_retp, s_site, s_stxN, s_stxO, x_callT, clx, p]
theorem len_sz (n : Int) (n0 : 0 ≤ n) (n1 : n < 16777216) : P5.sz n = ((lenO n).length : Int) := by
  unfold P5.sz lenO
  rw [if_neg (by omega)]
  split
  · simp
  split
  · simp
  split
  · simp
  · rw [if_pos (by omega)]; simp
theorem total (t n : Int) (t0 : 1 ≤ t) (t1 : t ≤ 5) (n0 : 0 ≤ n) (n1 : n < 16777216) : Con E 30 91 [.int .i64 t, .int .i64 n] (.int .i64 (t + (lenO n).length + n)) := by
  have s := P5.size n
  rw [len_sz n n0 n1] at s
  have q := lenO_len n
  exact P5.total_in t n _ t0 t1 s (by omega) (by omega) n0 n1
/-- What elements.size tells of an element: how many octets there are, or that there are too many. -/
def Szd (e : El) (r : Int) : Prop := 1 ≤ r ∧ r ≤ 2000000000 ∧ (((enc e.core).length : Int) ≤ 1048576 → r = ((enc e.core).length : Int)) ∧ (1048576 < ((enc e.core).length : Int) → 1048576 < r)
def Cnd (e : El) (r : Int) : Prop := 0 ≤ r ∧ r ≤ 1000000000 ∧ (((e.b ++ encs (El.cores e.s)).length : Int) ≤ 1048576 → r = ((e.b ++ encs (El.cores e.s)).length : Int)) ∧ (1048576 < ((e.b ++ encs (El.cores e.s)).length : Int) → 1048576 < r)
theorem size_of (e : El) (he : e.ok) (hv : vld e.core) (r : Int) (hr : Cnd e r) (N : Nat) (C : Con E N 90 [e.av] (.int .i64 r)) : ∃ q, Con E (N + 41) 69 [e.av] (.int .i64 q) ∧ Szd e q := by
  obtain ⟨v1, v2, v3, v4⟩ := (vld_eq e).1 hv
  obtain ⟨r0, r1, r2, r3⟩ := hr
  have tl := tagO_len e.c e.k e.n
  have ll := lenO_len ((e.b ++ encs (El.cores e.s)).length : Int)
  have C' := C (N + 40) (by omega) 0
  rw [El.av_eq] at C'
  have el : ((enc e.core).length : Int) = (TG.tagO e.c e.k e.n).length + (lenO ((e.b ++ encs (El.cores e.s)).length : Int)).length + (e.b ++ encs (El.cores e.s)).length := by
    rw [enc_eq, List.length_append, List.length_append]; omega
  by_cases h : 1048576 < r
  · refine ⟨r, con_of E_fn69 (by simp [AV.pureL, El.av_pure]) (Nat.le_of_ble_eq_true rfl) rfl rfl (g := []) ?_, by omega, by omega, fun q => ?_, fun _ => h⟩
    · rw [body_69, c69]
      simp [El.av_eq, ↓s_seq, ↓s_reg, ↓s_regd, ↓s_cond, ↓s_block, ↓s_cons, ↓s_consG, s_nil, s_loop, s_round, s_lpn, s_lpe, s_lpr, firstReg, s_gt, s_gf, s_wb, s_wu, s_val, s_valN, s_skip, s_calls, s_callP, s_cax, lookR, flatR, pureKs, s_ret, s_rgx, s_sqn, s_sqr, s_sqe, s_cdb, s_bkn, s_bkr, s_bke, s_exit, s_ret', s_skip', s_finr, s_finn, s_fin1, s_fix, s_clean, s_gc0, o_tmp, o_int, o_bool, o_nil, o_str, o_fn, o_nil', l_hit, l_miss, l_nil, ol_nil, ol_cons, ol_some, x_move, x_assign, x_pick, pk_t, pk_f, x_bin, bn_s, x_un, x_extract, x_callF, cl_no, x_callB, x_callBF, frzV, x_conv, cvx, convA, frame0, binA, intOp, resL, resA, results1, sealLW, AV.pure, AV.pureL, keepT, x_alloc, x_box, bxx, x_build, bdx, x_buildSlice, bsx, x_buildSliceF, bsf, x_load, ldx, x_store, stx, x_slice, slx, x_fieldAddr, x_field, x_index, ixx, x_indexAddr, iax, x_makeSlice, msx, x_nilCheck, newK, genOf, setK, lookK, fillA, writeL, writeC, readC, conts, TyI.mk1, sliceA, boundsA, boundsB, fitsA, numA, indexAddrA, fieldAddrA, partA, fieldA, indexA, appendA, copyA, builtinA, AV.cells, chunk, gcH, reach, keysT, keepK, inKs, AV.keys, AV.keysL, Ty.isAgg, eq1, eqL, convA.go, ltI, w_u8, w_u32, w_u64, w_i64, w_fdiv, w_tdiv, w_tmod, IntKind.bits, unA, sc_int, sc_bool, sc_str, sc_sl, sc_ref, sc_ptr, sc_pel, sc_nilp, sc_fn, sc_nilf, sc_if, sc_nili, sc_agg, sc_tup, sc_mem, bs_pure, bs_kl, bs_length, bs_cells, bs_all, sl_row, sealRow, sealY, sl_int, sl_bool, sl_str, sl_sl, sl_nilp, sl_nilf, sl_nili, sl_pel, sl_agg, sl_tup, sl_fn, sl_if, nat_1, bs_cons, bs_nil, i_beq, i_bne, x_mkF, x_mkI, x_tassert, x_panic, s_pan, s_sqp, s_bkp, s_finp, s_fixp, s_lpp, s_rgp, s_retp, s_site, s_stxN, s_stxO, x_callT, clx, C', h]
    · have := r2 (by omega); omega
  · have le : ((e.b ++ encs (El.cores e.s)).length : Int) ≤ 1048576 := by
      by_cases q : 1048576 < ((e.b ++ encs (El.cores e.s)).length : Int)
      · exact absurd (r3 q) h
      · omega
    have re := r2 le
    have T := total ((TG.tagO e.c e.k e.n).length : Int) r (by omega) (by omega) r0 (by omega)
    have S := tag_size e.c e.k e.n he.cb.1 he.cb.2 he.nb.1 he.nb.2 v1
    have T' := T (N + 40) (by omega) 0
    have S' := S (N + 40) (by omega) 0
    refine ⟨((TG.tagO e.c e.k e.n).length : Int) + (lenO r).length + r, con_of E_fn69 (by simp [AV.pureL, El.av_pure]) (Nat.le_of_ble_eq_true rfl) rfl rfl (g := []) ?_, ?_⟩
    · rw [body_69, c69]
      simp [El.av_eq, ↓s_seq, ↓s_reg, ↓s_regd, ↓s_cond, ↓s_block, ↓s_cons, ↓s_consG, s_nil, s_loop, s_round, s_lpn, s_lpe, s_lpr, firstReg, s_gt, s_gf, s_wb, s_wu, s_val, s_valN, s_skip, s_calls, s_callP, s_cax, lookR, flatR, pureKs, s_ret, s_rgx, s_sqn, s_sqr, s_sqe, s_cdb, s_bkn, s_bkr, s_bke, s_exit, s_ret', s_skip', s_finr, s_finn, s_fin1, s_fix, s_clean, s_gc0, o_tmp, o_int, o_bool, o_nil, o_str, o_fn, o_nil', l_hit, l_miss, l_nil, ol_nil, ol_cons, ol_some, x_move, x_assign, x_pick, pk_t, pk_f, x_bin, bn_s, x_un, x_extract, x_callF, cl_no, x_callB, x_callBF, frzV, x_conv, cvx, convA, frame0, binA, intOp, resL, resA, results1, sealLW, AV.pure, AV.pureL, keepT, x_alloc, x_box, bxx, x_build, bdx, x_buildSlice, bsx, x_buildSliceF, bsf, x_load, ldx, x_store, stx, x_slice, slx, x_fieldAddr, x_field, x_index, ixx, x_indexAddr, iax, x_makeSlice, msx, x_nilCheck, newK, genOf, setK, lookK, fillA, writeL, writeC, readC, conts, TyI.mk1, sliceA, boundsA, boundsB, fitsA, numA, indexAddrA, fieldAddrA, partA, fieldA, indexA, appendA, copyA, builtinA, AV.cells, chunk, gcH, reach, keysT, keepK, inKs, AV.keys, AV.keysL, Ty.isAgg, eq1, eqL, convA.go, ltI, w_u8, w_u32, w_u64, w_i64, w_fdiv, w_tdiv, w_tmod, IntKind.bits, unA, sc_int, sc_bool, sc_str, sc_sl, sc_ref, sc_ptr, sc_pel, sc_nilp, sc_fn, sc_nilf, sc_if, sc_nili, sc_agg, sc_tup, sc_mem, bs_pure, bs_kl, bs_length, bs_cells, bs_all, sl_row, sealRow, sealY, sl_int, sl_bool, sl_str, sl_sl, sl_nilp, sl_nilf, sl_nili, sl_pel, sl_agg, sl_tup, sl_fn, sl_if, nat_1, bs_cons, bs_nil, i_beq, i_bne, x_mkF, x_mkI, x_tassert, x_panic, s_pan, s_sqp, s_bkp, s_finp, s_fixp, s_lpp, s_rgp, s_retp, s_site, s_stxN, s_stxO, x_callT, clx, C', h, T', S']
    · have ll2 := lenO_len r
      refine ⟨by omega, by omega, fun q => ?_, fun q => ?_⟩
      · rw [el, ← re]
      · rw [el, ← re] at q; exact q
def b90 : Code := lp c90 0
abbrev S (f : Bool) (s : List El) (c : Option Nat) (i : Nat) (n : Int) : St := ⟨[(3, .int .i64 n), (14, .sl f (El.avs s) c), (15, .int .i64 (s.length : Int)), (16, .int .i64 (i : Int))], []⟩
theorem round (q k1 : Nat) (f s c) (i : Nat) (n r : Int) (x : El) (hx : s[i]? = some x) (ls : s.length ≤ 1000000000) (n0 : 0 ≤ n) (n1 : n ≤ 1048577) (r0 : 0 ≤ r) (r1 : r ≤ 2000000000) (B : ∀ h, aCall E q 0 69 [x.av] h = some (.ret (.int .i64 r), h)) :
    rnd fn90 b90 q k1 (S f s c i n) = some (.normal, S f s c (i + 1) (min (n + r) 1048577)) := by
  have hi : i < s.length := (List.getElem?_eq_some_iff.1 hx).1
  have ix := El.at_ f c s i x hx
  have w := w64' ((i : Int) + 1) (by omega) (by omega)
  have w2 := w64' (n + r) (by omega) (by omega)
  have mn : (if 1048577 < n + r then 1048577 else n + r) = min (n + r) 1048577 := by rw [Int.min_def]; split <;> split <;> omega
  rw [El.av_eq] at B
  simp [b90, lp, lps, c90, ↓s_seq, ↓s_reg, ↓s_regd, ↓s_cond, ↓s_block, ↓s_cons, ↓s_consG, s_nil, s_loop, s_round, s_lpn, s_lpe, s_lpr, firstReg, s_gt, s_gf, s_wb, s_wu, s_val, s_valN, s_skip, s_calls, s_callP, s_cax, lookR, flatR, pureKs, s_ret, s_rgx, s_sqn, s_sqr, s_sqe, s_cdb, s_bkn, s_bkr, s_bke, s_exit, s_ret', s_skip', s_finr, s_finn, s_fin1, s_fix, s_clean, s_gc0, o_tmp, o_int, o_bool, o_nil, o_str, o_fn, o_nil', l_hit, l_miss, l_nil, ol_nil, ol_cons, ol_some, x_move, x_assign, x_pick, pk_t, pk_f, x_bin, bn_s, x_un, x_extract, x_callF, cl_no, x_callB, x_callBF, frzV, x_conv, cvx, convA, frame0, binA, intOp, resL, resA, results1, sealLW, AV.pure, AV.pureL, keepT, x_alloc, x_box, bxx, x_build, bdx, x_buildSlice, bsx, x_buildSliceF, bsf, x_load, ldx, x_store, stx, x_slice, slx, x_fieldAddr, x_field, x_index, ixx, x_indexAddr, iax, x_makeSlice, msx, x_nilCheck, newK, genOf, setK, lookK, fillA, writeL, writeC, readC, conts, TyI.mk1, sliceA, boundsA, boundsB, fitsA, numA, indexAddrA, fieldAddrA, partA, fieldA, indexA, appendA, copyA, builtinA, AV.cells, chunk, gcH, reach, keysT, keepK, inKs, AV.keys, AV.keysL, Ty.isAgg, eq1, eqL, convA.go, ltI, w_u8, w_u32, w_u64, w_i64, w_fdiv, w_tdiv, w_tmod, IntKind.bits, unA, sc_int, sc_bool, sc_str, sc_sl, sc_ref, sc_ptr, sc_pel, sc_nilp, sc_fn, sc_nilf, sc_if, sc_nili, sc_agg, sc_tup, sc_mem, bs_pure, bs_kl, bs_length, bs_cells, bs_all, sl_row, sealRow, sealY, sl_int, sl_bool, sl_str, sl_sl, sl_nilp, sl_nilf, sl_nili, sl_pel, sl_agg, sl_tup, sl_fn, sl_if, nat_1, bs_cons, bs_nil, i_beq, i_bne, x_mkF, x_mkI, x_tassert, x_panic, s_pan, s_sqp, s_bkp, s_finp, s_fixp, s_lpp, s_rgp, s_retp, s_site, s_stxN, s_stxO, x_callT, clx, -indexAddrA, ix, w, w2, hi, B, mn]
theorem last (q k1 : Nat) (f s c) (n : Int) :
    rnd fn90 b90 q k1 (S f s c s.length n) = some (.exit 0, ⟨[(3, .int .i64 n), (14, .sl f (El.avs s) c), (15, .int .i64 (s.length : Int)), (16, .int .i64 (s.length : Int)), (17, .bool false)], []⟩) := by
  simp [b90, lp, lps, c90, ↓s_seq, ↓s_reg, ↓s_regd, ↓s_cond, ↓s_block, ↓s_cons, ↓s_consG, s_nil, s_loop, s_round, s_lpn, s_lpe, s_lpr, firstReg, s_gt, s_gf, s_wb, s_wu, s_val, s_valN, s_skip, s_calls, s_callP, s_cax, lookR, flatR, pureKs, s_ret, s_rgx, s_sqn, s_sqr, s_sqe, s_cdb, s_bkn, s_bkr, s_bke, s_exit, s_ret', s_skip', s_finr, s_finn, s_fin1, s_fix, s_clean, s_gc0, o_tmp, o_int, o_bool, o_nil, o_str, o_fn, o_nil', l_hit, l_miss, l_nil, ol_nil, ol_cons, ol_some, x_move, x_assign, x_pick, pk_t, pk_f, x_bin, bn_s, x_un, x_extract, x_callF, cl_no, x_callB, x_callBF, frzV, x_conv, cvx, convA, frame0, binA, intOp, resL, resA, results1, sealLW, AV.pure, AV.pureL, keepT, x_alloc, x_box, bxx, x_build, bdx, x_buildSlice, bsx, x_buildSliceF, bsf, x_load, ldx, x_store, stx, x_slice, slx, x_fieldAddr, x_field, x_index, ixx, x_indexAddr, iax, x_makeSlice, msx, x_nilCheck, newK, genOf, setK, lookK, fillA, writeL, writeC, readC, conts, TyI.mk1, sliceA, boundsA, boundsB, fitsA, numA, indexAddrA, fieldAddrA, partA, fieldA, indexA, appendA, copyA, builtinA, AV.cells, chunk, gcH, reach, keysT, keepK, inKs, AV.keys, AV.keysL, Ty.isAgg, eq1, eqL, convA.go, ltI, w_u8, w_u32, w_u64, w_i64, w_fdiv, w_tdiv, w_tmod, IntKind.bits, unA, sc_int, sc_bool, sc_str, sc_sl, sc_ref, sc_ptr, sc_pel, sc_nilp, sc_fn, sc_nilf, sc_if, sc_nili, sc_agg, sc_tup, sc_mem, bs_pure, bs_kl, bs_length, bs_cells, bs_all, sl_row, sealRow, sealY, sl_int, sl_bool, sl_str, sl_sl, sl_nilp, sl_nilf, sl_nili, sl_pel, sl_agg, sl_tup, sl_fn, sl_if, nat_1, bs_cons, bs_nil, i_beq, i_bne, x_mkF, x_mkI, x_tassert, x_panic, s_pan, s_sqp, s_bkp, s_finp, s_fixp, s_lpp, s_rgp, s_retp, s_site, s_stxN, s_stxO, x_callT, clx]
def acc : List Int → Int → Int
  | [], n => n
  | r :: l, n => acc l (min (n + r) 1048577)
end E6
