/- The reference's Depth and Many, and the law's exact and bounded, at the evaluator. No conditions. -/
import Derived.Test.YtbiildmljbcmeaaE11
open Ab Go TabE Sp
set_option maxRecDepth 20000
set_option linter.unusedSimpArgs false
set_option linter.unusedVariables false
set_option maxHeartbeats 8000000
namespace Sp
mutual
def dep : Cr → Int
  | .mk _ _ _ _ s => deps s + 1
def deps : List Cr → Int
  | [] => 0
  | x :: r => max (dep x) (deps r)
end
mutual
def many : Cr → Int → Int
  | .mk _ _ _ _ s, m => if m ≤ 0 then 1 else manys s m 1
def manys : List Cr → Int → Int → Int
  | [], m, n => n
  | x :: r, m, n => if n ≤ m then manys r m (n + many x (m - n)) else n
end
mutual
theorem many_le : ∀ (c : Cr) (m : Int), 1 ≤ many c m ∧ (many c m ≤ m + 1 ∨ many c m = 1)
  | .mk _ _ _ _ s, m => by
    unfold many
    by_cases h : m ≤ 0
    · rw [if_pos h]; omega
    · rw [if_neg h]; have := manys_le s m 1 (by omega) (by omega); omega
theorem manys_le : ∀ (s : List Cr) (m n : Int), 1 ≤ n → n ≤ m + 1 → 1 ≤ manys s m n ∧ manys s m n ≤ m + 1
  | [], m, n, h0, h => by unfold manys; omega
  | x :: r, m, n, h0, h => by
    unfold manys
    by_cases q : n ≤ m
    · rw [if_pos q]
      have := many_le x (m - n)
      exact manys_le r m _ (by omega) (by omega)
    · rw [if_neg q]; omega
end
theorem dep_eq (e : El) : dep e.core = deps (El.cores e.s) + 1 := by rw [El.core_eq, dep]
theorem many_eq (e : El) (m : Int) : many e.core m = if m ≤ 0 then 1 else manys (El.cores e.s) m 1 := by rw [El.core_eq, many]
mutual
theorem dep_pos : ∀ c : Cr, 1 ≤ dep c
  | .mk _ _ _ _ s => by unfold dep; have := deps_pos s; omega
theorem deps_pos : ∀ s : List Cr, 0 ≤ deps s
  | [] => by unfold deps; omega
  | x :: r => by unfold deps; have := deps_pos r; omega
end
end Sp
namespace E12
theorem deps_mem {x : El} : ∀ {l : List El}, x ∈ l → dep x.core ≤ deps (El.cores l)
  | y :: l, h => by
    rw [El.cores, deps]
    rcases List.mem_cons.1 h with rfl | h
    · omega
    · have := deps_mem h; omega
def b40 : Code := lp c40 0
abbrev S40 (e : El) (i : Nat) (n : Int) : St := ⟨[(1, .ptr (1, 1, 0) 0), (3, .int .i64 n), (4, .int .i64 (i : Int))], [((1, 1, 0), bx (ec e))]⟩
theorem go40 (q k1 : Nat) (e x : El) (n r : Int) (i : Nat) (hx : e.s[i]? = some x) (le : e.s.length ≤ 9223372036854775807) (B : ∀ h, aCall E q 0 40 [x.av] h = some (.ret (.int .i64 r), h)) :
    rnd fn40 b40 q k1 (S40 e i n) = some (.normal, S40 e (i + 1) (max n r)) := by
  have hi : i < e.s.length := (List.getElem?_eq_some_iff.1 hx).1
  have ix := El.at_ e.fs e.cs e.s i x hx
  have w := w64' ((i : Int) + 1) (by omega) (by omega)
  have mx : (if n < r then r else n) = max n r := by rw [Int.max_def]; split <;> split <;> omega
  rw [El.av_eq] at B
  simp [b40, lp, lps, c40, ↓s_seq, ↓s_reg, ↓s_regd, ↓s_cond, ↓s_block, ↓s_cons, ↓s_consG, s_nil, s_loop, s_round, s_lpn, s_lpe, s_lpr, firstReg, s_gt, s_gf, s_wb, s_wu, s_val, s_valN, s_skip, s_calls, s_callP, s_cax, lookR, flatR, pureKs, s_ret, s_rgx, s_sqn, s_sqr, s_sqe, s_cdb, s_bkn, s_bkr, s_bke, s_exit, s_ret', s_skip', s_finr, s_finn, s_fin1, s_fix, s_clean, s_gc0, o_tmp, o_int, o_bool, o_nil, o_str, o_fn, o_nil', l_hit, l_miss, l_nil, ol_nil, ol_cons, ol_some, x_move, x_assign, x_pick, pk_t, pk_f, x_bin, bn_s, x_un, x_extract, x_callF, cl_no, x_callB, x_callBF, frzV, x_conv, cvx, convA, frame0, binA, intOp, resL, resA, results1, sealLW, AV.pure, AV.pureL, keepT, x_alloc, x_box, bxx, x_build, bdx, x_buildSlice, bsx, x_buildSliceF, bsf, x_load, ldx, x_store, stx, x_slice, slx, x_fieldAddr, x_field, x_index, ixx, x_indexAddr, iax, x_makeSlice, msx, x_nilCheck, newK, genOf, setK, lookK, fillA, writeL, writeC, readC, conts, TyI.mk1, sliceA, boundsA, boundsB, fitsA, numA, indexAddrA, fieldAddrA, partA, fieldA, indexA, appendA, copyA, builtinA, AV.cells, chunk, gcH, reach, keysT, keepK, inKs, AV.keys, AV.keysL, Ty.isAgg, eq1, eqL, convA.go, ltI, w_u8, w_u32, w_u64, w_i64, w_fdiv, w_tdiv, w_tmod, IntKind.bits, unA, sc_int, sc_bool, sc_str, sc_sl, sc_ref, sc_ptr, sc_pel, sc_nilp, sc_fn, sc_nilf, sc_if, sc_nili, sc_agg, sc_tup, sc_mem, bs_pure, bs_kl, bs_length, bs_cells, bs_all, sl_row, sealRow, sealY, sl_int, sl_bool, sl_str, sl_sl, sl_nilp, sl_nilf, sl_nili, sl_pel, sl_agg, sl_tup, sl_fn, sl_if, nat_1, bs_cons, bs_nil, i_beq, i_bne, x_mkF, x_mkI, x_tassert, x_panic, s_pan, s_sqp, s_bkp, s_finp, s_fixp, s_lpp, s_rgp, s_retp, s_site, s_stxN, s_stxO, x_callT, clx, El.avs_len, -indexAddrA, ix, w, hi, B, mx]
theorem last40 (q k1 : Nat) (e : El) (n : Int) : rnd fn40 b40 q k1 (S40 e e.s.length n) = some (.exit 0, ⟨[(1, .ptr (1, 1, 0) 0), (3, .int .i64 n), (4, .int .i64 (e.s.length : Int)), (9, .bool false)], [((1, 1, 0), bx (ec e))]⟩) := by
  simp [b40, lp, lps, c40, ↓s_seq, ↓s_reg, ↓s_regd, ↓s_cond, ↓s_block, ↓s_cons, ↓s_consG, s_nil, s_loop, s_round, s_lpn, s_lpe, s_lpr, firstReg, s_gt, s_gf, s_wb, s_wu, s_val, s_valN, s_skip, s_calls, s_callP, s_cax, lookR, flatR, pureKs, s_ret, s_rgx, s_sqn, s_sqr, s_sqe, s_cdb, s_bkn, s_bkr, s_bke, s_exit, s_ret', s_skip', s_finr, s_finn, s_fin1, s_fix, s_clean, s_gc0, o_tmp, o_int, o_bool, o_nil, o_str, o_fn, o_nil', l_hit, l_miss, l_nil, ol_nil, ol_cons, ol_some, x_move, x_assign, x_pick, pk_t, pk_f, x_bin, bn_s, x_un, x_extract, x_callF, cl_no, x_callB, x_callBF, frzV, x_conv, cvx, convA, frame0, binA, intOp, resL, resA, results1, sealLW, AV.pure, AV.pureL, keepT, x_alloc, x_box, bxx, x_build, bdx, x_buildSlice, bsx, x_buildSliceF, bsf, x_load, ldx, x_store, stx, x_slice, slx, x_fieldAddr, x_field, x_index, ixx, x_indexAddr, iax, x_makeSlice, msx, x_nilCheck, newK, genOf, setK, lookK, fillA, writeL, writeC, readC, conts, TyI.mk1, sliceA, boundsA, boundsB, fitsA, numA, indexAddrA, fieldAddrA, partA, fieldA, indexA, appendA, copyA, builtinA, AV.cells, chunk, gcH, reach, keysT, keepK, inKs, AV.keys, AV.keysL, Ty.isAgg, eq1, eqL, convA.go, ltI, w_u8, w_u32, w_u64, w_i64, w_fdiv, w_tdiv, w_tmod, IntKind.bits, unA, sc_int, sc_bool, sc_str, sc_sl, sc_ref, sc_ptr, sc_pel, sc_nilp, sc_fn, sc_nilf, sc_if, sc_nili, sc_agg, sc_tup, sc_mem, bs_pure, bs_kl, bs_length, bs_cells, bs_all, sl_row, sealRow, sealY, sl_int, sl_bool, sl_str, sl_sl, sl_nilp, sl_nilf, sl_nili, sl_pel, sl_agg, sl_tup, sl_fn, sl_if, nat_1, bs_cons, bs_nil, i_beq, i_bne, x_mkF, x_mkI, x_tassert, x_panic, s_pan, s_sqp, s_bkp, s_finp, s_fixp, s_lpp, s_rgp, s_retp, s_site, s_stxN, s_stxO, x_callT, clx, El.avs_len]
theorem depth : ∀ e : El, e.ok → dep e.core ≤ 100000 → ∃ N, Con E N 40 [e.av] (.int .i64 (dep e.core)) := by
  refine El.ind fun e ih he hd => ?_
  rw [dep_eq] at hd
  obtain ⟨N, hN⟩ := unif (P := fun (x : El) (n : Nat) => Con E n 40 [x.av] (.int .i64 (dep x.core))) (fun x n m h hm => h.mono hm) e.s (fun x hx => ih x hx (he.sub x hx) (by have := deps_mem hx; omega))
  obtain ⟨K, hK⟩ : ∃ K, N + e.s.length + 30 = K := ⟨_, rfl⟩
  refine ⟨K + 1, con_of E_fn40 (by simp [AV.pureL, El.av_pure]) (Nat.le_of_ble_eq_true rfl) rfl rfl (g := []) ?_⟩
  rw [body_40, c40]
  have L := loopL (f := aCode E (aCall E K) (dcall (aRun E K)) K 1 fn40 b40) (cl := cleanS 1 ((firstReg b40).bind fn40.head)) e.s (S40 e) (fun n x => .inl (max n (dep x.core)))
    (fun n => (.exit 0, ⟨[(1, .ptr (1, 1, 0) 0), (3, .int .i64 n), (4, .int .i64 (e.s.length : Int)), (9, .bool false)], [((1, 1, 0), bx (ec e))]⟩)) (fun _ => True)
    (fun i x n hx _ => ⟨fun c' e1 => by cases e1; exact ⟨go40 K K e x n _ i hx he.sl (fun h => hN x (List.mem_of_getElem? hx) K (by omega) 0 h), trivial⟩, fun r e1 => by cases e1⟩)
    (fun n _ => ⟨last40 K K e n, by simp⟩) e.s 0 0 K rfl (by simp) trivial (by omega)
  have run : ∀ (l : List El) (n : Int), 0 ≤ n → runL (fun (n : Int) (x : El) => (.inl (max n (dep x.core)) : Int ⊕ (AExit × St))) (fun n => (AExit.exit 0, (⟨[(1, .ptr (1, 1, 0) 0), (3, .int .i64 n), (4, .int .i64 (e.s.length : Int)), (9, .bool false)], [((1, 1, 0), bx (ec e))]⟩ : St))) l n =
      (AExit.exit 0, ⟨[(1, .ptr (1, 1, 0) 0), (3, .int .i64 (max n (deps (El.cores l)))), (4, .int .i64 (e.s.length : Int)), (9, .bool false)], [((1, 1, 0), bx (ec e))]⟩) := by
    intro l
    induction l with
    | nil => intro n hn; have : max n 0 = n := by omega
             simp [runL, El.cores, deps, this]
    | cons x l ih =>
      intro n hn
      unfold runL
      simp only
      rw [ih _ (by omega)]
      have : max (max n (dep x.core)) (deps (El.cores l)) = max n (deps (El.cores (x :: l))) := by rw [El.cores, deps]; omega
      rw [this]
  rw [run _ _ (by omega)] at L
  have d0 := deps_pos (El.cores e.s)
  have e0 : max 0 (deps (El.cores e.s)) = deps (El.cores e.s) := by omega
  rw [e0] at L
  have w := w64' (deps (El.cores e.s) + 1) (by omega) (by omega)
  simp [b40, lp, lps, c40, firstReg, S40, ec] at L
  simp [El.av_eq, ↓s_seq, ↓s_reg, ↓s_regd, ↓s_cond, ↓s_block, ↓s_cons, ↓s_consG, s_nil, s_loop, s_round, s_lpn, s_lpe, s_lpr, firstReg, s_gt, s_gf, s_wb, s_wu, s_val, s_valN, s_skip, s_calls, s_callP, s_cax, lookR, flatR, pureKs, s_ret, s_rgx, s_sqn, s_sqr, s_sqe, s_cdb, s_bkn, s_bkr, s_bke, s_exit, s_ret', s_skip', s_finr, s_finn, s_fin1, s_fix, s_clean, s_gc0, o_tmp, o_int, o_bool, o_nil, o_str, o_fn, o_nil', l_hit, l_miss, l_nil, ol_nil, ol_cons, ol_some, x_move, x_assign, x_pick, pk_t, pk_f, x_bin, bn_s, x_un, x_extract, x_callF, cl_no, x_callB, x_callBF, frzV, x_conv, cvx, convA, frame0, binA, intOp, resL, resA, results1, sealLW, AV.pure, AV.pureL, keepT, x_alloc, x_box, bxx, x_build, bdx, x_buildSlice, bsx, x_buildSliceF, bsf, x_load, ldx, x_store, stx, x_slice, slx, x_fieldAddr, x_field, x_index, ixx, x_indexAddr, iax, x_makeSlice, msx, x_nilCheck, newK, genOf, setK, lookK, fillA, writeL, writeC, readC, conts, TyI.mk1, sliceA, boundsA, boundsB, fitsA, numA, indexAddrA, fieldAddrA, partA, fieldA, indexA, appendA, copyA, builtinA, AV.cells, chunk, gcH, reach, keysT, keepK, inKs, AV.keys, AV.keysL, Ty.isAgg, eq1, eqL, convA.go, ltI, w_u8, w_u32, w_u64, w_i64, w_fdiv, w_tdiv, w_tmod, IntKind.bits, unA, sc_int, sc_bool, sc_str, sc_sl, sc_ref, sc_ptr, sc_pel, sc_nilp, sc_fn, sc_nilf, sc_if, sc_nili, sc_agg, sc_tup, sc_mem, bs_pure, bs_kl, bs_length, bs_cells, bs_all, sl_row, sealRow, sealY, sl_int, sl_bool, sl_str, sl_sl, sl_nilp, sl_nilf, sl_nili, sl_pel, sl_agg, sl_tup, sl_fn, sl_if, nat_1, bs_cons, bs_nil, i_beq, i_bne, x_mkF, x_mkI, x_tassert, x_panic, s_pan, s_sqp, s_bkp, s_finp, s_fixp, s_lpp, s_rgp, s_retp, s_site, s_stxN, s_stxO, x_callT, clx, El.avs_len, -s_round, L, w, dep_eq]
def b26 : Code := lp c26 0
abbrev S26 (e : El) (m : Int) (i : Nat) (n : Int) : St := ⟨[(1, .int .i64 m), (2, .ptr (1, 2, 0) 0), (5, .int .i64 n), (6, .int .i64 (i : Int))], [((1, 2, 0), bx (ec e))]⟩
theorem go26 (q k1 : Nat) (e x : El) (m n r : Int) (i : Nat) (hx : e.s[i]? = some x) (le : e.s.length ≤ 9223372036854775807) (n0 : 0 ≤ n) (nm : n ≤ m) (m1 : m ≤ 100000) (r0 : 0 ≤ r) (r1 : r ≤ 200000) (B : ∀ h, aCall E q 0 26 [x.av, .int .i64 (m - n)] h = some (.ret (.int .i64 r), h)) :
    rnd fn26 b26 q k1 (S26 e m i n) = some (.normal, S26 e m (i + 1) (n + r)) := by
  have hi : i < e.s.length := (List.getElem?_eq_some_iff.1 hx).1
  have ix := El.at_ e.fs e.cs e.s i x hx
  have w := w64' ((i : Int) + 1) (by omega) (by omega)
  have w2 := w64' (m - n) (by omega) (by omega)
  have w3 := w64' (n + r) (by omega) (by omega)
  rw [El.av_eq] at B
  simp [b26, lp, lps, c26, ↓s_seq, ↓s_reg, ↓s_regd, ↓s_cond, ↓s_block, ↓s_cons, ↓s_consG, s_nil, s_loop, s_round, s_lpn, s_lpe, s_lpr, firstReg, s_gt, s_gf, s_wb, s_wu, s_val, s_valN, s_skip, s_calls, s_callP, s_cax, lookR, flatR, pureKs, s_ret, s_rgx, s_sqn, s_sqr, s_sqe, s_cdb, s_bkn, s_bkr, s_bke, s_exit, s_ret', s_skip', s_finr, s_finn, s_fin1, s_fix, s_clean, s_gc0, o_tmp, o_int, o_bool, o_nil, o_str, o_fn, o_nil', l_hit, l_miss, l_nil, ol_nil, ol_cons, ol_some, x_move, x_assign, x_pick, pk_t, pk_f, x_bin, bn_s, x_un, x_extract, x_callF, cl_no, x_callB, x_callBF, frzV, x_conv, cvx, convA, frame0, binA, intOp, resL, resA, results1, sealLW, AV.pure, AV.pureL, keepT, x_alloc, x_box, bxx, x_build, bdx, x_buildSlice, bsx, x_buildSliceF, bsf, x_load, ldx, x_store, stx, x_slice, slx, x_fieldAddr, x_field, x_index, ixx, x_indexAddr, iax, x_makeSlice, msx, x_nilCheck, newK, genOf, setK, lookK, fillA, writeL, writeC, readC, conts, TyI.mk1, sliceA, boundsA, boundsB, fitsA, numA, indexAddrA, fieldAddrA, partA, fieldA, indexA, appendA, copyA, builtinA, AV.cells, chunk, gcH, reach, keysT, keepK, inKs, AV.keys, AV.keysL, Ty.isAgg, eq1, eqL, convA.go, ltI, w_u8, w_u32, w_u64, w_i64, w_fdiv, w_tdiv, w_tmod, IntKind.bits, unA, sc_int, sc_bool, sc_str, sc_sl, sc_ref, sc_ptr, sc_pel, sc_nilp, sc_fn, sc_nilf, sc_if, sc_nili, sc_agg, sc_tup, sc_mem, bs_pure, bs_kl, bs_length, bs_cells, bs_all, sl_row, sealRow, sealY, sl_int, sl_bool, sl_str, sl_sl, sl_nilp, sl_nilf, sl_nili, sl_pel, sl_agg, sl_tup, sl_fn, sl_if, nat_1, bs_cons, bs_nil, i_beq, i_bne, x_mkF, x_mkI, x_tassert, x_panic, s_pan, s_sqp, s_bkp, s_finp, s_fixp, s_lpp, s_rgp, s_retp, s_site, s_stxN, s_stxO, x_callT, clx, El.avs_len, -indexAddrA, ix, w, w2, w3, hi, B, nm]
theorem out26 (q k1 : Nat) (e : El) (m n : Int) (i : Nat) (hi : i < e.s.length) (nm : ¬ n ≤ m) : rnd fn26 b26 q k1 (S26 e m i n) = some (.exit 0, ⟨[(1, .int .i64 m), (2, .ptr (1, 2, 0) 0), (5, .int .i64 n), (6, .int .i64 (i : Int)), (18, .bool false)], [((1, 2, 0), bx (ec e))]⟩) := by
  simp [b26, lp, lps, c26, ↓s_seq, ↓s_reg, ↓s_regd, ↓s_cond, ↓s_block, ↓s_cons, ↓s_consG, s_nil, s_loop, s_round, s_lpn, s_lpe, s_lpr, firstReg, s_gt, s_gf, s_wb, s_wu, s_val, s_valN, s_skip, s_calls, s_callP, s_cax, lookR, flatR, pureKs, s_ret, s_rgx, s_sqn, s_sqr, s_sqe, s_cdb, s_bkn, s_bkr, s_bke, s_exit, s_ret', s_skip', s_finr, s_finn, s_fin1, s_fix, s_clean, s_gc0, o_tmp, o_int, o_bool, o_nil, o_str, o_fn, o_nil', l_hit, l_miss, l_nil, ol_nil, ol_cons, ol_some, x_move, x_assign, x_pick, pk_t, pk_f, x_bin, bn_s, x_un, x_extract, x_callF, cl_no, x_callB, x_callBF, frzV, x_conv, cvx, convA, frame0, binA, intOp, resL, resA, results1, sealLW, AV.pure, AV.pureL, keepT, x_alloc, x_box, bxx, x_build, bdx, x_buildSlice, bsx, x_buildSliceF, bsf, x_load, ldx, x_store, stx, x_slice, slx, x_fieldAddr, x_field, x_index, ixx, x_indexAddr, iax, x_makeSlice, msx, x_nilCheck, newK, genOf, setK, lookK, fillA, writeL, writeC, readC, conts, TyI.mk1, sliceA, boundsA, boundsB, fitsA, numA, indexAddrA, fieldAddrA, partA, fieldA, indexA, appendA, copyA, builtinA, AV.cells, chunk, gcH, reach, keysT, keepK, inKs, AV.keys, AV.keysL, Ty.isAgg, eq1, eqL, convA.go, ltI, w_u8, w_u32, w_u64, w_i64, w_fdiv, w_tdiv, w_tmod, IntKind.bits, unA, sc_int, sc_bool, sc_str, sc_sl, sc_ref, sc_ptr, sc_pel, sc_nilp, sc_fn, sc_nilf, sc_if, sc_nili, sc_agg, sc_tup, sc_mem, bs_pure, bs_kl, bs_length, bs_cells, bs_all, sl_row, sealRow, sealY, sl_int, sl_bool, sl_str, sl_sl, sl_nilp, sl_nilf, sl_nili, sl_pel, sl_agg, sl_tup, sl_fn, sl_if, nat_1, bs_cons, bs_nil, i_beq, i_bne, x_mkF, x_mkI, x_tassert, x_panic, s_pan, s_sqp, s_bkp, s_finp, s_fixp, s_lpp, s_rgp, s_retp, s_site, s_stxN, s_stxO, x_callT, clx, El.avs_len, hi, nm]
theorem last26 (q k1 : Nat) (e : El) (m n : Int) : rnd fn26 b26 q k1 (S26 e m e.s.length n) = some (.exit 0, ⟨[(1, .int .i64 m), (2, .ptr (1, 2, 0) 0), (5, .int .i64 n), (6, .int .i64 (e.s.length : Int)), (18, .bool false)], [((1, 2, 0), bx (ec e))]⟩) := by
  simp [b26, lp, lps, c26, ↓s_seq, ↓s_reg, ↓s_regd, ↓s_cond, ↓s_block, ↓s_cons, ↓s_consG, s_nil, s_loop, s_round, s_lpn, s_lpe, s_lpr, firstReg, s_gt, s_gf, s_wb, s_wu, s_val, s_valN, s_skip, s_calls, s_callP, s_cax, lookR, flatR, pureKs, s_ret, s_rgx, s_sqn, s_sqr, s_sqe, s_cdb, s_bkn, s_bkr, s_bke, s_exit, s_ret', s_skip', s_finr, s_finn, s_fin1, s_fix, s_clean, s_gc0, o_tmp, o_int, o_bool, o_nil, o_str, o_fn, o_nil', l_hit, l_miss, l_nil, ol_nil, ol_cons, ol_some, x_move, x_assign, x_pick, pk_t, pk_f, x_bin, bn_s, x_un, x_extract, x_callF, cl_no, x_callB, x_callBF, frzV, x_conv, cvx, convA, frame0, binA, intOp, resL, resA, results1, sealLW, AV.pure, AV.pureL, keepT, x_alloc, x_box, bxx, x_build, bdx, x_buildSlice, bsx, x_buildSliceF, bsf, x_load, ldx, x_store, stx, x_slice, slx, x_fieldAddr, x_field, x_index, ixx, x_indexAddr, iax, x_makeSlice, msx, x_nilCheck, newK, genOf, setK, lookK, fillA, writeL, writeC, readC, conts, TyI.mk1, sliceA, boundsA, boundsB, fitsA, numA, indexAddrA, fieldAddrA, partA, fieldA, indexA, appendA, copyA, builtinA, AV.cells, chunk, gcH, reach, keysT, keepK, inKs, AV.keys, AV.keysL, Ty.isAgg, eq1, eqL, convA.go, ltI, w_u8, w_u32, w_u64, w_i64, w_fdiv, w_tdiv, w_tmod, IntKind.bits, unA, sc_int, sc_bool, sc_str, sc_sl, sc_ref, sc_ptr, sc_pel, sc_nilp, sc_fn, sc_nilf, sc_if, sc_nili, sc_agg, sc_tup, sc_mem, bs_pure, bs_kl, bs_length, bs_cells, bs_all, sl_row, sealRow, sealY, sl_int, sl_bool, sl_str, sl_sl, sl_nilp, sl_nilf, sl_nili, sl_pel, sl_agg, sl_tup, sl_fn, sl_if, nat_1, bs_cons, bs_nil, i_beq, i_bne, x_mkF, x_mkI, x_tassert, x_panic, s_pan, s_sqp, s_bkp, s_finp, s_fixp, s_lpp, s_rgp, s_retp, s_site, s_stxN, s_stxO, x_callT, clx, El.avs_len]
end E12
