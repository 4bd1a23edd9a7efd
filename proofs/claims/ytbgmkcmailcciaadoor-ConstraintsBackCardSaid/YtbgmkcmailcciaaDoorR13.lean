/- Encodings are read, at the evaluator. No conditions. -/
import Derived.Test.YtbgmkcmailcciaaDoorR12
import Derived.Test.YtbgmkcmailcciaaDoorB24
open Ab Go TabC N2 R1 R9 R10 R11 R12
set_option maxRecDepth 20000
set_option linter.unusedSimpArgs false
set_option linter.unusedVariables false
set_option maxHeartbeats 8000000
namespace R13
theorem opened_fn {E : Env} {k slot f h x g v hf} (hr : aRun E k f [x, .fn g [] []] [] = some (.ret v, hf)) (hx : x.pure = true) (hv : v.pure = true) : opened [false, true] true (aRun E k) slot f [x, .fn g [] []] h = some (.ret v, h) := by
  have e1 : sealM (sealA 20) [false, true] h [x, .fn g [] []] = some ([x, .fn g [] []], h) := by simp [sealM, sealA_of_pure hx]
  have e2 : AV.keysL [x, .fn g [] []] = [] := by simp [AV.keysL, AV.keys, AV.keys_pure x hx]
  have e3 : AV.rnL (inK []) [x, .fn g [] []] = [x, .fn g [] []] := by simp [AV.rnL, AV.rn, rn_pure x hx]
  have e4 : sealA 20 hf v = some (v, hf) := sealA_of_pure hv
  have e5 : AV.keysL [v] = [] := by simp [AV.keysL, AV.keys_pure v hv]
  have e6 : ∀ φ, AV.rnL φ [v] = [v] := fun φ => by simp [AV.rnL, rn_pure v hv]
  have e7 : ∀ h : Heap, dd (reach h 3 []) = [] := fun h => rfl
  unfold opened
  rw [e1]
  simp only [e2, e7]
  unfold lendA
  simp only [lendH, closedH, e2, List.all_nil, and_self, if_true, e3, hr, backR, e4]
  unfold backV back backA
  simp only [List.length_nil, lentKs, List.range_zero, List.map_nil, List.nil_append, e5, e7, closedH, List.all_nil, and_self, if_true, e6, List.filter_nil, putAll]
theorem exm {x : Option (ARes × Heap)} {r} (h : x.map Prod.fst = some r) : ∃ hf, x = some (r, hf) := by
  cases x with
  | none => cases h
  | some p => obtain ⟨a, b⟩ := p; cases h; exact ⟨b, rfl⟩
/-- Reading constraints. -/
theorem get (out : List Int) (s : List AV) (m : Nat) (sw i j) (a b : Int) (he : Enc s m sw out i j) (hp : AV.pureL s = true) (ho : Con E 210 17 [elem s (some m)] (.tup [.agg [.int .i64 a, .int .i64 b], zf])) :
    Con E 230 18 [.sl false (bs out) (some out.length)] (.tup [.agg [.int .i64 a, .int .i64 b], .int .i64 0, .int .i64 0]) := by
  have run : ∀ k, 220 ≤ k → ∃ hf, aRun E k 43 [.sl false (bs out) (some out.length), .fn 17 [] []] [] = some (.ret (.tup [.agg [.int .i64 a, .int .i64 b], .int .i64 0, .int .i64 0]), hf) := by
    have one : ∃ hf, aRun E 220 43 [.sl false (bs out) (some out.length), .fn 17 [] []] [] = some (.ret (.tup [.agg [.int .i64 a, .int .i64 b], .int .i64 0, .int .i64 0]), hf) := by
      refine exm ?_
      rw [aRun_fn rfl E_fn43 rfl (Nat.le_of_ble_eq_true rfl), body_43, c43]
      have g := he.get
      have r := report (elem s (some m)) zf ⟨s, some m, rfl, hp⟩
      simp [↓s_seq, ↓s_reg, ↓s_regd, ↓s_cond, ↓s_block, ↓s_cons, ↓s_consG, s_nil, s_loop, s_round, s_lpn, s_lpe, s_lpr, firstReg, s_gt, s_gf, s_wb, s_wu, s_val, s_valN, s_skip, s_calls, s_callP, s_cax, lookR, flatR, pureKs, s_ret, s_rgx, s_sqn, s_sqr, s_sqe, s_cdb, s_bkn, s_bkr, s_bke, s_exit, s_ret', s_skip', s_finr, s_finn, s_fin1, s_fix, s_clean, s_gc0, o_tmp, o_int, o_bool, o_nil, o_str, o_fn, o_nil', l_hit, l_miss, l_nil, ol_nil, ol_cons, ol_some, x_move, x_assign, x_pick, pk_t, pk_f, x_bin, bn_s, x_un, x_extract, x_callF, cl_no, x_callB, x_conv, cvx, convA, frame0, binA, intOp, resL, resA, results1, sealA, sealLW, AV.pure, AV.pureL, keepT, x_alloc, x_box, bxx, x_build, bdx, x_buildSlice, bsx, x_buildSliceF, bsf, x_load, ldx, x_store, stx, x_slice, slx, x_fieldAddr, x_field, x_index, ixx, x_indexAddr, iax, x_makeSlice, msx, x_nilCheck, newK, genOf, setK, lookK, fillA, writeL, writeC, readC, conts, TyI.mk1, sliceA, boundsA, boundsB, fitsA, numA, indexAddrA, fieldAddrA, partA, fieldA, indexA, appendA, copyA, builtinA, AV.cells, AV.scal, chunk, gcH, reach, keysT, keepK, inKs, AV.keys, AV.keysL, Ty.isAgg, eq1, eqL, convA.go, ltI, w_u8, w_u32, w_u64, w_i64, w_fdiv, w_tdiv, w_tmod, IntKind.bits, unA, bs_pure, s_site, s_stxN, x_callT, clx, g, r, ho, hp, ↓pn, -Option.map_eq_some_iff]
    obtain ⟨hf, e⟩ := one
    exact fun k hk => ⟨hf, aRun_le E 220 k hk _ _ _ _ e⟩
  refine .of (g := []) (by simp [AV.pureL, AV.pure, bs_pure]) ?_
  rw [aCall_fnO rfl (E_fn18) (by simp [AV.pureL, AV.pure, bs_pure]) (Nat.le_of_ble_eq_true rfl) rfl, body_18, c18]
  obtain ⟨hf, e⟩ := run 229 (by omega)
  have o := fun slot h => opened_fn (slot := slot) (h := h) e (by simp [AV.pure, bs_pure]) (by simp [AV.pure, AV.pureL])
  simp [↓s_seq, ↓s_reg, ↓s_regd, ↓s_cond, ↓s_block, ↓s_cons, ↓s_consG, s_nil, s_loop, s_round, s_lpn, s_lpe, s_lpr, firstReg, s_gt, s_gf, s_wb, s_wu, s_val, s_valN, s_skip, s_calls, s_callP, s_cax, lookR, flatR, pureKs, s_ret, s_rgx, s_sqn, s_sqr, s_sqe, s_cdb, s_bkn, s_bkr, s_bke, s_exit, s_ret', s_skip', s_finr, s_finn, s_fin1, s_fix, s_clean, s_gc0, o_tmp, o_int, o_bool, o_nil, o_str, o_fn, o_nil', l_hit, l_miss, l_nil, ol_nil, ol_cons, ol_some, x_move, x_assign, x_pick, pk_t, pk_f, x_bin, bn_s, x_un, x_extract, x_callF, cl_no, x_callB, x_conv, cvx, convA, frame0, binA, intOp, resL, resA, results1, sealA, sealLW, AV.pure, AV.pureL, keepT, x_alloc, x_box, bxx, x_build, bdx, x_buildSlice, bsx, x_buildSliceF, bsf, x_load, ldx, x_store, stx, x_slice, slx, x_fieldAddr, x_field, x_index, ixx, x_indexAddr, iax, x_makeSlice, msx, x_nilCheck, newK, genOf, setK, lookK, fillA, writeL, writeC, readC, conts, TyI.mk1, sliceA, boundsA, boundsB, fitsA, numA, indexAddrA, fieldAddrA, partA, fieldA, indexA, appendA, copyA, builtinA, AV.cells, AV.scal, chunk, gcH, reach, keysT, keepK, inKs, AV.keys, AV.keysL, Ty.isAgg, eq1, eqL, convA.go, ltI, w_u8, w_u32, w_u64, w_i64, w_fdiv, w_tdiv, w_tmod, IntKind.bits, unA, bs_pure, s_site, s_stxO, o]
/-- Writing a skip, and reading it. -/
theorem clos (n : Int) (l : List Int) (hn : Num n l) : Con E 80 45 [skp (bs l) (some l.length)] (.tup [.int .i64 n, zf]) := by
  refine .of (g := []) (by simp [AV.pureL, AV.pure, bs_pure]) ?_
  rw [aCall_fn rfl (E_fn45) (by simp [AV.pureL, AV.pure, bs_pure]) (Nat.le_of_ble_eq_true rfl) rfl rfl, body_45, c45]
  have n1 := hn.num
  simp [↓s_seq, ↓s_reg, ↓s_regd, ↓s_cond, ↓s_block, ↓s_cons, ↓s_consG, s_nil, s_loop, s_round, s_lpn, s_lpe, s_lpr, firstReg, s_gt, s_gf, s_wb, s_wu, s_val, s_valN, s_skip, s_calls, s_callP, s_cax, lookR, flatR, pureKs, s_ret, s_rgx, s_sqn, s_sqr, s_sqe, s_cdb, s_bkn, s_bkr, s_bke, s_exit, s_ret', s_skip', s_finr, s_finn, s_fin1, s_fix, s_clean, s_gc0, o_tmp, o_int, o_bool, o_nil, o_str, o_fn, o_nil', l_hit, l_miss, l_nil, ol_nil, ol_cons, ol_some, x_move, x_assign, x_pick, pk_t, pk_f, x_bin, bn_s, x_un, x_extract, x_callF, cl_no, x_callB, x_conv, cvx, convA, frame0, binA, intOp, resL, resA, results1, sealA, sealLW, AV.pure, AV.pureL, keepT, x_alloc, x_box, bxx, x_build, bdx, x_buildSlice, bsx, x_buildSliceF, bsf, x_load, ldx, x_store, stx, x_slice, slx, x_fieldAddr, x_field, x_index, ixx, x_indexAddr, iax, x_makeSlice, msx, x_nilCheck, newK, genOf, setK, lookK, fillA, writeL, writeC, readC, conts, TyI.mk1, sliceA, boundsA, boundsB, fitsA, numA, indexAddrA, fieldAddrA, partA, fieldA, indexA, appendA, copyA, builtinA, AV.cells, AV.scal, chunk, gcH, reach, keysT, keepK, inKs, AV.keys, AV.keysL, Ty.isAgg, eq1, eqL, convA.go, ltI, w_u8, w_u32, w_u64, w_i64, w_fdiv, w_tdiv, w_tmod, IntKind.bits, unA, bs_pure, n1, R2.o_glob, fitZ, ↓pn]
theorem reportS (l c) : Con E 20 59 [skp (bs l) c, zf] (.tup [.int .i64 0, .int .i64 0]) := by
  refine .of (g := []) (by simp [AV.pureL, AV.pure, bs_pure]) ?_
  rw [aCall_fn rfl (E_fn59) (by simp [AV.pureL, AV.pure, bs_pure]) (Nat.le_of_ble_eq_true rfl) rfl rfl, body_59, c59]
  simp [↓s_seq, ↓s_reg, ↓s_regd, ↓s_cond, ↓s_block, ↓s_cons, ↓s_consG, s_nil, s_loop, s_round, s_lpn, s_lpe, s_lpr, firstReg, s_gt, s_gf, s_wb, s_wu, s_val, s_valN, s_skip, s_calls, s_callP, s_cax, lookR, flatR, pureKs, s_ret, s_rgx, s_sqn, s_sqr, s_sqe, s_cdb, s_bkn, s_bkr, s_bke, s_exit, s_ret', s_skip', s_finr, s_finn, s_fin1, s_fix, s_clean, s_gc0, o_tmp, o_int, o_bool, o_nil, o_str, o_fn, o_nil', l_hit, l_miss, l_nil, ol_nil, ol_cons, ol_some, x_move, x_assign, x_pick, pk_t, pk_f, x_bin, bn_s, x_un, x_extract, x_callF, cl_no, x_callB, x_conv, cvx, convA, frame0, binA, intOp, resL, resA, results1, sealA, sealLW, AV.pure, AV.pureL, keepT, x_alloc, x_box, bxx, x_build, bdx, x_buildSlice, bsx, x_buildSliceF, bsf, x_load, ldx, x_store, stx, x_slice, slx, x_fieldAddr, x_field, x_index, ixx, x_indexAddr, iax, x_makeSlice, msx, x_nilCheck, newK, genOf, setK, lookK, fillA, writeL, writeC, readC, conts, TyI.mk1, sliceA, boundsA, boundsB, fitsA, numA, indexAddrA, fieldAddrA, partA, fieldA, indexA, appendA, copyA, builtinA, AV.cells, AV.scal, chunk, gcH, reach, keysT, keepK, inKs, AV.keys, AV.keysL, Ty.isAgg, eq1, eqL, convA.go, ltI, w_u8, w_u32, w_u64, w_i64, w_fdiv, w_tdiv, w_tmod, IntKind.bits, unA, bs_pure]
theorem getS (n : Int) (l out : List Int) (hn : Num n l) (hs : Skp l out) : Con E 230 21 [.sl false (bs out) (some out.length)] (.tup [.int .i64 n, .int .i64 0, .int .i64 0]) := by
  have run : ∀ k, 220 ≤ k → ∃ hf, aRun E k 44 [.sl false (bs out) (some out.length), .fn 45 [] []] [] = some (.ret (.tup [.int .i64 n, .int .i64 0, .int .i64 0]), hf) := by
    have one : ∃ hf, aRun E 220 44 [.sl false (bs out) (some out.length), .fn 45 [] []] [] = some (.ret (.tup [.int .i64 n, .int .i64 0, .int .i64 0]), hf) := by
      refine exm ?_
      rw [aRun_fn rfl E_fn44 rfl (Nat.le_of_ble_eq_true rfl), body_44, c44]
      have g := hs.get
      have r := reportS l (some l.length)
      have ho := clos n l hn
      simp [↓s_seq, ↓s_reg, ↓s_regd, ↓s_cond, ↓s_block, ↓s_cons, ↓s_consG, s_nil, s_loop, s_round, s_lpn, s_lpe, s_lpr, firstReg, s_gt, s_gf, s_wb, s_wu, s_val, s_valN, s_skip, s_calls, s_callP, s_cax, lookR, flatR, pureKs, s_ret, s_rgx, s_sqn, s_sqr, s_sqe, s_cdb, s_bkn, s_bkr, s_bke, s_exit, s_ret', s_skip', s_finr, s_finn, s_fin1, s_fix, s_clean, s_gc0, o_tmp, o_int, o_bool, o_nil, o_str, o_fn, o_nil', l_hit, l_miss, l_nil, ol_nil, ol_cons, ol_some, x_move, x_assign, x_pick, pk_t, pk_f, x_bin, bn_s, x_un, x_extract, x_callF, cl_no, x_callB, x_conv, cvx, convA, frame0, binA, intOp, resL, resA, results1, sealA, sealLW, AV.pure, AV.pureL, keepT, x_alloc, x_box, bxx, x_build, bdx, x_buildSlice, bsx, x_buildSliceF, bsf, x_load, ldx, x_store, stx, x_slice, slx, x_fieldAddr, x_field, x_index, ixx, x_indexAddr, iax, x_makeSlice, msx, x_nilCheck, newK, genOf, setK, lookK, fillA, writeL, writeC, readC, conts, TyI.mk1, sliceA, boundsA, boundsB, fitsA, numA, indexAddrA, fieldAddrA, partA, fieldA, indexA, appendA, copyA, builtinA, AV.cells, AV.scal, chunk, gcH, reach, keysT, keepK, inKs, AV.keys, AV.keysL, Ty.isAgg, eq1, eqL, convA.go, ltI, w_u8, w_u32, w_u64, w_i64, w_fdiv, w_tdiv, w_tmod, IntKind.bits, unA, bs_pure, s_site, s_stxN, x_callT, clx, g, r, ho, ↓pn, -Option.map_eq_some_iff]
    obtain ⟨hf, e⟩ := one
    exact fun k hk => ⟨hf, aRun_le E 220 k hk _ _ _ _ e⟩
  refine .of (g := []) (by simp [AV.pureL, AV.pure, bs_pure]) ?_
  rw [aCall_fnO rfl (E_fn21) (by simp [AV.pureL, AV.pure, bs_pure]) (Nat.le_of_ble_eq_true rfl) rfl, body_21, c21]
  obtain ⟨hf, e⟩ := run 229 (by omega)
  have o := fun slot h => opened_fn (slot := slot) (h := h) e (by simp [AV.pure, bs_pure]) (by simp [AV.pure, AV.pureL])
  simp [↓s_seq, ↓s_reg, ↓s_regd, ↓s_cond, ↓s_block, ↓s_cons, ↓s_consG, s_nil, s_loop, s_round, s_lpn, s_lpe, s_lpr, firstReg, s_gt, s_gf, s_wb, s_wu, s_val, s_valN, s_skip, s_calls, s_callP, s_cax, lookR, flatR, pureKs, s_ret, s_rgx, s_sqn, s_sqr, s_sqe, s_cdb, s_bkn, s_bkr, s_bke, s_exit, s_ret', s_skip', s_finr, s_finn, s_fin1, s_fix, s_clean, s_gc0, o_tmp, o_int, o_bool, o_nil, o_str, o_fn, o_nil', l_hit, l_miss, l_nil, ol_nil, ol_cons, ol_some, x_move, x_assign, x_pick, pk_t, pk_f, x_bin, bn_s, x_un, x_extract, x_callF, cl_no, x_callB, x_conv, cvx, convA, frame0, binA, intOp, resL, resA, results1, sealA, sealLW, AV.pure, AV.pureL, keepT, x_alloc, x_box, bxx, x_build, bdx, x_buildSlice, bsx, x_buildSliceF, bsf, x_load, ldx, x_store, stx, x_slice, slx, x_fieldAddr, x_field, x_index, ixx, x_indexAddr, iax, x_makeSlice, msx, x_nilCheck, newK, genOf, setK, lookK, fillA, writeL, writeC, readC, conts, TyI.mk1, sliceA, boundsA, boundsB, fitsA, numA, indexAddrA, fieldAddrA, partA, fieldA, indexA, appendA, copyA, builtinA, AV.cells, AV.scal, chunk, gcH, reach, keysT, keepK, inKs, AV.keys, AV.keysL, Ty.isAgg, eq1, eqL, convA.go, ltI, w_u8, w_u32, w_u64, w_i64, w_fdiv, w_tdiv, w_tmod, IntKind.bits, unA, bs_pure, s_site, s_stxO, o]
theorem putS (n : Int) (l out : List Int) (hn : Num n l) (hs : Skp l out) (h0 : 0 ≤ n) (h1 : n ≤ 2147483647) : Con E 210 20 [.int .i64 n] (.tup [.sl false (bs out) (some out.length), .int .i64 0]) := by
  refine .of (g := []) rfl ?_
  rw [aCall_fn rfl (E_fn20) rfl (Nat.le_of_ble_eq_true rfl) rfl rfl, body_20, c20]
  have s := skip_yes n ⟨h0, h1⟩
  have p := hn.put
  have k := hs.put
  simp [↓s_seq, ↓s_reg, ↓s_regd, ↓s_cond, ↓s_block, ↓s_cons, ↓s_consG, s_nil, s_loop, s_round, s_lpn, s_lpe, s_lpr, firstReg, s_gt, s_gf, s_wb, s_wu, s_val, s_valN, s_skip, s_calls, s_callP, s_cax, lookR, flatR, pureKs, s_ret, s_rgx, s_sqn, s_sqr, s_sqe, s_cdb, s_bkn, s_bkr, s_bke, s_exit, s_ret', s_skip', s_finr, s_finn, s_fin1, s_fix, s_clean, s_gc0, o_tmp, o_int, o_bool, o_nil, o_str, o_fn, o_nil', l_hit, l_miss, l_nil, ol_nil, ol_cons, ol_some, x_move, x_assign, x_pick, pk_t, pk_f, x_bin, bn_s, x_un, x_extract, x_callF, cl_no, x_callB, x_conv, cvx, convA, frame0, binA, intOp, resL, resA, results1, sealA, sealLW, AV.pure, AV.pureL, keepT, x_alloc, x_box, bxx, x_build, bdx, x_buildSlice, bsx, x_buildSliceF, bsf, x_load, ldx, x_store, stx, x_slice, slx, x_fieldAddr, x_field, x_index, ixx, x_indexAddr, iax, x_makeSlice, msx, x_nilCheck, newK, genOf, setK, lookK, fillA, writeL, writeC, readC, conts, TyI.mk1, sliceA, boundsA, boundsB, fitsA, numA, indexAddrA, fieldAddrA, partA, fieldA, indexA, appendA, copyA, builtinA, AV.cells, AV.scal, chunk, gcH, reach, keysT, keepK, inKs, AV.keys, AV.keysL, Ty.isAgg, eq1, eqL, convA.go, ltI, w_u8, w_u32, w_u64, w_i64, w_fdiv, w_tdiv, w_tmod, IntKind.bits, unA, s, p, k, bs_pure, R2.o_glob]
/-- The encoding of constraints. -/
theorem put (a b : Int) (h : chkI a b = 0) (s m sw out i j) (he : Enc s m sw out i j) (hp : AV.pureL s = true) (h3 : Con E 60 11 [.agg [.int .i64 a, .int .i64 b]] (.tup [elem s (some m), .int .i64 0])) : Con E 210 12 [.agg [.int .i64 a, .int .i64 b]] (.tup [.sl false (bs out) (some out.length), .int .i64 0]) := by
  refine .of (g := []) rfl ?_
  rw [aCall_fn rfl (E_fn12) rfl (Nat.le_of_ble_eq_true rfl) rfl rfl, body_12, c12]
  have h4 := he.put
  simp [↓s_seq, ↓s_reg, ↓s_regd, ↓s_cond, ↓s_block, ↓s_cons, ↓s_consG, s_nil, s_loop, s_round, s_lpn, s_lpe, s_lpr, firstReg, s_gt, s_gf, s_wb, s_wu, s_val, s_valN, s_skip, s_calls, s_callP, s_cax, lookR, flatR, pureKs, s_ret, s_rgx, s_sqn, s_sqr, s_sqe, s_cdb, s_bkn, s_bkr, s_bke, s_exit, s_ret', s_skip', s_finr, s_finn, s_fin1, s_fix, s_clean, s_gc0, o_tmp, o_int, o_bool, o_nil, o_str, o_fn, o_nil', l_hit, l_miss, l_nil, ol_nil, ol_cons, ol_some, x_move, x_assign, x_pick, pk_t, pk_f, x_bin, bn_s, x_un, x_extract, x_callF, cl_no, x_callB, x_conv, cvx, convA, frame0, binA, intOp, resL, resA, results1, sealA, sealLW, AV.pure, AV.pureL, keepT, x_alloc, x_box, bxx, x_build, bdx, x_buildSlice, bsx, x_buildSliceF, bsf, x_load, ldx, x_store, stx, x_slice, slx, x_fieldAddr, x_field, x_index, ixx, x_indexAddr, iax, x_makeSlice, msx, x_nilCheck, newK, genOf, setK, lookK, fillA, writeL, writeC, readC, conts, TyI.mk1, sliceA, boundsA, boundsB, fitsA, numA, indexAddrA, fieldAddrA, partA, fieldA, indexA, appendA, copyA, builtinA, AV.cells, AV.scal, chunk, gcH, reach, keysT, keepK, inKs, AV.keys, AV.keysL, Ty.isAgg, eq1, eqL, convA.go, ltI, w_u8, w_u32, w_u64, w_i64, w_fdiv, w_tdiv, w_tmod, IntKind.bits, unA, hp, h3, h4, bs_pure]
theorem fault0 : Con E 200 19 [zf, zf] (.int .i64 1) := con rfl S5.fault0
end R13
