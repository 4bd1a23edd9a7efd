/- The reference's PutNamed at the evaluator. No conditions. -/
import Derived.Test.YtalmnhdnclmhbaaT29
open Ab Go TabB T1 T2 T3 T4 T5 T6 T12 T14
set_option maxRecDepth 20000
set_option linter.unusedSimpArgs false
set_option linter.unusedVariables false
set_option maxHeartbeats 16000000
namespace T30
def b30 : Code := match c30 with
  | .seq _ (.seq _ (.seq (.block _ (.loop b)) _)) => b
  | _ => .skip
abbrev S0 (w : Int) : St := ⟨[(0, .int .u64 w), (3, .sl true [] (some 0))], []⟩
abbrev S (w : Int) (m n : Nat) (xs : List AV) : St := ⟨[(0, .int .u64 w), (3, .ref (1, 11, m) 0 n none)], [((1, 11, m), ⟨xs, true, true, false, 1, false⟩)]⟩
theorem first (call sc) (k1 : Nat) (w : Int) (h0 : 0 < w) (h1 : w < 18446744073709551616) :
    aCode E call sc k1 1 fn30 b30 (cleanS 1 ((firstReg b30).bind fn30.head) (S0 w)) = some (.normal, S (w / 2) 0 1 [.int .i64 (w % 2)]) := by
  have q1 : w.tmod 2 = w % 2 := Int.tmod_eq_emod_of_nonneg (by omega)
  have q2 : w.tdiv 2 = w / 2 := Int.tdiv_eq_ediv_of_nonneg (by omega)
  have w1 := w64 (w % 2) (by omega) (by omega)
  have w2 : w / 2 % 18446744073709551616 = w / 2 := Int.emod_eq_of_lt (by omega) (by omega)
  simp [b30, c30, ↓s_seq, ↓s_reg, ↓s_regd, ↓s_cond, ↓s_block, ↓s_cons, ↓s_consG, s_nil, s_loop, s_round, s_lpn, s_lpe, s_lpr, firstReg, s_gt, s_gf, s_wb, s_wu, s_val, s_valN, s_skip, s_calls, s_callP, s_cax, lookR, flatR, pureKs, s_ret, s_rgx, s_sqn, s_sqr, s_sqe, s_cdb, s_bkn, s_bkr, s_bke, s_exit, s_ret', s_skip', s_finr, s_finn, s_fin1, s_fix, s_clean, s_gc0, o_tmp, o_int, o_bool, o_nil, o_str, o_fn, o_nil', l_hit, l_miss, l_nil, ol_nil, ol_cons, ol_some, x_move, x_assign, x_pick, pk_t, pk_f, x_bin, bn_s, x_un, x_extract, x_callF, cl_no, x_callB, x_conv, cvx, convA, frame0, binA, intOp, resL, resA, results1, sealA, sealLW, AV.pure, AV.pureL, keepT, x_alloc, x_box, bxx, x_build, bdx, x_buildSlice, bsx, x_buildSliceF, bsf, x_load, ldx, x_store, stx, x_slice, slx, x_fieldAddr, x_field, x_index, ixx, x_indexAddr, iax, x_makeSlice, msx, x_nilCheck, newK, genOf, setK, lookK, fillA, writeL, writeC, readC, conts, TyI.mk1, sliceA, boundsA, boundsB, fitsA, numA, indexAddrA, fieldAddrA, partA, fieldA, indexA, appendA, copyA, builtinA, AV.cells, AV.scal, chunk, gcH, reach, keysT, keepK, inKs, AV.keys, AV.keysL, Ty.isAgg, eq1, eqL, convA.go, ltI, w_u8, w_u32, w_u64, w_i64, w_fdiv, w_tdiv, w_tmod, IntKind.bits, unA, h0, q1, q2, w1, w2]
theorem round (call sc) (k1 : Nat) (w : Int) (m n : Nat) (xs : List AV) (h0 : 0 < w) (h1 : w < 18446744073709551616) (hn : xs.length = n) (hm : n < 1000) (hs : xs.all AV.scal = true) (kk : AV.keysL xs = []) :
    aCode E call sc k1 1 fn30 b30 (cleanS 1 ((firstReg b30).bind fn30.head) (S w m n xs)) = some (.normal, S (w / 2) (m + 1) (n + 1) (xs ++ [.int .i64 (w % 2)])) := by
  have q1 : w.tmod 2 = w % 2 := Int.tmod_eq_emod_of_nonneg (by omega)
  have q2 : w.tdiv 2 = w / 2 := Int.tdiv_eq_ediv_of_nonneg (by omega)
  have w1 := w64 (w % 2) (by omega) (by omega)
  have w2 : w / 2 % 18446744073709551616 = w / 2 := Int.emod_eq_of_lt (by omega) (by omega)
  have cp : (n + 1) * 8 ≤ 70368744177664 := by omega
  have k2 : AV.keysL (xs ++ [.int .i64 (w % 2)]) = [] := by rw [kL_app, kk]; rfl
  simp [b30, c30, ↓s_seq, ↓s_reg, ↓s_regd, ↓s_cond, ↓s_block, ↓s_cons, ↓s_consG, s_nil, s_loop, s_round, s_lpn, s_lpe, s_lpr, firstReg, s_gt, s_gf, s_wb, s_wu, s_val, s_valN, s_skip, s_calls, s_callP, s_cax, lookR, flatR, pureKs, s_ret, s_rgx, s_sqn, s_sqr, s_sqe, s_cdb, s_bkn, s_bkr, s_bke, s_exit, s_ret', s_skip', s_finr, s_finn, s_fin1, s_fix, s_clean, s_gc0, o_tmp, o_int, o_bool, o_nil, o_str, o_fn, o_nil', l_hit, l_miss, l_nil, ol_nil, ol_cons, ol_some, x_move, x_assign, x_pick, pk_t, pk_f, x_bin, bn_s, x_un, x_extract, x_callF, cl_no, x_callB, x_conv, cvx, convA, frame0, binA, intOp, resL, resA, results1, sealA, sealLW, AV.pure, AV.pureL, keepT, x_alloc, x_box, bxx, x_build, bdx, x_buildSlice, bsx, x_buildSliceF, bsf, x_load, ldx, x_store, stx, x_slice, slx, x_fieldAddr, x_field, x_index, ixx, x_indexAddr, iax, x_makeSlice, msx, x_nilCheck, newK, genOf, setK, lookK, fillA, writeL, writeC, readC, conts, TyI.mk1, sliceA, boundsA, boundsB, fitsA, numA, indexAddrA, fieldAddrA, partA, fieldA, indexA, appendA, copyA, builtinA, AV.cells, AV.scal, chunk, gcH, reach, keysT, keepK, inKs, AV.keys, AV.keysL, Ty.isAgg, eq1, eqL, convA.go, ltI, w_u8, w_u32, w_u64, w_i64, w_fdiv, w_tdiv, w_tmod, IntKind.bits, unA, h0, q1, q2, w1, w2, hn, hs, kk, cp, k2]
theorem fin (call sc) (k1 : Nat) (m n : Nat) (xs : List AV) (kk : AV.keysL xs = []) :
    aCode E call sc k1 1 fn30 b30 (cleanS 1 ((firstReg b30).bind fn30.head) (S 0 m n xs)) = some (.exit 0, ⟨[(0, .int .u64 0), (3, .ref (1, 11, m) 0 n none), (5, .bool false)], [((1, 11, m), ⟨xs, true, true, false, 1, false⟩)]⟩) := by
  simp [b30, c30, ↓s_seq, ↓s_reg, ↓s_regd, ↓s_cond, ↓s_block, ↓s_cons, ↓s_consG, s_nil, s_loop, s_round, s_lpn, s_lpe, s_lpr, firstReg, s_gt, s_gf, s_wb, s_wu, s_val, s_valN, s_skip, s_calls, s_callP, s_cax, lookR, flatR, pureKs, s_ret, s_rgx, s_sqn, s_sqr, s_sqe, s_cdb, s_bkn, s_bkr, s_bke, s_exit, s_ret', s_skip', s_finr, s_finn, s_fin1, s_fix, s_clean, s_gc0, o_tmp, o_int, o_bool, o_nil, o_str, o_fn, o_nil', l_hit, l_miss, l_nil, ol_nil, ol_cons, ol_some, x_move, x_assign, x_pick, pk_t, pk_f, x_bin, bn_s, x_un, x_extract, x_callF, cl_no, x_callB, x_conv, cvx, convA, frame0, binA, intOp, resL, resA, results1, sealA, sealLW, AV.pure, AV.pureL, keepT, x_alloc, x_box, bxx, x_build, bdx, x_buildSlice, bsx, x_buildSliceF, bsf, x_load, ldx, x_store, stx, x_slice, slx, x_fieldAddr, x_field, x_index, ixx, x_indexAddr, iax, x_makeSlice, msx, x_nilCheck, newK, genOf, setK, lookK, fillA, writeL, writeC, readC, conts, TyI.mk1, sliceA, boundsA, boundsB, fitsA, numA, indexAddrA, fieldAddrA, partA, fieldA, indexA, appendA, copyA, builtinA, AV.cells, AV.scal, chunk, gcH, reach, keysT, keepK, inKs, AV.keys, AV.keysL, Ty.isAgg, eq1, eqL, convA.go, ltI, w_u8, w_u32, w_u64, w_i64, w_fdiv, w_tdiv, w_tmod, IntKind.bits, unA, kk]
theorem W_pos {l : List Int} (hb : isBit l) (hl : l ≠ []) (hz : l[l.length - 1]? = some 1) : 0 < W l := by
  have := T23.W_ge l hb (List.length_pos_iff.2 hl) hz
  have p : (0 : Int) < 2 ^ (l.length - 1) := Int.pow_pos (by decide)
  omega
theorem W_drop (l : List Int) (j : Nat) (x : Int) (e : l[j]? = some x) : W (l.drop j) = 2 * W (l.drop (j + 1)) + x := by
  obtain ⟨h, hv⟩ := List.getElem?_eq_some_iff.1 e
  rw [List.drop_eq_getElem_cons h, hv]; rfl
theorem loop (call sc) (k1 k : Nat) (l : List Int) (hb : isBit l) (hl : l.length ≤ 64) (h0 : 0 < l.length) (hz : l[l.length - 1]? = some 1) (hk : l.length < k) :
    aLoop (aCode E call sc k1 1 fn30 b30) (cleanS 1 ((firstReg b30).bind fn30.head)) k (S0 (W l)) = some (.exit 0, ⟨[(0, .int .u64 0), (3, .ref (1, 11, l.length - 1) 0 l.length none), (5, .bool false)], [((1, 11, l.length - 1), ⟨is l, true, true, false, 1, false⟩)]⟩) := by
  have lt64 : ∀ j, W (l.drop j) < 18446744073709551616 := fun j => by
    have hd : isBit (l.drop j) := fun z hz => hb z (List.mem_of_mem_drop hz)
    have lt := W_lt hd
    have ld : (l.drop j).length ≤ 64 := by rw [List.length_drop]; omega
    have pw : (2 : Int) ^ (l.drop j).length ≤ 2 ^ 64 := by
      have := Nat.pow_le_pow_right (n := 2) (by decide) ld
      exact_mod_cast this
    have p64 : (2 : Int) ^ 64 = 18446744073709551616 := by decide
    omega
  have pos : ∀ j, j < l.length → 0 < W (l.drop j) := fun j hj => by
    refine W_pos (fun z hz => hb z (List.mem_of_mem_drop hz)) ?_ ?_
    · intro e; have := congrArg List.length e; rw [List.length_drop] at this; simp at this; omega
    · rw [List.getElem?_drop, List.length_drop, show j + (l.length - j - 1) = l.length - 1 by omega]; exact hz
  refine loopR (fun j => if j = 0 then S0 (W l) else S (W (l.drop j)) (j - 1) j (is (l.take j))) l.length (by simp) (fun j hj => ?_) ?_ (by simp) hk
  · obtain ⟨x, e⟩ : ∃ x, l[j]? = some x := ⟨l[j], by simp⟩
    have hx := hb x (List.mem_of_getElem? e)
    have wd := W_drop l j x e
    have m2 : W (l.drop j) % 2 = x := by rw [wd]; omega
    have d2 : W (l.drop j) / 2 = W (l.drop (j + 1)) := by rw [wd]; omega
    have tk : l.take (j + 1) = l.take j ++ [x] := by rw [List.take_add_one, e]; rfl
    have p := pos j hj
    rw [if_neg (by omega : ¬ j + 1 = 0), tk, is_app]
    by_cases hj0 : j = 0
    · subst hj0
      rw [if_pos rfl]
      have f := first call sc k1 (W l) p (by have := lt64 0; rwa [List.drop_zero] at this)
      rw [List.drop_zero] at m2 d2
      rw [m2, d2] at f
      simpa [is] using f
    · rw [if_neg hj0]
      have r := round call sc k1 (W (l.drop j)) (j - 1) j (is (l.take j)) p (lt64 j) (by rw [is_length, List.length_take]; omega) (by omega) (is_scal _) (is_keys _)
      rw [m2, d2, show j - 1 + 1 = j by omega] at r
      simpa [is] using r
  · rw [if_neg (by omega : ¬ l.length = 0), List.take_length, List.drop_length]
    exact fin call sc k1 _ _ _ (is_keys _)
theorem put0 : Con E 600 30 [.int .u64 0] (.sl false (bs [0]) (some 1)) := by
  refine .of (g := []) rfl ?_
  rw [aCall_fn rfl (E_fn30) rfl (Nat.le_of_ble_eq_true rfl) rfl rfl, body_30, c30]
  have P := T29.put_nil true (some 0)
  simp [↓s_seq, ↓s_reg, ↓s_regd, ↓s_cond, ↓s_block, ↓s_cons, ↓s_consG, s_nil, s_loop, s_round, s_lpn, s_lpe, s_lpr, firstReg, s_gt, s_gf, s_wb, s_wu, s_val, s_valN, s_skip, s_calls, s_callP, s_cax, lookR, flatR, pureKs, s_ret, s_rgx, s_sqn, s_sqr, s_sqe, s_cdb, s_bkn, s_bkr, s_bke, s_exit, s_ret', s_skip', s_finr, s_finn, s_fin1, s_fix, s_clean, s_gc0, o_tmp, o_int, o_bool, o_nil, o_str, o_fn, o_nil', l_hit, l_miss, l_nil, ol_nil, ol_cons, ol_some, x_move, x_assign, x_pick, pk_t, pk_f, x_bin, bn_s, x_un, x_extract, x_callF, cl_no, x_callB, x_conv, cvx, convA, frame0, binA, intOp, resL, resA, results1, sealA, sealLW, AV.pure, AV.pureL, keepT, x_alloc, x_box, bxx, x_build, bdx, x_buildSlice, bsx, x_buildSliceF, bsf, x_load, ldx, x_store, stx, x_slice, slx, x_fieldAddr, x_field, x_index, ixx, x_indexAddr, iax, x_makeSlice, msx, x_nilCheck, newK, genOf, setK, lookK, fillA, writeL, writeC, readC, conts, TyI.mk1, sliceA, boundsA, boundsB, fitsA, numA, indexAddrA, fieldAddrA, partA, fieldA, indexA, appendA, copyA, builtinA, AV.cells, AV.scal, chunk, gcH, reach, keysT, keepK, inKs, AV.keys, AV.keysL, Ty.isAgg, eq1, eqL, convA.go, ltI, w_u8, w_u32, w_u64, w_i64, w_fdiv, w_tdiv, w_tmod, IntKind.bits, unA, P, bs]
theorem put (l : List Int) (hb : isBit l) (h0 : 0 < l.length) (hl : l.length ≤ 64) (hz : l[l.length - 1]? = some 1) (x : Int) (hx : (8 - (l.length : Int) % 8) % 8 = x) : Con E 600 30 [.int .u64 (W l)] (.sl false (bs (x :: bytesOf l)) none) := by
  refine .of (g := []) rfl ?_
  rw [aCall_fn rfl (E_fn30) rfl (Nat.le_of_ble_eq_true rfl) rfl rfl, body_30, c30]
  have P : ∀ c, Con E 300 35 [.sl false (is l) c] (.sl false (bs (x :: bytesOf l)) none) := fun c => T29.put_con false c l hb (by omega) h0 x hx 300 (by omega)
  have lp := loop (aCall E 599) (dcall (aRun E 599)) 599 599 l hb hl h0 hz (by omega)
  simp [b30, c30, firstReg] at lp
  have sl : ∀ h cap, lookK h (1, 11, l.length - 1) = some ⟨is l, true, true, false, 1, false⟩ → sealA 20 h (.ref (1, 11, l.length - 1) 0 l.length cap) = some (.sl false (is l) cap, setK h (1, 11, l.length - 1) ⟨is l, true, false, false, 1, false⟩) := fun h cap hk => seal_row (n := 18) hk (is_length l).symm (is_pure l)
  have kk := is_keys l
  have pp := is_pure l
  simp [↓s_seq, ↓s_reg, ↓s_regd, ↓s_cond, ↓s_block, ↓s_cons, ↓s_consG, s_nil, s_loop, s_round, s_lpn, s_lpe, s_lpr, firstReg, s_gt, s_gf, s_wb, s_wu, s_val, s_valN, s_skip, s_calls, s_callP, s_cax, lookR, flatR, pureKs, s_ret, s_rgx, s_sqn, s_sqr, s_sqe, s_cdb, s_bkn, s_bkr, s_bke, s_exit, s_ret', s_skip', s_finr, s_finn, s_fin1, s_fix, s_clean, s_gc0, o_tmp, o_int, o_bool, o_nil, o_str, o_fn, o_nil', l_hit, l_miss, l_nil, ol_nil, ol_cons, ol_some, x_move, x_assign, x_pick, pk_t, pk_f, x_bin, bn_s, x_un, x_extract, x_callF, cl_no, x_callB, x_conv, cvx, convA, frame0, binA, intOp, resL, resA, results1, sealA, sealLW, AV.pure, AV.pureL, keepT, x_alloc, x_box, bxx, x_build, bdx, x_buildSlice, bsx, x_buildSliceF, bsf, x_load, ldx, x_store, stx, x_slice, slx, x_fieldAddr, x_field, x_index, ixx, x_indexAddr, iax, x_makeSlice, msx, x_nilCheck, newK, genOf, setK, lookK, fillA, writeL, writeC, readC, conts, TyI.mk1, sliceA, boundsA, boundsB, fitsA, numA, indexAddrA, fieldAddrA, partA, fieldA, indexA, appendA, copyA, builtinA, AV.cells, AV.scal, chunk, gcH, reach, keysT, keepK, inKs, AV.keys, AV.keysL, Ty.isAgg, eq1, eqL, convA.go, ltI, w_u8, w_u32, w_u64, w_i64, w_fdiv, w_tdiv, w_tmod, IntKind.bits, unA, lp, sl, P, kk, pp, bs_pure, -s_round, -sealA, -sealLW]
end T30
