/- The encodings of constraints at the evaluator. No conditions. -/
import Derived.Test.YtbgmkcmailcciaaDoorR2
import Derived.Test.YtbgmkcmailcciaaDoorR3
import Derived.Test.YtbgmkcmailcciaaDoorR4
import Derived.Test.YtbgmkcmailcciaaDoorR5
import Derived.KernelRfl
open Ab Go TabC N2 R1 R2
set_option maxRecDepth 20000
set_option linter.unusedSimpArgs false
set_option linter.unusedVariables false
set_option maxHeartbeats 8000000
namespace R6
/-- Content octets of a skip. -/
def IsB (n : Int) (l : List AV) : Prop := ∃ k, (∃ x0, l = [.int .u8 x0] ∧ k = 1) ∨ (∃ x0 x1, l = [.int .u8 x0, .int .u8 x1] ∧ k = 2) ∨ (∃ x0 x1 x2, l = [.int .u8 x0, .int .u8 x1, .int .u8 x2] ∧ k = 3) ∨ (∃ x0 x1 x2 x3, l = [.int .u8 x0, .int .u8 x1, .int .u8 x2, .int .u8 x3] ∧ k = 4)
theorem put_int (n : Int) (h0 : 0 ≤ n) (h1 : n ≤ 2147483647) : ∃ l : List AV, IsB n l ∧ AV.pureL l = true ∧ Con E 40 33 [.int .i64 n] (.sl false l (some l.length)) := by
  by_cases c1 : n < 128
  · exact ⟨_, ⟨_, .inl ⟨_, rfl, rfl⟩⟩, rfl, put1 n h0 c1⟩
  by_cases c2 : n < 32768
  · exact ⟨_, ⟨_, .inr (.inl ⟨_, _, rfl, rfl⟩)⟩, rfl, put2 n (by omega) c2⟩
  by_cases c3 : n < 8388608
  · exact ⟨_, ⟨_, .inr (.inr (.inl ⟨_, _, _, rfl, rfl⟩))⟩, rfl, put3 n (by omega) c3⟩
  · exact ⟨_, ⟨_, .inr (.inr (.inr ⟨_, _, _, _, rfl, rfl⟩))⟩, rfl, put4 n (by omega) (by omega)⟩
theorem con {f a v} (hp : AV.pureL a = true) (h : aCall E 200 0 f a [] = some (.ret v, [])) : Con E 200 f a v := .of (g := []) hp h
theorem two {n m la lb} (ha : IsB n la) (hb : IsB m lb) : ∃ out c, Con E 200 35 [elem (.sl false [sub 0 la la.length, sub 1 lb lb.length] (some 2))] (.tup [.sl false out c, .int .i64 0]) ∧ AV.pureL out = true := by
  obtain ⟨_, ⟨_, rfl, _⟩ | ⟨_, _, rfl, _⟩ | ⟨_, _, _, rfl, _⟩ | ⟨_, _, _, _, rfl, _⟩⟩ := ha <;> obtain ⟨_, ⟨_, rfl, _⟩ | ⟨_, _, rfl, _⟩ | ⟨_, _, _, rfl, _⟩ | ⟨_, _, _, _, rfl, _⟩⟩ := hb
  · exact ⟨_, _, con rfl (R3.p11 _ _), rfl⟩
  · exact ⟨_, _, con rfl (R3.p12 _ _ _), rfl⟩
  · exact ⟨_, _, con rfl (R3.p13 _ _ _ _), rfl⟩
  · exact ⟨_, _, con rfl (R3.p14 _ _ _ _ _), rfl⟩
  · exact ⟨_, _, con rfl (R3.p21 _ _ _), rfl⟩
  · exact ⟨_, _, con rfl (R3.p22 _ _ _ _), rfl⟩
  · exact ⟨_, _, con rfl (R3.p23 _ _ _ _ _), rfl⟩
  · exact ⟨_, _, con rfl (R3.p24 _ _ _ _ _ _), rfl⟩
  · exact ⟨_, _, con rfl (R4.p31 _ _ _ _), rfl⟩
  · exact ⟨_, _, con rfl (R4.p32 _ _ _ _ _), rfl⟩
  · exact ⟨_, _, con rfl (R4.p33 _ _ _ _ _ _), rfl⟩
  · exact ⟨_, _, con rfl (R4.p34 _ _ _ _ _ _ _), rfl⟩
  · exact ⟨_, _, con rfl (R4.p41 _ _ _ _ _), rfl⟩
  · exact ⟨_, _, con rfl (R4.p42 _ _ _ _ _ _), rfl⟩
  · exact ⟨_, _, con rfl (R4.p43 _ _ _ _ _ _ _), rfl⟩
  · exact ⟨_, _, con rfl (R4.p44 _ _ _ _ _ _ _ _), rfl⟩
theorem one0 {n la} (ha : IsB n la) : ∃ out c, Con E 200 35 [elem (.sl false [sub 0 la la.length] (some 1))] (.tup [.sl false out c, .int .i64 0]) ∧ AV.pureL out = true := by
  obtain ⟨_, ⟨_, rfl, _⟩ | ⟨_, _, rfl, _⟩ | ⟨_, _, _, rfl, _⟩ | ⟨_, _, _, _, rfl, _⟩⟩ := ha
  · exact ⟨_, _, con rfl (R5.pa1 _), rfl⟩
  · exact ⟨_, _, con rfl (R5.pa2 _ _), rfl⟩
  · exact ⟨_, _, con rfl (R5.pa3 _ _ _), rfl⟩
  · exact ⟨_, _, con rfl (R5.pa4 _ _ _ _), rfl⟩
theorem one1 {n la} (ha : IsB n la) : ∃ out c, Con E 200 35 [elem (.sl false [sub 1 la la.length] (some 1))] (.tup [.sl false out c, .int .i64 0]) ∧ AV.pureL out = true := by
  obtain ⟨_, ⟨_, rfl, _⟩ | ⟨_, _, rfl, _⟩ | ⟨_, _, _, rfl, _⟩ | ⟨_, _, _, _, rfl, _⟩⟩ := ha
  · exact ⟨_, _, con rfl (R5.pb1 _), rfl⟩
  · exact ⟨_, _, con rfl (R5.pb2 _ _), rfl⟩
  · exact ⟨_, _, con rfl (R5.pb3 _ _ _), rfl⟩
  · exact ⟨_, _, con rfl (R5.pb4 _ _ _ _), rfl⟩
theorem skp {n la} (ha : IsB n la) : ∃ out c, Con E 200 35 [.agg [.int .u8 0, .bool false, .int .u32 2, .sl false la (some la.length), .sl true [] (some 0)]] (.tup [.sl false out c, .int .i64 0]) ∧ AV.pureL out = true := by
  obtain ⟨_, ⟨_, rfl, _⟩ | ⟨_, _, rfl, _⟩ | ⟨_, _, _, rfl, _⟩ | ⟨_, _, _, _, rfl, _⟩⟩ := ha
  · exact ⟨_, _, con rfl (R5.ps1 _), rfl⟩
  · exact ⟨_, _, con rfl (R5.ps2 _ _), rfl⟩
  · exact ⟨_, _, con rfl (R5.ps3 _ _ _), rfl⟩
  · exact ⟨_, _, con rfl (R5.ps4 _ _ _ _), rfl⟩
/-- The element of valid constraints, and its encoding. -/
theorem elem_ok (a b : Int) (h : chkI a b = 0) : ∃ l n out c, AV.pureL l = true ∧ AV.pureL out = true ∧ Con E 60 11 [.agg [.int .i64 a, .int .i64 b]] (.tup [elem (.sl false l n), .int .i64 0]) ∧ Con E 200 35 [elem (.sl false l n)] (.tup [.sl false out c, .int .i64 0]) := by
  have hh := h
  unfold chkI at hh
  split at hh; · cases hh
  split at hh; · cases hh
  split at hh; · cases hh
  by_cases ea : a = -1
  · subst ea
    by_cases eb : b = -1
    · subst eb; omega
    · obtain ⟨lb, ib, qb, pb⟩ := put_int b (by omega) (by omega)
      obtain ⟨out, c, k, q⟩ := one1 ib
      exact ⟨_, _, out, c, by simp [AV.pure, AV.pureL, qb], q, elem_b b h eb lb lb.length pb qb, k⟩
  · obtain ⟨la, ia, qa, pa⟩ := put_int a (by omega) (by omega)
    by_cases eb : b = -1
    · subst eb
      obtain ⟨out, c, k, q⟩ := one0 ia
      exact ⟨_, _, out, c, by simp [AV.pure, AV.pureL, qa], q, elem_a a h ea la la.length pa qa, k⟩
    · obtain ⟨lb, ib, qb, pb⟩ := put_int b (by omega) (by omega)
      obtain ⟨out, c, k, q⟩ := two ia ib
      exact ⟨_, _, out, c, by simp [AV.pure, AV.pureL, qa, qb], q, elem_ab a b h ea eb la lb la.length lb.length pa pb qa qb, k⟩
theorem put_ok (a b : Int) (h : chkI a b = 0) : ∃ l n out c, AV.pureL l = true ∧ AV.pureL out = true ∧ Con E 60 11 [.agg [.int .i64 a, .int .i64 b]] (.tup [elem (.sl false l n), .int .i64 0]) ∧ Con E 210 12 [.agg [.int .i64 a, .int .i64 b]] (.tup [.sl false out c, .int .i64 0]) := by
  obtain ⟨l, n, out, c, h1, h2, h3, h4⟩ := elem_ok a b h
  refine ⟨l, n, out, c, h1, h2, h3, .of (g := []) rfl ?_⟩
  rw [aCall_fn rfl (E_fn12) rfl (Nat.le_of_ble_eq_true rfl) rfl rfl, body_12, c12]
  simp [↓s_seq, ↓s_reg, ↓s_regd, ↓s_cond, ↓s_block, ↓s_cons, ↓s_consG, s_nil, s_loop, s_round, s_lpn, s_lpe, s_lpr, firstReg, s_gt, s_gf, s_wb, s_wu, s_val, s_valN, s_skip, s_calls, s_callP, s_cax, lookR, flatR, pureKs, s_ret, s_rgx, s_sqn, s_sqr, s_sqe, s_cdb, s_bkn, s_bkr, s_bke, s_exit, s_ret', s_skip', s_finr, s_finn, s_fin1, s_fix, s_clean, s_gc0, o_tmp, o_int, o_bool, o_nil, o_str, o_fn, o_nil', l_hit, l_miss, l_nil, ol_nil, ol_cons, ol_some, x_move, x_assign, x_pick, pk_t, pk_f, x_bin, bn_s, x_un, x_extract, x_callF, cl_no, x_callB, x_conv, cvx, convA, frame0, binA, intOp, resL, resA, results1, sealA, sealLW, AV.pure, AV.pureL, keepT, x_alloc, x_box, bxx, x_build, bdx, x_buildSlice, bsx, x_buildSliceF, bsf, x_load, ldx, x_store, stx, x_slice, slx, x_fieldAddr, x_field, x_index, ixx, x_indexAddr, iax, x_makeSlice, msx, x_nilCheck, newK, genOf, setK, lookK, fillA, writeL, writeC, readC, conts, TyI.mk1, sliceA, boundsA, boundsB, fitsA, numA, indexAddrA, fieldAddrA, partA, fieldA, indexA, appendA, copyA, builtinA, AV.cells, AV.scal, chunk, gcH, reach, keysT, keepK, inKs, AV.keys, AV.keysL, Ty.isAgg, eq1, eqL, convA.go, ltI, w_u8, w_u32, w_u64, w_i64, w_fdiv, w_tdiv, w_tmod, IntKind.bits, unA, h1, h2, h3, h4]
theorem put_bad (a b : Int) (h : ¬ chkI a b = 0) : Con E 210 12 [.agg [.int .i64 a, .int .i64 b]] (.tup [.sl true [] (some 0), .int .i64 (chkI a b)]) := by
  refine .of (g := []) rfl ?_
  rw [aCall_fn rfl (E_fn12) rfl (Nat.le_of_ble_eq_true rfl) rfl rfl, body_12, c12]
  have h' : (chkI a b != 0) = true := by simp [h]
  have eb := elem_bad a b h
  simp [↓s_seq, ↓s_reg, ↓s_regd, ↓s_cond, ↓s_block, ↓s_cons, ↓s_consG, s_nil, s_loop, s_round, s_lpn, s_lpe, s_lpr, firstReg, s_gt, s_gf, s_wb, s_wu, s_val, s_valN, s_skip, s_calls, s_callP, s_cax, lookR, flatR, pureKs, s_ret, s_rgx, s_sqn, s_sqr, s_sqe, s_cdb, s_bkn, s_bkr, s_bke, s_exit, s_ret', s_skip', s_finr, s_finn, s_fin1, s_fix, s_clean, s_gc0, o_tmp, o_int, o_bool, o_nil, o_str, o_fn, o_nil', l_hit, l_miss, l_nil, ol_nil, ol_cons, ol_some, x_move, x_assign, x_pick, pk_t, pk_f, x_bin, bn_s, x_un, x_extract, x_callF, cl_no, x_callB, x_conv, cvx, convA, frame0, binA, intOp, resL, resA, results1, sealA, sealLW, AV.pure, AV.pureL, keepT, x_alloc, x_box, bxx, x_build, bdx, x_buildSlice, bsx, x_buildSliceF, bsf, x_load, ldx, x_store, stx, x_slice, slx, x_fieldAddr, x_field, x_index, ixx, x_indexAddr, iax, x_makeSlice, msx, x_nilCheck, newK, genOf, setK, lookK, fillA, writeL, writeC, readC, conts, TyI.mk1, sliceA, boundsA, boundsB, fitsA, numA, indexAddrA, fieldAddrA, partA, fieldA, indexA, appendA, copyA, builtinA, AV.cells, AV.scal, chunk, gcH, reach, keysT, keepK, inKs, AV.keys, AV.keysL, Ty.isAgg, eq1, eqL, convA.go, ltI, w_u8, w_u32, w_u64, w_i64, w_fdiv, w_tdiv, w_tmod, IntKind.bits, unA, eb, h, h']
theorem skip_bad (a : Int) (h : a < 0 ∨ 2147483647 < a) : Con E 210 20 [.int .i64 a] (.tup [.sl true [] (some 0), .int .i64 1]) := by
  refine .of (g := []) rfl ?_
  rw [aCall_fn rfl (E_fn20) rfl (Nat.le_of_ble_eq_true rfl) rfl rfl, body_20, c20]
  have s := skip_no a h
  simp [↓s_seq, ↓s_reg, ↓s_regd, ↓s_cond, ↓s_block, ↓s_cons, ↓s_consG, s_nil, s_loop, s_round, s_lpn, s_lpe, s_lpr, firstReg, s_gt, s_gf, s_wb, s_wu, s_val, s_valN, s_skip, s_calls, s_callP, s_cax, lookR, flatR, pureKs, s_ret, s_rgx, s_sqn, s_sqr, s_sqe, s_cdb, s_bkn, s_bkr, s_bke, s_exit, s_ret', s_skip', s_finr, s_finn, s_fin1, s_fix, s_clean, s_gc0, o_tmp, o_int, o_bool, o_nil, o_str, o_fn, o_nil', l_hit, l_miss, l_nil, ol_nil, ol_cons, ol_some, x_move, x_assign, x_pick, pk_t, pk_f, x_bin, bn_s, x_un, x_extract, x_callF, cl_no, x_callB, x_conv, cvx, convA, frame0, binA, intOp, resL, resA, results1, sealA, sealLW, AV.pure, AV.pureL, keepT, x_alloc, x_box, bxx, x_build, bdx, x_buildSlice, bsx, x_buildSliceF, bsf, x_load, ldx, x_store, stx, x_slice, slx, x_fieldAddr, x_field, x_index, ixx, x_indexAddr, iax, x_makeSlice, msx, x_nilCheck, newK, genOf, setK, lookK, fillA, writeL, writeC, readC, conts, TyI.mk1, sliceA, boundsA, boundsB, fitsA, numA, indexAddrA, fieldAddrA, partA, fieldA, indexA, appendA, copyA, builtinA, AV.cells, AV.scal, chunk, gcH, reach, keysT, keepK, inKs, AV.keys, AV.keysL, Ty.isAgg, eq1, eqL, convA.go, ltI, w_u8, w_u32, w_u64, w_i64, w_fdiv, w_tdiv, w_tmod, IntKind.bits, unA, s]
theorem skip_ok (a : Int) (h0 : 0 ≤ a) (h1 : a ≤ 2147483647) : ∃ out c, AV.pureL out = true ∧ Con E 210 20 [.int .i64 a] (.tup [.sl false out c, .int .i64 0]) := by
  obtain ⟨la, ia, qa, pa⟩ := put_int a h0 h1
  obtain ⟨out, c, k, q⟩ := skp ia
  refine ⟨out, c, q, .of (g := []) rfl ?_⟩
  rw [aCall_fn rfl (E_fn20) rfl (Nat.le_of_ble_eq_true rfl) rfl rfl, body_20, c20]
  have s := skip_yes a ⟨h0, h1⟩
  simp [↓s_seq, ↓s_reg, ↓s_regd, ↓s_cond, ↓s_block, ↓s_cons, ↓s_consG, s_nil, s_loop, s_round, s_lpn, s_lpe, s_lpr, firstReg, s_gt, s_gf, s_wb, s_wu, s_val, s_valN, s_skip, s_calls, s_callP, s_cax, lookR, flatR, pureKs, s_ret, s_rgx, s_sqn, s_sqr, s_sqe, s_cdb, s_bkn, s_bkr, s_bke, s_exit, s_ret', s_skip', s_finr, s_finn, s_fin1, s_fix, s_clean, s_gc0, o_tmp, o_int, o_bool, o_nil, o_str, o_fn, o_nil', l_hit, l_miss, l_nil, ol_nil, ol_cons, ol_some, x_move, x_assign, x_pick, pk_t, pk_f, x_bin, bn_s, x_un, x_extract, x_callF, cl_no, x_callB, x_conv, cvx, convA, frame0, binA, intOp, resL, resA, results1, sealA, sealLW, AV.pure, AV.pureL, keepT, x_alloc, x_box, bxx, x_build, bdx, x_buildSlice, bsx, x_buildSliceF, bsf, x_load, ldx, x_store, stx, x_slice, slx, x_fieldAddr, x_field, x_index, ixx, x_indexAddr, iax, x_makeSlice, msx, x_nilCheck, newK, genOf, setK, lookK, fillA, writeL, writeC, readC, conts, TyI.mk1, sliceA, boundsA, boundsB, fitsA, numA, indexAddrA, fieldAddrA, partA, fieldA, indexA, appendA, copyA, builtinA, AV.cells, AV.scal, chunk, gcH, reach, keysT, keepK, inKs, AV.keys, AV.keysL, Ty.isAgg, eq1, eqL, convA.go, ltI, w_u8, w_u32, w_u64, w_i64, w_fdiv, w_tdiv, w_tmod, IntKind.bits, unA, s, pa, qa, k, q, o_glob]
theorem same0 : Con E 200 15 [zero, zero] (.int .i64 1) := con rfl (by kernel_rfl)
end R6
