/- The law LengthsBack at the evaluator. No conditions. -/
import Derived.Test.YtalmnhdnclmhbaaM10
import Derived.Test.YtalmnhdnclmhbaaB34
open Ab Go TabB M1 M2 M3 M5 M7 M8 M9 M10
set_option maxRecDepth 20000
set_option linter.unusedSimpArgs false
set_option linter.unusedVariables false
set_option maxHeartbeats 2000000
namespace M12
theorem bs_sc (xs : List Int) : (∀ x, x ∈ bs xs → AV.scal x = true) = True := eq_true (List.all_eq_true.1 (bs_scal xs))
theorem sc_int (k : IntKind) (n : Int) : AV.scal (.int k n) = true := rfl

theorem back_long (n left : Int) (f : Bool) (xs : List Int) (c : Option Nat) (h : (10 : Int) < (xs.length : Int)) : Con E 60 4 [.int .u32 n, .sl f (bs xs) c, .int .u8 left] (.bool true) := by
  refine .of (g := []) (by simp [AV.pureL, AV.pure, bs_pure]) ?_
  rw [aCall_fn rfl (E_fn4) (by simp [AV.pureL, AV.pure, bs_pure]) (Nat.le_of_ble_eq_true rfl) rfl rfl, body_4, c4]
  simp [↓s_seq, ↓s_reg, ↓s_regd, ↓s_cond, ↓s_block, ↓s_cons, ↓s_consG, s_nil, s_loop, s_round, s_lpn, s_lpe, s_lpr, firstReg, s_gt, s_gf, s_wb, s_wu, s_val, s_valN, s_skip, s_calls, s_callP, s_cax, s_ret, s_rgx, s_sqn, s_sqr, s_sqe, s_cdb, s_bkn, s_bkr, s_bke, s_exit, s_ret', s_skip', s_finr, s_finn, s_fin1, s_fix, s_clean, s_gc0, o_tmp, o_int, o_bool, o_nil, o_str, o_fn, o_nil', l_hit, l_miss, l_nil, ol_nil, ol_cons, ol_some, x_move, x_assign, x_pick, pk_t, pk_f, x_bin, bn_s, x_un, x_extract, x_callF, cl_no, x_callB, x_conv, cvx, convA, frame0, binA, intOp, resL, resA, results1, sealA, sealLW, AV.pure, AV.pureL, keepT, x_alloc, x_box, bxx, x_build, bdx, x_buildSlice, bsx, x_load, ldx, x_store, stx, x_slice, slx, x_fieldAddr, x_field, x_index, ixx, x_indexAddr, iax, x_makeSlice, msx, x_nilCheck, newK, genOf, setK, lookK, fillA, writeL, writeC, readC, conts, TyI.mk1, sliceA, boundsA, boundsB, fitsA, numA, indexAddrA, fieldAddrA, partA, fieldA, indexA, appendA, copyA, builtinA, AV.cells, chunk, gcH, reach, keysT, keepK, inKs, AV.keys, AV.keysL, Ty.isAgg, eq1, eqL, convA.go, ltI, w_u8, w_u32, w_u64, w_i64, w_fdiv, w_tdiv, w_tmod, IntKind.bits, unA, sc_int, bs_scal, ↓bs_sc, bs_nil, bs_cons, bs_length, bs_pure, bs_cells, bs_all, h, lives]

theorem back_1_0 (n left v : Int) (f : Bool) (xs : List Int) (c : Option Nat) (h : (xs.length : Int) ≤ 10) (hn : n.tmod 16777216 = v) (h0 : 0 ≤ v) (h1 : v ≤ 127) (l0 : 0 ≤ left) (l1 : left < 256) (hl : left.tmod 1 = 0) : Con E 60 4 [.int .u32 n, .sl f (bs xs) c, .int .u8 left] (.bool true) := by
  refine .of (g := []) (by simp [AV.pureL, AV.pure, bs_pure]) ?_
  rw [aCall_fn rfl (E_fn4) (by simp [AV.pureL, AV.pure, bs_pure]) (Nat.le_of_ble_eq_true rfl) rfl rfl, body_4, c4]
  have wv : IntKind.i64.wrap v = v := w_i64 _ (by omega) (by omega)
  have wu : IntKind.u32.wrap v = v := by rw [w_u32]; omega
  have wl : IntKind.i64.wrap left = left := w_i64 _ (by omega) (by omega)
  have h2 : ¬ (10 : Int) < (xs.length : Int) := by omega
  have g := get_B false none v xs h0 h1
  have gv : v = v := by omega
  have rd := read false ([v] ++ xs) none v 1 0 rfl g
  have rp := read false [] (some 1) 0 0 7 rfl (get_A false (some 1))
  simp only [bs_nil, bs_cons, List.cons_append, List.nil_append] at rd rp
  have q1 : 1 + xs.length ≤ 70368744177664 := by omega
  have q2 : xs.length + 1 ≤ 70368744177664 := by omega
  have sb : sealA 20 [((1, 35, 0), ⟨[], true, true, true, 1, false⟩), ((1, 37, 0), ⟨[.int .u8 v], false, true, false, 1, false⟩), ((1, 39, 0), ⟨.int .u8 v :: bs xs, true, true, false, 1, false⟩)] (.ref (1, 39, 0) 0 (1 + xs.length) none) = some (.sl false (.int .u8 v :: bs xs) none, [((1, 35, 0), ⟨[], true, true, true, 1, false⟩), ((1, 37, 0), ⟨[.int .u8 v], false, true, false, 1, false⟩), ((1, 39, 0), ⟨.int .u8 v :: bs xs, true, false, false, 1, false⟩)]) :=
    seal_bytes (n := 18) (off := 0) (len := 1 + xs.length) (o := ⟨bs ([v] ++ xs), true, true, false, 1, false⟩) (ys := [v] ++ xs) rfl rfl rfl rfl (by show 0 + (1 + xs.length) ≤ (bs ([v] ++ xs)).length; rw [bs_length]; simp; omega) (by
      have e : 1 + xs.length = (bs ([v] ++ xs)).length := by rw [bs_length]; simp; omega
      show List.take (1 + xs.length) (bs ([v] ++ xs)) = bs ([v] ++ xs)
      rw [e, List.take_length])
  simp [↓s_seq, ↓s_reg, ↓s_regd, ↓s_cond, ↓s_block, ↓s_cons, ↓s_consG, s_nil, s_loop, s_round, s_lpn, s_lpe, s_lpr, firstReg, s_gt, s_gf, s_wb, s_wu, s_val, s_valN, s_skip, s_calls, s_callP, s_cax, s_ret, s_rgx, s_sqn, s_sqr, s_sqe, s_cdb, s_bkn, s_bkr, s_bke, s_exit, s_ret', s_skip', s_finr, s_finn, s_fin1, s_fix, s_clean, s_gc0, o_tmp, o_int, o_bool, o_nil, o_str, o_fn, o_nil', l_hit, l_miss, l_nil, ol_nil, ol_cons, ol_some, x_move, x_assign, x_pick, pk_t, pk_f, x_bin, bn_s, x_un, x_extract, x_callF, cl_no, x_callB, x_conv, cvx, convA, frame0, binA, intOp, resL, resA, results1, sealA, sealLW, AV.pure, AV.pureL, keepT, x_alloc, x_box, bxx, x_build, bdx, x_buildSlice, bsx, x_load, ldx, x_store, stx, x_slice, slx, x_fieldAddr, x_field, x_index, ixx, x_indexAddr, iax, x_makeSlice, msx, x_nilCheck, newK, genOf, setK, lookK, fillA, writeL, writeC, readC, conts, TyI.mk1, sliceA, boundsA, boundsB, fitsA, numA, indexAddrA, fieldAddrA, partA, fieldA, indexA, appendA, copyA, builtinA, AV.cells, chunk, gcH, reach, keysT, keepK, inKs, AV.keys, AV.keysL, Ty.isAgg, eq1, eqL, convA.go, ltI, w_u8, w_u32, w_u64, w_i64, w_fdiv, w_tdiv, w_tmod, IntKind.bits, unA, sc_int, bs_scal, ↓bs_sc, ↓sb, bs_nil, bs_cons, bs_length, bs_pure, bs_cells, bs_all, hn, wv, wu, wl, h2, hl, put_1 v h0 h1, rd, rp, q1, q2, lives]

theorem back_2_0 (n left v : Int) (f : Bool) (xs : List Int) (c : Option Nat) (h : (xs.length : Int) ≤ 10) (hn : n.tmod 16777216 = v) (h0 : 128 ≤ v) (h1 : v ≤ 255) (l0 : 0 ≤ left) (l1 : left < 256) (hl : left.tmod 2 = 0) : Con E 60 4 [.int .u32 n, .sl f (bs xs) c, .int .u8 left] (.bool true) := by
  refine .of (g := []) (by simp [AV.pureL, AV.pure, bs_pure]) ?_
  rw [aCall_fn rfl (E_fn4) (by simp [AV.pureL, AV.pure, bs_pure]) (Nat.le_of_ble_eq_true rfl) rfl rfl, body_4, c4]
  have wv : IntKind.i64.wrap v = v := w_i64 _ (by omega) (by omega)
  have wu : IntKind.u32.wrap v = v := by rw [w_u32]; omega
  have wl : IntKind.i64.wrap left = left := w_i64 _ (by omega) (by omega)
  have h2 : ¬ (10 : Int) < (xs.length : Int) := by omega
  have g := get_E1 false none v xs h0 (by omega)
  have gv : v = v := by omega
  have rd := read false ([129, v] ++ xs) none v 2 0 rfl g
  have rp := read false [] (some 2) 0 0 7 rfl (get_A false (some 2))
  simp only [bs_nil, bs_cons, List.cons_append, List.nil_append] at rd rp
  have q1 : 2 + xs.length ≤ 70368744177664 := by omega
  have q2 : xs.length + 2 ≤ 70368744177664 := by omega
  have sb : sealA 20 [((1, 35, 0), ⟨[], true, true, true, 1, false⟩), ((1, 37, 0), ⟨[.int .u8 129, .int .u8 v], false, true, false, 1, false⟩), ((1, 39, 0), ⟨.int .u8 129 :: .int .u8 v :: bs xs, true, true, false, 1, false⟩)] (.ref (1, 39, 0) 0 (2 + xs.length) none) = some (.sl false (.int .u8 129 :: .int .u8 v :: bs xs) none, [((1, 35, 0), ⟨[], true, true, true, 1, false⟩), ((1, 37, 0), ⟨[.int .u8 129, .int .u8 v], false, true, false, 1, false⟩), ((1, 39, 0), ⟨.int .u8 129 :: .int .u8 v :: bs xs, true, false, false, 1, false⟩)]) :=
    seal_bytes (n := 18) (off := 0) (len := 2 + xs.length) (o := ⟨bs ([129, v] ++ xs), true, true, false, 1, false⟩) (ys := [129, v] ++ xs) rfl rfl rfl rfl (by show 0 + (2 + xs.length) ≤ (bs ([129, v] ++ xs)).length; rw [bs_length]; simp; omega) (by
      have e : 2 + xs.length = (bs ([129, v] ++ xs)).length := by rw [bs_length]; simp; omega
      show List.take (2 + xs.length) (bs ([129, v] ++ xs)) = bs ([129, v] ++ xs)
      rw [e, List.take_length])
  simp [↓s_seq, ↓s_reg, ↓s_regd, ↓s_cond, ↓s_block, ↓s_cons, ↓s_consG, s_nil, s_loop, s_round, s_lpn, s_lpe, s_lpr, firstReg, s_gt, s_gf, s_wb, s_wu, s_val, s_valN, s_skip, s_calls, s_callP, s_cax, s_ret, s_rgx, s_sqn, s_sqr, s_sqe, s_cdb, s_bkn, s_bkr, s_bke, s_exit, s_ret', s_skip', s_finr, s_finn, s_fin1, s_fix, s_clean, s_gc0, o_tmp, o_int, o_bool, o_nil, o_str, o_fn, o_nil', l_hit, l_miss, l_nil, ol_nil, ol_cons, ol_some, x_move, x_assign, x_pick, pk_t, pk_f, x_bin, bn_s, x_un, x_extract, x_callF, cl_no, x_callB, x_conv, cvx, convA, frame0, binA, intOp, resL, resA, results1, sealA, sealLW, AV.pure, AV.pureL, keepT, x_alloc, x_box, bxx, x_build, bdx, x_buildSlice, bsx, x_load, ldx, x_store, stx, x_slice, slx, x_fieldAddr, x_field, x_index, ixx, x_indexAddr, iax, x_makeSlice, msx, x_nilCheck, newK, genOf, setK, lookK, fillA, writeL, writeC, readC, conts, TyI.mk1, sliceA, boundsA, boundsB, fitsA, numA, indexAddrA, fieldAddrA, partA, fieldA, indexA, appendA, copyA, builtinA, AV.cells, chunk, gcH, reach, keysT, keepK, inKs, AV.keys, AV.keysL, Ty.isAgg, eq1, eqL, convA.go, ltI, w_u8, w_u32, w_u64, w_i64, w_fdiv, w_tdiv, w_tmod, IntKind.bits, unA, sc_int, bs_scal, ↓bs_sc, ↓sb, bs_nil, bs_cons, bs_length, bs_pure, bs_cells, bs_all, hn, wv, wu, wl, h2, hl, put_2 v h0 h1, rd, rp, q1, q2, lives]

theorem back_2_1 (n left v : Int) (f : Bool) (xs : List Int) (c : Option Nat) (h : (xs.length : Int) ≤ 10) (hn : n.tmod 16777216 = v) (h0 : 128 ≤ v) (h1 : v ≤ 255) (l0 : 0 ≤ left) (l1 : left < 256) (hl : left.tmod 2 = 1) : Con E 60 4 [.int .u32 n, .sl f (bs xs) c, .int .u8 left] (.bool true) := by
  refine .of (g := []) (by simp [AV.pureL, AV.pure, bs_pure]) ?_
  rw [aCall_fn rfl (E_fn4) (by simp [AV.pureL, AV.pure, bs_pure]) (Nat.le_of_ble_eq_true rfl) rfl rfl, body_4, c4]
  have wv : IntKind.i64.wrap v = v := w_i64 _ (by omega) (by omega)
  have wu : IntKind.u32.wrap v = v := by rw [w_u32]; omega
  have wl : IntKind.i64.wrap left = left := w_i64 _ (by omega) (by omega)
  have h2 : ¬ (10 : Int) < (xs.length : Int) := by omega
  have g := get_E1 false none v xs h0 (by omega)
  have gv : v = v := by omega
  have rd := read false ([129, v] ++ xs) none v 2 0 rfl g
  have rp := read false [129] (some 2) 0 0 7 rfl (get_D1 false (some 2))
  simp only [bs_nil, bs_cons, List.cons_append, List.nil_append] at rd rp
  have q1 : 2 + xs.length ≤ 70368744177664 := by omega
  have q2 : xs.length + 2 ≤ 70368744177664 := by omega
  have sb : sealA 20 [((1, 35, 0), ⟨[], true, true, true, 1, false⟩), ((1, 37, 0), ⟨[.int .u8 129, .int .u8 v], false, true, false, 1, false⟩), ((1, 39, 0), ⟨.int .u8 129 :: .int .u8 v :: bs xs, true, true, false, 1, false⟩)] (.ref (1, 39, 0) 0 (2 + xs.length) none) = some (.sl false (.int .u8 129 :: .int .u8 v :: bs xs) none, [((1, 35, 0), ⟨[], true, true, true, 1, false⟩), ((1, 37, 0), ⟨[.int .u8 129, .int .u8 v], false, true, false, 1, false⟩), ((1, 39, 0), ⟨.int .u8 129 :: .int .u8 v :: bs xs, true, false, false, 1, false⟩)]) :=
    seal_bytes (n := 18) (off := 0) (len := 2 + xs.length) (o := ⟨bs ([129, v] ++ xs), true, true, false, 1, false⟩) (ys := [129, v] ++ xs) rfl rfl rfl rfl (by show 0 + (2 + xs.length) ≤ (bs ([129, v] ++ xs)).length; rw [bs_length]; simp; omega) (by
      have e : 2 + xs.length = (bs ([129, v] ++ xs)).length := by rw [bs_length]; simp; omega
      show List.take (2 + xs.length) (bs ([129, v] ++ xs)) = bs ([129, v] ++ xs)
      rw [e, List.take_length])
  simp [↓s_seq, ↓s_reg, ↓s_regd, ↓s_cond, ↓s_block, ↓s_cons, ↓s_consG, s_nil, s_loop, s_round, s_lpn, s_lpe, s_lpr, firstReg, s_gt, s_gf, s_wb, s_wu, s_val, s_valN, s_skip, s_calls, s_callP, s_cax, s_ret, s_rgx, s_sqn, s_sqr, s_sqe, s_cdb, s_bkn, s_bkr, s_bke, s_exit, s_ret', s_skip', s_finr, s_finn, s_fin1, s_fix, s_clean, s_gc0, o_tmp, o_int, o_bool, o_nil, o_str, o_fn, o_nil', l_hit, l_miss, l_nil, ol_nil, ol_cons, ol_some, x_move, x_assign, x_pick, pk_t, pk_f, x_bin, bn_s, x_un, x_extract, x_callF, cl_no, x_callB, x_conv, cvx, convA, frame0, binA, intOp, resL, resA, results1, sealA, sealLW, AV.pure, AV.pureL, keepT, x_alloc, x_box, bxx, x_build, bdx, x_buildSlice, bsx, x_load, ldx, x_store, stx, x_slice, slx, x_fieldAddr, x_field, x_index, ixx, x_indexAddr, iax, x_makeSlice, msx, x_nilCheck, newK, genOf, setK, lookK, fillA, writeL, writeC, readC, conts, TyI.mk1, sliceA, boundsA, boundsB, fitsA, numA, indexAddrA, fieldAddrA, partA, fieldA, indexA, appendA, copyA, builtinA, AV.cells, chunk, gcH, reach, keysT, keepK, inKs, AV.keys, AV.keysL, Ty.isAgg, eq1, eqL, convA.go, ltI, w_u8, w_u32, w_u64, w_i64, w_fdiv, w_tdiv, w_tmod, IntKind.bits, unA, sc_int, bs_scal, ↓bs_sc, ↓sb, bs_nil, bs_cons, bs_length, bs_pure, bs_cells, bs_all, hn, wv, wu, wl, h2, hl, put_2 v h0 h1, rd, rp, q1, q2, lives]

theorem back_3_0 (n left v : Int) (f : Bool) (xs : List Int) (c : Option Nat) (h : (xs.length : Int) ≤ 10) (hn : n.tmod 16777216 = v) (h0 : 256 ≤ v) (h1 : v ≤ 65535) (l0 : 0 ≤ left) (l1 : left < 256) (hl : left.tmod 3 = 0) : Con E 60 4 [.int .u32 n, .sl f (bs xs) c, .int .u8 left] (.bool true) := by
  refine .of (g := []) (by simp [AV.pureL, AV.pure, bs_pure]) ?_
  rw [aCall_fn rfl (E_fn4) (by simp [AV.pureL, AV.pure, bs_pure]) (Nat.le_of_ble_eq_true rfl) rfl rfl, body_4, c4]
  have wv : IntKind.i64.wrap v = v := w_i64 _ (by omega) (by omega)
  have wu : IntKind.u32.wrap v = v := by rw [w_u32]; omega
  have wl : IntKind.i64.wrap left = left := w_i64 _ (by omega) (by omega)
  have h2 : ¬ (10 : Int) < (xs.length : Int) := by omega
  have g := get_E2 false none (v / 256) (v % 256) xs (by omega) (by omega) (by omega) (by omega)
  have gv : 256 * (v / 256) + v % 256 = v := by omega
  rw [gv] at g
  have rd := read false ([130, v / 256, v % 256] ++ xs) none v 3 0 rfl g
  have rp := read false [] (some 3) 0 0 7 rfl (get_A false (some 3))
  simp only [bs_nil, bs_cons, List.cons_append, List.nil_append] at rd rp
  have q1 : 3 + xs.length ≤ 70368744177664 := by omega
  have q2 : xs.length + 3 ≤ 70368744177664 := by omega
  have sb : sealA 20 [((1, 35, 0), ⟨[], true, true, true, 1, false⟩), ((1, 37, 0), ⟨[.int .u8 130, .int .u8 (v / 256), .int .u8 (v % 256)], false, true, false, 1, false⟩), ((1, 39, 0), ⟨.int .u8 130 :: .int .u8 (v / 256) :: .int .u8 (v % 256) :: bs xs, true, true, false, 1, false⟩)] (.ref (1, 39, 0) 0 (3 + xs.length) none) = some (.sl false (.int .u8 130 :: .int .u8 (v / 256) :: .int .u8 (v % 256) :: bs xs) none, [((1, 35, 0), ⟨[], true, true, true, 1, false⟩), ((1, 37, 0), ⟨[.int .u8 130, .int .u8 (v / 256), .int .u8 (v % 256)], false, true, false, 1, false⟩), ((1, 39, 0), ⟨.int .u8 130 :: .int .u8 (v / 256) :: .int .u8 (v % 256) :: bs xs, true, false, false, 1, false⟩)]) :=
    seal_bytes (n := 18) (off := 0) (len := 3 + xs.length) (o := ⟨bs ([130, v / 256, v % 256] ++ xs), true, true, false, 1, false⟩) (ys := [130, v / 256, v % 256] ++ xs) rfl rfl rfl rfl (by show 0 + (3 + xs.length) ≤ (bs ([130, v / 256, v % 256] ++ xs)).length; rw [bs_length]; simp; omega) (by
      have e : 3 + xs.length = (bs ([130, v / 256, v % 256] ++ xs)).length := by rw [bs_length]; simp; omega
      show List.take (3 + xs.length) (bs ([130, v / 256, v % 256] ++ xs)) = bs ([130, v / 256, v % 256] ++ xs)
      rw [e, List.take_length])
  simp [↓s_seq, ↓s_reg, ↓s_regd, ↓s_cond, ↓s_block, ↓s_cons, ↓s_consG, s_nil, s_loop, s_round, s_lpn, s_lpe, s_lpr, firstReg, s_gt, s_gf, s_wb, s_wu, s_val, s_valN, s_skip, s_calls, s_callP, s_cax, s_ret, s_rgx, s_sqn, s_sqr, s_sqe, s_cdb, s_bkn, s_bkr, s_bke, s_exit, s_ret', s_skip', s_finr, s_finn, s_fin1, s_fix, s_clean, s_gc0, o_tmp, o_int, o_bool, o_nil, o_str, o_fn, o_nil', l_hit, l_miss, l_nil, ol_nil, ol_cons, ol_some, x_move, x_assign, x_pick, pk_t, pk_f, x_bin, bn_s, x_un, x_extract, x_callF, cl_no, x_callB, x_conv, cvx, convA, frame0, binA, intOp, resL, resA, results1, sealA, sealLW, AV.pure, AV.pureL, keepT, x_alloc, x_box, bxx, x_build, bdx, x_buildSlice, bsx, x_load, ldx, x_store, stx, x_slice, slx, x_fieldAddr, x_field, x_index, ixx, x_indexAddr, iax, x_makeSlice, msx, x_nilCheck, newK, genOf, setK, lookK, fillA, writeL, writeC, readC, conts, TyI.mk1, sliceA, boundsA, boundsB, fitsA, numA, indexAddrA, fieldAddrA, partA, fieldA, indexA, appendA, copyA, builtinA, AV.cells, chunk, gcH, reach, keysT, keepK, inKs, AV.keys, AV.keysL, Ty.isAgg, eq1, eqL, convA.go, ltI, w_u8, w_u32, w_u64, w_i64, w_fdiv, w_tdiv, w_tmod, IntKind.bits, unA, sc_int, bs_scal, ↓bs_sc, ↓sb, bs_nil, bs_cons, bs_length, bs_pure, bs_cells, bs_all, hn, wv, wu, wl, h2, hl, put_3 v h0 h1, rd, rp, q1, q2, lives]

theorem back_3_1 (n left v : Int) (f : Bool) (xs : List Int) (c : Option Nat) (h : (xs.length : Int) ≤ 10) (hn : n.tmod 16777216 = v) (h0 : 256 ≤ v) (h1 : v ≤ 65535) (l0 : 0 ≤ left) (l1 : left < 256) (hl : left.tmod 3 = 1) : Con E 60 4 [.int .u32 n, .sl f (bs xs) c, .int .u8 left] (.bool true) := by
  refine .of (g := []) (by simp [AV.pureL, AV.pure, bs_pure]) ?_
  rw [aCall_fn rfl (E_fn4) (by simp [AV.pureL, AV.pure, bs_pure]) (Nat.le_of_ble_eq_true rfl) rfl rfl, body_4, c4]
  have wv : IntKind.i64.wrap v = v := w_i64 _ (by omega) (by omega)
  have wu : IntKind.u32.wrap v = v := by rw [w_u32]; omega
  have wl : IntKind.i64.wrap left = left := w_i64 _ (by omega) (by omega)
  have h2 : ¬ (10 : Int) < (xs.length : Int) := by omega
  have g := get_E2 false none (v / 256) (v % 256) xs (by omega) (by omega) (by omega) (by omega)
  have gv : 256 * (v / 256) + v % 256 = v := by omega
  rw [gv] at g
  have rd := read false ([130, v / 256, v % 256] ++ xs) none v 3 0 rfl g
  have rp := read false [130] (some 3) 0 0 7 rfl (get_D2 false (some 3))
  simp only [bs_nil, bs_cons, List.cons_append, List.nil_append] at rd rp
  have q1 : 3 + xs.length ≤ 70368744177664 := by omega
  have q2 : xs.length + 3 ≤ 70368744177664 := by omega
  have sb : sealA 20 [((1, 35, 0), ⟨[], true, true, true, 1, false⟩), ((1, 37, 0), ⟨[.int .u8 130, .int .u8 (v / 256), .int .u8 (v % 256)], false, true, false, 1, false⟩), ((1, 39, 0), ⟨.int .u8 130 :: .int .u8 (v / 256) :: .int .u8 (v % 256) :: bs xs, true, true, false, 1, false⟩)] (.ref (1, 39, 0) 0 (3 + xs.length) none) = some (.sl false (.int .u8 130 :: .int .u8 (v / 256) :: .int .u8 (v % 256) :: bs xs) none, [((1, 35, 0), ⟨[], true, true, true, 1, false⟩), ((1, 37, 0), ⟨[.int .u8 130, .int .u8 (v / 256), .int .u8 (v % 256)], false, true, false, 1, false⟩), ((1, 39, 0), ⟨.int .u8 130 :: .int .u8 (v / 256) :: .int .u8 (v % 256) :: bs xs, true, false, false, 1, false⟩)]) :=
    seal_bytes (n := 18) (off := 0) (len := 3 + xs.length) (o := ⟨bs ([130, v / 256, v % 256] ++ xs), true, true, false, 1, false⟩) (ys := [130, v / 256, v % 256] ++ xs) rfl rfl rfl rfl (by show 0 + (3 + xs.length) ≤ (bs ([130, v / 256, v % 256] ++ xs)).length; rw [bs_length]; simp; omega) (by
      have e : 3 + xs.length = (bs ([130, v / 256, v % 256] ++ xs)).length := by rw [bs_length]; simp; omega
      show List.take (3 + xs.length) (bs ([130, v / 256, v % 256] ++ xs)) = bs ([130, v / 256, v % 256] ++ xs)
      rw [e, List.take_length])
  simp [↓s_seq, ↓s_reg, ↓s_regd, ↓s_cond, ↓s_block, ↓s_cons, ↓s_consG, s_nil, s_loop, s_round, s_lpn, s_lpe, s_lpr, firstReg, s_gt, s_gf, s_wb, s_wu, s_val, s_valN, s_skip, s_calls, s_callP, s_cax, s_ret, s_rgx, s_sqn, s_sqr, s_sqe, s_cdb, s_bkn, s_bkr, s_bke, s_exit, s_ret', s_skip', s_finr, s_finn, s_fin1, s_fix, s_clean, s_gc0, o_tmp, o_int, o_bool, o_nil, o_str, o_fn, o_nil', l_hit, l_miss, l_nil, ol_nil, ol_cons, ol_some, x_move, x_assign, x_pick, pk_t, pk_f, x_bin, bn_s, x_un, x_extract, x_callF, cl_no, x_callB, x_conv, cvx, convA, frame0, binA, intOp, resL, resA, results1, sealA, sealLW, AV.pure, AV.pureL, keepT, x_alloc, x_box, bxx, x_build, bdx, x_buildSlice, bsx, x_load, ldx, x_store, stx, x_slice, slx, x_fieldAddr, x_field, x_index, ixx, x_indexAddr, iax, x_makeSlice, msx, x_nilCheck, newK, genOf, setK, lookK, fillA, writeL, writeC, readC, conts, TyI.mk1, sliceA, boundsA, boundsB, fitsA, numA, indexAddrA, fieldAddrA, partA, fieldA, indexA, appendA, copyA, builtinA, AV.cells, chunk, gcH, reach, keysT, keepK, inKs, AV.keys, AV.keysL, Ty.isAgg, eq1, eqL, convA.go, ltI, w_u8, w_u32, w_u64, w_i64, w_fdiv, w_tdiv, w_tmod, IntKind.bits, unA, sc_int, bs_scal, ↓bs_sc, ↓sb, bs_nil, bs_cons, bs_length, bs_pure, bs_cells, bs_all, hn, wv, wu, wl, h2, hl, put_3 v h0 h1, rd, rp, q1, q2, lives]

theorem back_3_2 (n left v : Int) (f : Bool) (xs : List Int) (c : Option Nat) (h : (xs.length : Int) ≤ 10) (hn : n.tmod 16777216 = v) (h0 : 256 ≤ v) (h1 : v ≤ 65535) (l0 : 0 ≤ left) (l1 : left < 256) (hl : left.tmod 3 = 2) : Con E 60 4 [.int .u32 n, .sl f (bs xs) c, .int .u8 left] (.bool true) := by
  refine .of (g := []) (by simp [AV.pureL, AV.pure, bs_pure]) ?_
  rw [aCall_fn rfl (E_fn4) (by simp [AV.pureL, AV.pure, bs_pure]) (Nat.le_of_ble_eq_true rfl) rfl rfl, body_4, c4]
  have wv : IntKind.i64.wrap v = v := w_i64 _ (by omega) (by omega)
  have wu : IntKind.u32.wrap v = v := by rw [w_u32]; omega
  have wl : IntKind.i64.wrap left = left := w_i64 _ (by omega) (by omega)
  have h2 : ¬ (10 : Int) < (xs.length : Int) := by omega
  have g := get_E2 false none (v / 256) (v % 256) xs (by omega) (by omega) (by omega) (by omega)
  have gv : 256 * (v / 256) + v % 256 = v := by omega
  rw [gv] at g
  have rd := read false ([130, v / 256, v % 256] ++ xs) none v 3 0 rfl g
  have rp := read false [130, v / 256] (some 3) 0 0 7 rfl (get_D2a false (some 3) (v / 256))
  simp only [bs_nil, bs_cons, List.cons_append, List.nil_append] at rd rp
  have q1 : 3 + xs.length ≤ 70368744177664 := by omega
  have q2 : xs.length + 3 ≤ 70368744177664 := by omega
  have sb : sealA 20 [((1, 35, 0), ⟨[], true, true, true, 1, false⟩), ((1, 37, 0), ⟨[.int .u8 130, .int .u8 (v / 256), .int .u8 (v % 256)], false, true, false, 1, false⟩), ((1, 39, 0), ⟨.int .u8 130 :: .int .u8 (v / 256) :: .int .u8 (v % 256) :: bs xs, true, true, false, 1, false⟩)] (.ref (1, 39, 0) 0 (3 + xs.length) none) = some (.sl false (.int .u8 130 :: .int .u8 (v / 256) :: .int .u8 (v % 256) :: bs xs) none, [((1, 35, 0), ⟨[], true, true, true, 1, false⟩), ((1, 37, 0), ⟨[.int .u8 130, .int .u8 (v / 256), .int .u8 (v % 256)], false, true, false, 1, false⟩), ((1, 39, 0), ⟨.int .u8 130 :: .int .u8 (v / 256) :: .int .u8 (v % 256) :: bs xs, true, false, false, 1, false⟩)]) :=
    seal_bytes (n := 18) (off := 0) (len := 3 + xs.length) (o := ⟨bs ([130, v / 256, v % 256] ++ xs), true, true, false, 1, false⟩) (ys := [130, v / 256, v % 256] ++ xs) rfl rfl rfl rfl (by show 0 + (3 + xs.length) ≤ (bs ([130, v / 256, v % 256] ++ xs)).length; rw [bs_length]; simp; omega) (by
      have e : 3 + xs.length = (bs ([130, v / 256, v % 256] ++ xs)).length := by rw [bs_length]; simp; omega
      show List.take (3 + xs.length) (bs ([130, v / 256, v % 256] ++ xs)) = bs ([130, v / 256, v % 256] ++ xs)
      rw [e, List.take_length])
  simp [↓s_seq, ↓s_reg, ↓s_regd, ↓s_cond, ↓s_block, ↓s_cons, ↓s_consG, s_nil, s_loop, s_round, s_lpn, s_lpe, s_lpr, firstReg, s_gt, s_gf, s_wb, s_wu, s_val, s_valN, s_skip, s_calls, s_callP, s_cax, s_ret, s_rgx, s_sqn, s_sqr, s_sqe, s_cdb, s_bkn, s_bkr, s_bke, s_exit, s_ret', s_skip', s_finr, s_finn, s_fin1, s_fix, s_clean, s_gc0, o_tmp, o_int, o_bool, o_nil, o_str, o_fn, o_nil', l_hit, l_miss, l_nil, ol_nil, ol_cons, ol_some, x_move, x_assign, x_pick, pk_t, pk_f, x_bin, bn_s, x_un, x_extract, x_callF, cl_no, x_callB, x_conv, cvx, convA, frame0, binA, intOp, resL, resA, results1, sealA, sealLW, AV.pure, AV.pureL, keepT, x_alloc, x_box, bxx, x_build, bdx, x_buildSlice, bsx, x_load, ldx, x_store, stx, x_slice, slx, x_fieldAddr, x_field, x_index, ixx, x_indexAddr, iax, x_makeSlice, msx, x_nilCheck, newK, genOf, setK, lookK, fillA, writeL, writeC, readC, conts, TyI.mk1, sliceA, boundsA, boundsB, fitsA, numA, indexAddrA, fieldAddrA, partA, fieldA, indexA, appendA, copyA, builtinA, AV.cells, chunk, gcH, reach, keysT, keepK, inKs, AV.keys, AV.keysL, Ty.isAgg, eq1, eqL, convA.go, ltI, w_u8, w_u32, w_u64, w_i64, w_fdiv, w_tdiv, w_tmod, IntKind.bits, unA, sc_int, bs_scal, ↓bs_sc, ↓sb, bs_nil, bs_cons, bs_length, bs_pure, bs_cells, bs_all, hn, wv, wu, wl, h2, hl, put_3 v h0 h1, rd, rp, q1, q2, lives]

theorem back_4_0 (n left v : Int) (f : Bool) (xs : List Int) (c : Option Nat) (h : (xs.length : Int) ≤ 10) (hn : n.tmod 16777216 = v) (h0 : 65536 ≤ v) (h1 : v ≤ 16777215) (l0 : 0 ≤ left) (l1 : left < 256) (hl : left.tmod 4 = 0) : Con E 60 4 [.int .u32 n, .sl f (bs xs) c, .int .u8 left] (.bool true) := by
  refine .of (g := []) (by simp [AV.pureL, AV.pure, bs_pure]) ?_
  rw [aCall_fn rfl (E_fn4) (by simp [AV.pureL, AV.pure, bs_pure]) (Nat.le_of_ble_eq_true rfl) rfl rfl, body_4, c4]
  have wv : IntKind.i64.wrap v = v := w_i64 _ (by omega) (by omega)
  have wu : IntKind.u32.wrap v = v := by rw [w_u32]; omega
  have wl : IntKind.i64.wrap left = left := w_i64 _ (by omega) (by omega)
  have h2 : ¬ (10 : Int) < (xs.length : Int) := by omega
  have g := get_E3 false none (v / 65536) (v / 256 % 256) (v % 256) xs (by omega) (by omega) (by omega) (by omega) (by omega) (by omega)
  have gv : 256 * (256 * (v / 65536) + v / 256 % 256) + v % 256 = v := by omega
  rw [gv] at g
  have rd := read false ([131, v / 65536, v / 256 % 256, v % 256] ++ xs) none v 4 0 rfl g
  have rp := read false [] (some 4) 0 0 7 rfl (get_A false (some 4))
  simp only [bs_nil, bs_cons, List.cons_append, List.nil_append] at rd rp
  have q1 : 4 + xs.length ≤ 70368744177664 := by omega
  have q2 : xs.length + 4 ≤ 70368744177664 := by omega
  have sb : sealA 20 [((1, 35, 0), ⟨[], true, true, true, 1, false⟩), ((1, 37, 0), ⟨[.int .u8 131, .int .u8 (v / 65536), .int .u8 (v / 256 % 256), .int .u8 (v % 256)], false, true, false, 1, false⟩), ((1, 39, 0), ⟨.int .u8 131 :: .int .u8 (v / 65536) :: .int .u8 (v / 256 % 256) :: .int .u8 (v % 256) :: bs xs, true, true, false, 1, false⟩)] (.ref (1, 39, 0) 0 (4 + xs.length) none) = some (.sl false (.int .u8 131 :: .int .u8 (v / 65536) :: .int .u8 (v / 256 % 256) :: .int .u8 (v % 256) :: bs xs) none, [((1, 35, 0), ⟨[], true, true, true, 1, false⟩), ((1, 37, 0), ⟨[.int .u8 131, .int .u8 (v / 65536), .int .u8 (v / 256 % 256), .int .u8 (v % 256)], false, true, false, 1, false⟩), ((1, 39, 0), ⟨.int .u8 131 :: .int .u8 (v / 65536) :: .int .u8 (v / 256 % 256) :: .int .u8 (v % 256) :: bs xs, true, false, false, 1, false⟩)]) :=
    seal_bytes (n := 18) (off := 0) (len := 4 + xs.length) (o := ⟨bs ([131, v / 65536, v / 256 % 256, v % 256] ++ xs), true, true, false, 1, false⟩) (ys := [131, v / 65536, v / 256 % 256, v % 256] ++ xs) rfl rfl rfl rfl (by show 0 + (4 + xs.length) ≤ (bs ([131, v / 65536, v / 256 % 256, v % 256] ++ xs)).length; rw [bs_length]; simp; omega) (by
      have e : 4 + xs.length = (bs ([131, v / 65536, v / 256 % 256, v % 256] ++ xs)).length := by rw [bs_length]; simp; omega
      show List.take (4 + xs.length) (bs ([131, v / 65536, v / 256 % 256, v % 256] ++ xs)) = bs ([131, v / 65536, v / 256 % 256, v % 256] ++ xs)
      rw [e, List.take_length])
  simp [↓s_seq, ↓s_reg, ↓s_regd, ↓s_cond, ↓s_block, ↓s_cons, ↓s_consG, s_nil, s_loop, s_round, s_lpn, s_lpe, s_lpr, firstReg, s_gt, s_gf, s_wb, s_wu, s_val, s_valN, s_skip, s_calls, s_callP, s_cax, s_ret, s_rgx, s_sqn, s_sqr, s_sqe, s_cdb, s_bkn, s_bkr, s_bke, s_exit, s_ret', s_skip', s_finr, s_finn, s_fin1, s_fix, s_clean, s_gc0, o_tmp, o_int, o_bool, o_nil, o_str, o_fn, o_nil', l_hit, l_miss, l_nil, ol_nil, ol_cons, ol_some, x_move, x_assign, x_pick, pk_t, pk_f, x_bin, bn_s, x_un, x_extract, x_callF, cl_no, x_callB, x_conv, cvx, convA, frame0, binA, intOp, resL, resA, results1, sealA, sealLW, AV.pure, AV.pureL, keepT, x_alloc, x_box, bxx, x_build, bdx, x_buildSlice, bsx, x_load, ldx, x_store, stx, x_slice, slx, x_fieldAddr, x_field, x_index, ixx, x_indexAddr, iax, x_makeSlice, msx, x_nilCheck, newK, genOf, setK, lookK, fillA, writeL, writeC, readC, conts, TyI.mk1, sliceA, boundsA, boundsB, fitsA, numA, indexAddrA, fieldAddrA, partA, fieldA, indexA, appendA, copyA, builtinA, AV.cells, chunk, gcH, reach, keysT, keepK, inKs, AV.keys, AV.keysL, Ty.isAgg, eq1, eqL, convA.go, ltI, w_u8, w_u32, w_u64, w_i64, w_fdiv, w_tdiv, w_tmod, IntKind.bits, unA, sc_int, bs_scal, ↓bs_sc, ↓sb, bs_nil, bs_cons, bs_length, bs_pure, bs_cells, bs_all, hn, wv, wu, wl, h2, hl, put_4 v h0 h1, rd, rp, q1, q2, lives]

theorem back_4_1 (n left v : Int) (f : Bool) (xs : List Int) (c : Option Nat) (h : (xs.length : Int) ≤ 10) (hn : n.tmod 16777216 = v) (h0 : 65536 ≤ v) (h1 : v ≤ 16777215) (l0 : 0 ≤ left) (l1 : left < 256) (hl : left.tmod 4 = 1) : Con E 60 4 [.int .u32 n, .sl f (bs xs) c, .int .u8 left] (.bool true) := by
  refine .of (g := []) (by simp [AV.pureL, AV.pure, bs_pure]) ?_
  rw [aCall_fn rfl (E_fn4) (by simp [AV.pureL, AV.pure, bs_pure]) (Nat.le_of_ble_eq_true rfl) rfl rfl, body_4, c4]
  have wv : IntKind.i64.wrap v = v := w_i64 _ (by omega) (by omega)
  have wu : IntKind.u32.wrap v = v := by rw [w_u32]; omega
  have wl : IntKind.i64.wrap left = left := w_i64 _ (by omega) (by omega)
  have h2 : ¬ (10 : Int) < (xs.length : Int) := by omega
  have g := get_E3 false none (v / 65536) (v / 256 % 256) (v % 256) xs (by omega) (by omega) (by omega) (by omega) (by omega) (by omega)
  have gv : 256 * (256 * (v / 65536) + v / 256 % 256) + v % 256 = v := by omega
  rw [gv] at g
  have rd := read false ([131, v / 65536, v / 256 % 256, v % 256] ++ xs) none v 4 0 rfl g
  have rp := read false [131] (some 4) 0 0 7 rfl (get_D3 false (some 4))
  simp only [bs_nil, bs_cons, List.cons_append, List.nil_append] at rd rp
  have q1 : 4 + xs.length ≤ 70368744177664 := by omega
  have q2 : xs.length + 4 ≤ 70368744177664 := by omega
  have sb : sealA 20 [((1, 35, 0), ⟨[], true, true, true, 1, false⟩), ((1, 37, 0), ⟨[.int .u8 131, .int .u8 (v / 65536), .int .u8 (v / 256 % 256), .int .u8 (v % 256)], false, true, false, 1, false⟩), ((1, 39, 0), ⟨.int .u8 131 :: .int .u8 (v / 65536) :: .int .u8 (v / 256 % 256) :: .int .u8 (v % 256) :: bs xs, true, true, false, 1, false⟩)] (.ref (1, 39, 0) 0 (4 + xs.length) none) = some (.sl false (.int .u8 131 :: .int .u8 (v / 65536) :: .int .u8 (v / 256 % 256) :: .int .u8 (v % 256) :: bs xs) none, [((1, 35, 0), ⟨[], true, true, true, 1, false⟩), ((1, 37, 0), ⟨[.int .u8 131, .int .u8 (v / 65536), .int .u8 (v / 256 % 256), .int .u8 (v % 256)], false, true, false, 1, false⟩), ((1, 39, 0), ⟨.int .u8 131 :: .int .u8 (v / 65536) :: .int .u8 (v / 256 % 256) :: .int .u8 (v % 256) :: bs xs, true, false, false, 1, false⟩)]) :=
    seal_bytes (n := 18) (off := 0) (len := 4 + xs.length) (o := ⟨bs ([131, v / 65536, v / 256 % 256, v % 256] ++ xs), true, true, false, 1, false⟩) (ys := [131, v / 65536, v / 256 % 256, v % 256] ++ xs) rfl rfl rfl rfl (by show 0 + (4 + xs.length) ≤ (bs ([131, v / 65536, v / 256 % 256, v % 256] ++ xs)).length; rw [bs_length]; simp; omega) (by
      have e : 4 + xs.length = (bs ([131, v / 65536, v / 256 % 256, v % 256] ++ xs)).length := by rw [bs_length]; simp; omega
      show List.take (4 + xs.length) (bs ([131, v / 65536, v / 256 % 256, v % 256] ++ xs)) = bs ([131, v / 65536, v / 256 % 256, v % 256] ++ xs)
      rw [e, List.take_length])
  simp [↓s_seq, ↓s_reg, ↓s_regd, ↓s_cond, ↓s_block, ↓s_cons, ↓s_consG, s_nil, s_loop, s_round, s_lpn, s_lpe, s_lpr, firstReg, s_gt, s_gf, s_wb, s_wu, s_val, s_valN, s_skip, s_calls, s_callP, s_cax, s_ret, s_rgx, s_sqn, s_sqr, s_sqe, s_cdb, s_bkn, s_bkr, s_bke, s_exit, s_ret', s_skip', s_finr, s_finn, s_fin1, s_fix, s_clean, s_gc0, o_tmp, o_int, o_bool, o_nil, o_str, o_fn, o_nil', l_hit, l_miss, l_nil, ol_nil, ol_cons, ol_some, x_move, x_assign, x_pick, pk_t, pk_f, x_bin, bn_s, x_un, x_extract, x_callF, cl_no, x_callB, x_conv, cvx, convA, frame0, binA, intOp, resL, resA, results1, sealA, sealLW, AV.pure, AV.pureL, keepT, x_alloc, x_box, bxx, x_build, bdx, x_buildSlice, bsx, x_load, ldx, x_store, stx, x_slice, slx, x_fieldAddr, x_field, x_index, ixx, x_indexAddr, iax, x_makeSlice, msx, x_nilCheck, newK, genOf, setK, lookK, fillA, writeL, writeC, readC, conts, TyI.mk1, sliceA, boundsA, boundsB, fitsA, numA, indexAddrA, fieldAddrA, partA, fieldA, indexA, appendA, copyA, builtinA, AV.cells, chunk, gcH, reach, keysT, keepK, inKs, AV.keys, AV.keysL, Ty.isAgg, eq1, eqL, convA.go, ltI, w_u8, w_u32, w_u64, w_i64, w_fdiv, w_tdiv, w_tmod, IntKind.bits, unA, sc_int, bs_scal, ↓bs_sc, ↓sb, bs_nil, bs_cons, bs_length, bs_pure, bs_cells, bs_all, hn, wv, wu, wl, h2, hl, put_4 v h0 h1, rd, rp, q1, q2, lives]

theorem back_4_2 (n left v : Int) (f : Bool) (xs : List Int) (c : Option Nat) (h : (xs.length : Int) ≤ 10) (hn : n.tmod 16777216 = v) (h0 : 65536 ≤ v) (h1 : v ≤ 16777215) (l0 : 0 ≤ left) (l1 : left < 256) (hl : left.tmod 4 = 2) : Con E 60 4 [.int .u32 n, .sl f (bs xs) c, .int .u8 left] (.bool true) := by
  refine .of (g := []) (by simp [AV.pureL, AV.pure, bs_pure]) ?_
  rw [aCall_fn rfl (E_fn4) (by simp [AV.pureL, AV.pure, bs_pure]) (Nat.le_of_ble_eq_true rfl) rfl rfl, body_4, c4]
  have wv : IntKind.i64.wrap v = v := w_i64 _ (by omega) (by omega)
  have wu : IntKind.u32.wrap v = v := by rw [w_u32]; omega
  have wl : IntKind.i64.wrap left = left := w_i64 _ (by omega) (by omega)
  have h2 : ¬ (10 : Int) < (xs.length : Int) := by omega
  have g := get_E3 false none (v / 65536) (v / 256 % 256) (v % 256) xs (by omega) (by omega) (by omega) (by omega) (by omega) (by omega)
  have gv : 256 * (256 * (v / 65536) + v / 256 % 256) + v % 256 = v := by omega
  rw [gv] at g
  have rd := read false ([131, v / 65536, v / 256 % 256, v % 256] ++ xs) none v 4 0 rfl g
  have rp := read false [131, v / 65536] (some 4) 0 0 7 rfl (get_D3a false (some 4) (v / 65536))
  simp only [bs_nil, bs_cons, List.cons_append, List.nil_append] at rd rp
  have q1 : 4 + xs.length ≤ 70368744177664 := by omega
  have q2 : xs.length + 4 ≤ 70368744177664 := by omega
  have sb : sealA 20 [((1, 35, 0), ⟨[], true, true, true, 1, false⟩), ((1, 37, 0), ⟨[.int .u8 131, .int .u8 (v / 65536), .int .u8 (v / 256 % 256), .int .u8 (v % 256)], false, true, false, 1, false⟩), ((1, 39, 0), ⟨.int .u8 131 :: .int .u8 (v / 65536) :: .int .u8 (v / 256 % 256) :: .int .u8 (v % 256) :: bs xs, true, true, false, 1, false⟩)] (.ref (1, 39, 0) 0 (4 + xs.length) none) = some (.sl false (.int .u8 131 :: .int .u8 (v / 65536) :: .int .u8 (v / 256 % 256) :: .int .u8 (v % 256) :: bs xs) none, [((1, 35, 0), ⟨[], true, true, true, 1, false⟩), ((1, 37, 0), ⟨[.int .u8 131, .int .u8 (v / 65536), .int .u8 (v / 256 % 256), .int .u8 (v % 256)], false, true, false, 1, false⟩), ((1, 39, 0), ⟨.int .u8 131 :: .int .u8 (v / 65536) :: .int .u8 (v / 256 % 256) :: .int .u8 (v % 256) :: bs xs, true, false, false, 1, false⟩)]) :=
    seal_bytes (n := 18) (off := 0) (len := 4 + xs.length) (o := ⟨bs ([131, v / 65536, v / 256 % 256, v % 256] ++ xs), true, true, false, 1, false⟩) (ys := [131, v / 65536, v / 256 % 256, v % 256] ++ xs) rfl rfl rfl rfl (by show 0 + (4 + xs.length) ≤ (bs ([131, v / 65536, v / 256 % 256, v % 256] ++ xs)).length; rw [bs_length]; simp; omega) (by
      have e : 4 + xs.length = (bs ([131, v / 65536, v / 256 % 256, v % 256] ++ xs)).length := by rw [bs_length]; simp; omega
      show List.take (4 + xs.length) (bs ([131, v / 65536, v / 256 % 256, v % 256] ++ xs)) = bs ([131, v / 65536, v / 256 % 256, v % 256] ++ xs)
      rw [e, List.take_length])
  simp [↓s_seq, ↓s_reg, ↓s_regd, ↓s_cond, ↓s_block, ↓s_cons, ↓s_consG, s_nil, s_loop, s_round, s_lpn, s_lpe, s_lpr, firstReg, s_gt, s_gf, s_wb, s_wu, s_val, s_valN, s_skip, s_calls, s_callP, s_cax, s_ret, s_rgx, s_sqn, s_sqr, s_sqe, s_cdb, s_bkn, s_bkr, s_bke, s_exit, s_ret', s_skip', s_finr, s_finn, s_fin1, s_fix, s_clean, s_gc0, o_tmp, o_int, o_bool, o_nil, o_str, o_fn, o_nil', l_hit, l_miss, l_nil, ol_nil, ol_cons, ol_some, x_move, x_assign, x_pick, pk_t, pk_f, x_bin, bn_s, x_un, x_extract, x_callF, cl_no, x_callB, x_conv, cvx, convA, frame0, binA, intOp, resL, resA, results1, sealA, sealLW, AV.pure, AV.pureL, keepT, x_alloc, x_box, bxx, x_build, bdx, x_buildSlice, bsx, x_load, ldx, x_store, stx, x_slice, slx, x_fieldAddr, x_field, x_index, ixx, x_indexAddr, iax, x_makeSlice, msx, x_nilCheck, newK, genOf, setK, lookK, fillA, writeL, writeC, readC, conts, TyI.mk1, sliceA, boundsA, boundsB, fitsA, numA, indexAddrA, fieldAddrA, partA, fieldA, indexA, appendA, copyA, builtinA, AV.cells, chunk, gcH, reach, keysT, keepK, inKs, AV.keys, AV.keysL, Ty.isAgg, eq1, eqL, convA.go, ltI, w_u8, w_u32, w_u64, w_i64, w_fdiv, w_tdiv, w_tmod, IntKind.bits, unA, sc_int, bs_scal, ↓bs_sc, ↓sb, bs_nil, bs_cons, bs_length, bs_pure, bs_cells, bs_all, hn, wv, wu, wl, h2, hl, put_4 v h0 h1, rd, rp, q1, q2, lives]

theorem back_4_3 (n left v : Int) (f : Bool) (xs : List Int) (c : Option Nat) (h : (xs.length : Int) ≤ 10) (hn : n.tmod 16777216 = v) (h0 : 65536 ≤ v) (h1 : v ≤ 16777215) (l0 : 0 ≤ left) (l1 : left < 256) (hl : left.tmod 4 = 3) : Con E 60 4 [.int .u32 n, .sl f (bs xs) c, .int .u8 left] (.bool true) := by
  refine .of (g := []) (by simp [AV.pureL, AV.pure, bs_pure]) ?_
  rw [aCall_fn rfl (E_fn4) (by simp [AV.pureL, AV.pure, bs_pure]) (Nat.le_of_ble_eq_true rfl) rfl rfl, body_4, c4]
  have wv : IntKind.i64.wrap v = v := w_i64 _ (by omega) (by omega)
  have wu : IntKind.u32.wrap v = v := by rw [w_u32]; omega
  have wl : IntKind.i64.wrap left = left := w_i64 _ (by omega) (by omega)
  have h2 : ¬ (10 : Int) < (xs.length : Int) := by omega
  have g := get_E3 false none (v / 65536) (v / 256 % 256) (v % 256) xs (by omega) (by omega) (by omega) (by omega) (by omega) (by omega)
  have gv : 256 * (256 * (v / 65536) + v / 256 % 256) + v % 256 = v := by omega
  rw [gv] at g
  have rd := read false ([131, v / 65536, v / 256 % 256, v % 256] ++ xs) none v 4 0 rfl g
  have rp := read false [131, v / 65536, v / 256 % 256] (some 4) 0 0 7 rfl (get_D3b false (some 4) (v / 65536) (v / 256 % 256))
  simp only [bs_nil, bs_cons, List.cons_append, List.nil_append] at rd rp
  have q1 : 4 + xs.length ≤ 70368744177664 := by omega
  have q2 : xs.length + 4 ≤ 70368744177664 := by omega
  have sb : sealA 20 [((1, 35, 0), ⟨[], true, true, true, 1, false⟩), ((1, 37, 0), ⟨[.int .u8 131, .int .u8 (v / 65536), .int .u8 (v / 256 % 256), .int .u8 (v % 256)], false, true, false, 1, false⟩), ((1, 39, 0), ⟨.int .u8 131 :: .int .u8 (v / 65536) :: .int .u8 (v / 256 % 256) :: .int .u8 (v % 256) :: bs xs, true, true, false, 1, false⟩)] (.ref (1, 39, 0) 0 (4 + xs.length) none) = some (.sl false (.int .u8 131 :: .int .u8 (v / 65536) :: .int .u8 (v / 256 % 256) :: .int .u8 (v % 256) :: bs xs) none, [((1, 35, 0), ⟨[], true, true, true, 1, false⟩), ((1, 37, 0), ⟨[.int .u8 131, .int .u8 (v / 65536), .int .u8 (v / 256 % 256), .int .u8 (v % 256)], false, true, false, 1, false⟩), ((1, 39, 0), ⟨.int .u8 131 :: .int .u8 (v / 65536) :: .int .u8 (v / 256 % 256) :: .int .u8 (v % 256) :: bs xs, true, false, false, 1, false⟩)]) :=
    seal_bytes (n := 18) (off := 0) (len := 4 + xs.length) (o := ⟨bs ([131, v / 65536, v / 256 % 256, v % 256] ++ xs), true, true, false, 1, false⟩) (ys := [131, v / 65536, v / 256 % 256, v % 256] ++ xs) rfl rfl rfl rfl (by show 0 + (4 + xs.length) ≤ (bs ([131, v / 65536, v / 256 % 256, v % 256] ++ xs)).length; rw [bs_length]; simp; omega) (by
      have e : 4 + xs.length = (bs ([131, v / 65536, v / 256 % 256, v % 256] ++ xs)).length := by rw [bs_length]; simp; omega
      show List.take (4 + xs.length) (bs ([131, v / 65536, v / 256 % 256, v % 256] ++ xs)) = bs ([131, v / 65536, v / 256 % 256, v % 256] ++ xs)
      rw [e, List.take_length])
  simp [↓s_seq, ↓s_reg, ↓s_regd, ↓s_cond, ↓s_block, ↓s_cons, ↓s_consG, s_nil, s_loop, s_round, s_lpn, s_lpe, s_lpr, firstReg, s_gt, s_gf, s_wb, s_wu, s_val, s_valN, s_skip, s_calls, s_callP, s_cax, s_ret, s_rgx, s_sqn, s_sqr, s_sqe, s_cdb, s_bkn, s_bkr, s_bke, s_exit, s_ret', s_skip', s_finr, s_finn, s_fin1, s_fix, s_clean, s_gc0, o_tmp, o_int, o_bool, o_nil, o_str, o_fn, o_nil', l_hit, l_miss, l_nil, ol_nil, ol_cons, ol_some, x_move, x_assign, x_pick, pk_t, pk_f, x_bin, bn_s, x_un, x_extract, x_callF, cl_no, x_callB, x_conv, cvx, convA, frame0, binA, intOp, resL, resA, results1, sealA, sealLW, AV.pure, AV.pureL, keepT, x_alloc, x_box, bxx, x_build, bdx, x_buildSlice, bsx, x_load, ldx, x_store, stx, x_slice, slx, x_fieldAddr, x_field, x_index, ixx, x_indexAddr, iax, x_makeSlice, msx, x_nilCheck, newK, genOf, setK, lookK, fillA, writeL, writeC, readC, conts, TyI.mk1, sliceA, boundsA, boundsB, fitsA, numA, indexAddrA, fieldAddrA, partA, fieldA, indexA, appendA, copyA, builtinA, AV.cells, chunk, gcH, reach, keysT, keepK, inKs, AV.keys, AV.keysL, Ty.isAgg, eq1, eqL, convA.go, ltI, w_u8, w_u32, w_u64, w_i64, w_fdiv, w_tdiv, w_tmod, IntKind.bits, unA, sc_int, bs_scal, ↓bs_sc, ↓sb, bs_nil, bs_cons, bs_length, bs_pure, bs_cells, bs_all, hn, wv, wu, wl, h2, hl, put_4 v h0 h1, rd, rp, q1, q2, lives]

theorem back (n left : Int) (f : Bool) (xs : List Int) (c : Option Nat) (n0 : 0 ≤ n) (l0 : 0 ≤ left) (l1 : left < 256) : Con E 60 4 [.int .u32 n, .sl f (bs xs) c, .int .u8 left] (.bool true) := by
  by_cases h : (10 : Int) < (xs.length : Int)
  · exact back_long n left f xs c h
  have h : (xs.length : Int) ≤ 10 := by omega
  have hn := w_tmod n 16777216 n0
  have v0 : 0 ≤ n % 16777216 := by omega
  have v1 : n % 16777216 ≤ 16777215 := by omega
  generalize n % 16777216 = v at *
  by_cases a1 : v ≤ 127
  · exact back_1_0 n left v f xs c h hn v0 a1 l0 l1 (by rw [w_tmod _ _ l0]; omega)
  by_cases a2 : v ≤ 255
  · rcases (by omega : left % 2 = 0 ∨ left % 2 = 1) with e | e
    · exact back_2_0 n left v f xs c h hn (by omega) a2 l0 l1 (by rw [w_tmod _ _ l0]; exact e)
    · exact back_2_1 n left v f xs c h hn (by omega) a2 l0 l1 (by rw [w_tmod _ _ l0]; exact e)
  by_cases a3 : v ≤ 65535
  · rcases (by omega : left % 3 = 0 ∨ left % 3 = 1 ∨ left % 3 = 2) with e | e | e
    · exact back_3_0 n left v f xs c h hn (by omega) a3 l0 l1 (by rw [w_tmod _ _ l0]; exact e)
    · exact back_3_1 n left v f xs c h hn (by omega) a3 l0 l1 (by rw [w_tmod _ _ l0]; exact e)
    · exact back_3_2 n left v f xs c h hn (by omega) a3 l0 l1 (by rw [w_tmod _ _ l0]; exact e)
  rcases (by omega : left % 4 = 0 ∨ left % 4 = 1 ∨ left % 4 = 2 ∨ left % 4 = 3) with e | e | e | e
  · exact back_4_0 n left v f xs c h hn (by omega) v1 l0 l1 (by rw [w_tmod _ _ l0]; exact e)
  · exact back_4_1 n left v f xs c h hn (by omega) v1 l0 l1 (by rw [w_tmod _ _ l0]; exact e)
  · exact back_4_2 n left v f xs c h hn (by omega) v1 l0 l1 (by rw [w_tmod _ _ l0]; exact e)
  · exact back_4_3 n left v f xs c h hn (by omega) v1 l0 l1 (by rw [w_tmod _ _ l0]; exact e)
end M12
