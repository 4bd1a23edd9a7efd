/- The law LengthsGet at the evaluator: true at every row of bytes. No conditions. -/
import Derived.Test.YtalmnhdnclmhbaaM9
open Ab Go TabB M1 M2 M3 M5 M7 M8 M9
set_option maxRecDepth 20000
set_option linter.unusedSimpArgs false
set_option linter.unusedVariables false
set_option maxHeartbeats 2000000
namespace M10
theorem read (f : Bool) (xs : List Int) (c : Option Nat) (n s e : Int) (he : IntKind.i64.wrap e = e) (g : Con E 10 44 [.sl f (bs xs) c] (.tup [.int .i64 n, .int .i64 s, .int .i64 e])) :
    Con E 20 18 [.sl f (bs xs) c, .int .i64 n, .int .i64 s, .int .i64 e] (.bool true) := by
  refine .of (g := []) (by simp [AV.pureL, AV.pure, bs_pure]) ?_
  rw [aCall_fn rfl (E_fn18) (by simp [AV.pureL, AV.pure, bs_pure]) (Nat.le_of_ble_eq_true rfl) rfl rfl, body_18, c18]
  simp [↓s_seq, ↓s_reg, ↓s_regd, ↓s_cond, ↓s_block, ↓s_cons, ↓s_consG, s_nil, s_loop, s_round, s_lpn, s_lpe, s_lpr, firstReg, s_gt, s_gf, s_wb, s_wu, s_val, s_valN, s_skip, s_calls, s_callP, s_cax, s_ret, s_rgx, s_sqn, s_sqr, s_sqe, s_cdb, s_bkn, s_bkr, s_bke, s_exit, s_ret', s_skip', s_finr, s_finn, s_fin1, s_fix, s_clean, s_gc0, o_tmp, o_int, o_bool, o_nil, o_str, o_fn, o_nil', l_hit, l_miss, l_nil, ol_nil, ol_cons, ol_some, x_move, x_assign, x_pick, pk_t, pk_f, x_bin, bn_s, x_un, x_extract, x_callF, cl_no, x_callB, x_conv, cvx, convA, frame0, binA, intOp, resL, resA, results1, sealA, sealLW, AV.pure, AV.pureL, keepT, x_alloc, x_box, bxx, x_build, bdx, x_buildSlice, bsx, x_load, ldx, x_store, stx, x_slice, slx, x_fieldAddr, x_field, x_index, ixx, x_indexAddr, iax, x_makeSlice, msx, x_nilCheck, newK, genOf, setK, lookK, fillA, writeL, writeC, readC, conts, TyI.mk1, sliceA, boundsA, boundsB, fitsA, numA, indexAddrA, fieldAddrA, partA, fieldA, indexA, appendA, copyA, builtinA, AV.cells, AV.scal, chunk, gcH, reach, keysT, keepK, inKs, AV.keys, AV.keysL, Ty.isAgg, eq1, eqL, convA.go, ltI, w_u8, w_u32, w_u64, w_i64, w_fdiv, w_tdiv, w_tmod, IntKind.bits, unA, bs_pure, g, he]
theorem get_big (f : Bool) (xs : List Int) (c : Option Nat) (h : (10 : Int) < (xs.length : Int)) : Con E 60 5 [.sl f (bs xs) c] (.bool true) := by
  refine .of (g := []) (by simp [AV.pureL, AV.pure, bs_pure]) ?_
  rw [aCall_fn rfl (E_fn5) (by simp [AV.pureL, AV.pure, bs_pure]) (Nat.le_of_ble_eq_true rfl) rfl rfl, body_5, c5]
  simp [↓s_seq, ↓s_reg, ↓s_regd, ↓s_cond, ↓s_block, ↓s_cons, ↓s_consG, s_nil, s_loop, s_round, s_lpn, s_lpe, s_lpr, firstReg, s_gt, s_gf, s_wb, s_wu, s_val, s_valN, s_skip, s_calls, s_callP, s_cax, s_ret, s_rgx, s_sqn, s_sqr, s_sqe, s_cdb, s_bkn, s_bkr, s_bke, s_exit, s_ret', s_skip', s_finr, s_finn, s_fin1, s_fix, s_clean, s_gc0, o_tmp, o_int, o_bool, o_nil, o_str, o_fn, o_nil', l_hit, l_miss, l_nil, ol_nil, ol_cons, ol_some, x_move, x_assign, x_pick, pk_t, pk_f, x_bin, bn_s, x_un, x_extract, x_callF, cl_no, x_callB, x_conv, cvx, convA, frame0, binA, intOp, resL, resA, results1, sealA, sealLW, AV.pure, AV.pureL, keepT, x_alloc, x_box, bxx, x_build, bdx, x_buildSlice, bsx, x_load, ldx, x_store, stx, x_slice, slx, x_fieldAddr, x_field, x_index, ixx, x_indexAddr, iax, x_makeSlice, msx, x_nilCheck, newK, genOf, setK, lookK, fillA, writeL, writeC, readC, conts, TyI.mk1, sliceA, boundsA, boundsB, fitsA, numA, indexAddrA, fieldAddrA, partA, fieldA, indexA, appendA, copyA, builtinA, AV.cells, AV.scal, chunk, gcH, reach, keysT, keepK, inKs, AV.keys, AV.keysL, Ty.isAgg, eq1, eqL, convA.go, ltI, w_u8, w_u32, w_u64, w_i64, w_fdiv, w_tdiv, w_tmod, IntKind.bits, unA, bs_pure, bs_length, h, lives]
theorem get_fail (f : Bool) (xs : List Int) (c : Option Nat) (e : Int) (h : ¬ (10 : Int) < (xs.length : Int)) (h0 : ¬ e = 0) (he : IntKind.i64.wrap e = e)
    (g : Con E 10 44 [.sl f (bs xs) c] (.tup [.int .i64 0, .int .i64 0, .int .i64 e])) (r : Con E 20 19 [.sl f (bs xs) c] (.tup [.int .i64 0, .int .i64 0, .int .i64 e])) : Con E 60 5 [.sl f (bs xs) c] (.bool true) := by
  refine .of (g := []) (by simp [AV.pureL, AV.pure, bs_pure]) ?_
  rw [aCall_fn rfl (E_fn5) (by simp [AV.pureL, AV.pure, bs_pure]) (Nat.le_of_ble_eq_true rfl) rfl rfl, body_5, c5]
  have rd := read f xs c 0 0 e he g
  have e1 : (e == 0) = false := by simp [h0]
  have e2 : (e != 0) = true := by simp [h0]
  simp [↓s_seq, ↓s_reg, ↓s_regd, ↓s_cond, ↓s_block, ↓s_cons, ↓s_consG, s_nil, s_loop, s_round, s_lpn, s_lpe, s_lpr, firstReg, s_gt, s_gf, s_wb, s_wu, s_val, s_valN, s_skip, s_calls, s_callP, s_cax, s_ret, s_rgx, s_sqn, s_sqr, s_sqe, s_cdb, s_bkn, s_bkr, s_bke, s_exit, s_ret', s_skip', s_finr, s_finn, s_fin1, s_fix, s_clean, s_gc0, o_tmp, o_int, o_bool, o_nil, o_str, o_fn, o_nil', l_hit, l_miss, l_nil, ol_nil, ol_cons, ol_some, x_move, x_assign, x_pick, pk_t, pk_f, x_bin, bn_s, x_un, x_extract, x_callF, cl_no, x_callB, x_conv, cvx, convA, frame0, binA, intOp, resL, resA, results1, sealA, sealLW, AV.pure, AV.pureL, keepT, x_alloc, x_box, bxx, x_build, bdx, x_buildSlice, bsx, x_load, ldx, x_store, stx, x_slice, slx, x_fieldAddr, x_field, x_index, ixx, x_indexAddr, iax, x_makeSlice, msx, x_nilCheck, newK, genOf, setK, lookK, fillA, writeL, writeC, readC, conts, TyI.mk1, sliceA, boundsA, boundsB, fitsA, numA, indexAddrA, fieldAddrA, partA, fieldA, indexA, appendA, copyA, builtinA, AV.cells, AV.scal, chunk, gcH, reach, keysT, keepK, inKs, AV.keys, AV.keysL, Ty.isAgg, eq1, eqL, convA.go, ltI, w_u8, w_u32, w_u64, w_i64, w_fdiv, w_tdiv, w_tmod, IntKind.bits, unA, bs_pure, bs_length, h, lives, g, r, rd, h0, e1, e2]
theorem get_ok (f : Bool) (xs : List Int) (c : Option Nat) (n : Int) (k : Nat) (ys : List Int) (h : ¬ (10 : Int) < (xs.length : Int)) (hk : k ≤ xs.length) (ht : xs.take k = ys) (hb : isB ys)
    (g : Con E 10 44 [.sl f (bs xs) c] (.tup [.int .i64 n, .int .i64 k, .int .i64 0])) (r : Con E 20 19 [.sl f (bs xs) c] (.tup [.int .i64 n, .int .i64 k, .int .i64 0]))
    (p : Con E 10 13 [.int .i64 n] (.tup [.sl false (bs ys) (some ys.length), .int .i64 0])) : Con E 60 5 [.sl f (bs xs) c] (.bool true) := by
  refine .of (g := []) (by simp [AV.pureL, AV.pure, bs_pure]) ?_
  rw [aCall_fn rfl (E_fn5) (by simp [AV.pureL, AV.pure, bs_pure]) (Nat.le_of_ble_eq_true rfl) rfl rfl, body_5, c5]
  have rd := read f xs c n k 0 rfl g
  have s := fun c2 => same_ok ys false f c2 0 hb rfl
  simp [↓s_seq, ↓s_reg, ↓s_regd, ↓s_cond, ↓s_block, ↓s_cons, ↓s_consG, s_nil, s_loop, s_round, s_lpn, s_lpe, s_lpr, firstReg, s_gt, s_gf, s_wb, s_wu, s_val, s_valN, s_skip, s_calls, s_callP, s_cax, s_ret, s_rgx, s_sqn, s_sqr, s_sqe, s_cdb, s_bkn, s_bkr, s_bke, s_exit, s_ret', s_skip', s_finr, s_finn, s_fin1, s_fix, s_clean, s_gc0, o_tmp, o_int, o_bool, o_nil, o_str, o_fn, o_nil', l_hit, l_miss, l_nil, ol_nil, ol_cons, ol_some, x_move, x_assign, x_pick, pk_t, pk_f, x_bin, bn_s, x_un, x_extract, x_callF, cl_no, x_callB, x_conv, cvx, convA, frame0, binA, intOp, resL, resA, results1, sealA, sealLW, AV.pure, AV.pureL, keepT, x_alloc, x_box, bxx, x_build, bdx, x_buildSlice, bsx, x_load, ldx, x_store, stx, x_slice, slx, x_fieldAddr, x_field, x_index, ixx, x_indexAddr, iax, x_makeSlice, msx, x_nilCheck, newK, genOf, setK, lookK, fillA, writeL, writeC, readC, conts, TyI.mk1, sliceA, boundsA, boundsB, fitsA, numA, indexAddrA, fieldAddrA, partA, fieldA, indexA, appendA, copyA, builtinA, AV.cells, AV.scal, chunk, gcH, reach, keysT, keepK, inKs, AV.keys, AV.keysL, Ty.isAgg, eq1, eqL, convA.go, ltI, w_u8, w_u32, w_u64, w_i64, w_fdiv, w_tdiv, w_tmod, IntKind.bits, unA, bs_pure, bs_length, h, lives, g, r, rd, p, hk, bs_take, ht, s]
theorem get (f : Bool) (xs : List Int) (c : Option Nat) (hb : isB xs) : Con E 60 5 [.sl f (bs xs) c] (.bool true) := by
  by_cases h : (10 : Int) < (xs.length : Int)
  · exact get_big f xs c h
  have F := fun e => get_fail f xs c e h
  match xs, hb, h, F with
  | [], _, h, F => exact F 7 (by decide) rfl (get_A f c) (rget_A f c)
  | x :: r, hb, h, F =>
    obtain ⟨⟨x0, x1⟩, hq⟩ := isB_cons.1 hb
    clear hb
    by_cases h1 : x ≤ 127
    · exact get_ok f (x :: r) c x 1 [x] h (by simp) (by simp) (by simp [isB_cons, isB_nil]; omega) (get_B f c x r x0 h1) (rget_B f c x r x0 h1) (by simpa [bs_cons, bs_nil] using put_1 x x0 h1)
    by_cases h2 : x = 128
    · subst h2; exact F 10 (by decide) rfl (get_C0 f c r) (rget_C0 f c r)
    by_cases h3 : 132 ≤ x
    · exact F 10 (by decide) rfl (get_C1 f c x r h3 (by omega)) (rget_C1 f c x r h3 (by omega))
    by_cases h4 : x = 129
    · subst h4
      match r, hq, h, F with
      | [], _, h, F => exact F 7 (by decide) rfl (get_D1 f c) (rget_D1 f c)
      | y :: r, hq, h, F =>
        obtain ⟨⟨y0, y1⟩, hq⟩ := isB_cons.1 hq
        by_cases g1 : y = 0
        · subst g1; exact F 10 (by decide) rfl (get_Z1 f c r) (rget_Z1 f c r)
        by_cases g2 : y ≤ 127
        · exact F 10 (by decide) rfl (get_F1 f c y r (by omega) g2) (rget_F1 f c y r (by omega) g2)
        exact get_ok f (129 :: y :: r) c y 2 [129, y] h (by simp) (by simp) (by simp [isB_cons, isB_nil]; omega) (get_E1 f c y r (by omega) y1) (rget_E1 f c y r (by omega) y1) (by simpa [bs_cons, bs_nil] using put_2 y (by omega) (by omega))
    by_cases h5 : x = 130
    · subst h5
      match r, hq, h, F with
      | [], _, h, F => exact F 7 (by decide) rfl (get_D2 f c) (rget_D2 f c)
      | [y], _, h, F => exact F 7 (by decide) rfl (get_D2a f c y) (rget_D2a f c y)
      | y :: z :: r, hq, h, F =>
        obtain ⟨⟨y0, y1⟩, hq⟩ := isB_cons.1 hq
        obtain ⟨⟨z0, z1⟩, hq⟩ := isB_cons.1 hq
        by_cases g1 : y = 0
        · subst g1; exact F 10 (by decide) rfl (get_Z2 f c z r z0 z1) (rget_Z2 f c z r z0 z1)
        have p := put_3 (256 * y + z) (by omega) (by omega)
        rw [show (256 * y + z) / 256 = y by omega, show (256 * y + z) % 256 = z by omega] at p
        exact get_ok f (130 :: y :: z :: r) c (256 * y + z) 3 [130, y, z] h (by simp) (by simp) (by simp [isB_cons, isB_nil]; omega) (get_E2 f c y z r (by omega) y1 z0 z1) (rget_E2 f c y z r (by omega) y1 z0 z1) (by simpa [bs_cons, bs_nil] using p)
    have h6 : x = 131 := by omega
    subst h6
    match r, hq, h, F with
    | [], _, h, F => exact F 7 (by decide) rfl (get_D3 f c) (rget_D3 f c)
    | [y], _, h, F => exact F 7 (by decide) rfl (get_D3a f c y) (rget_D3a f c y)
    | [y, z], _, h, F => exact F 7 (by decide) rfl (get_D3b f c y z) (rget_D3b f c y z)
    | y :: z :: u :: r, hq, h, F =>
      obtain ⟨⟨y0, y1⟩, hq⟩ := isB_cons.1 hq
      obtain ⟨⟨z0, z1⟩, hq⟩ := isB_cons.1 hq
      obtain ⟨⟨u0, u1⟩, hq⟩ := isB_cons.1 hq
      by_cases g1 : y = 0
      · subst g1; exact F 10 (by decide) rfl (get_Z3 f c z u r z0 z1 u0 u1) (rget_Z3 f c z u r z0 z1 u0 u1)
      have p := put_4 (256 * (256 * y + z) + u) (by omega) (by omega)
      rw [show (256 * (256 * y + z) + u) / 65536 = y by omega, show (256 * (256 * y + z) + u) / 256 % 256 = z by omega, show (256 * (256 * y + z) + u) % 256 = u by omega] at p
      exact get_ok f (131 :: y :: z :: u :: r) c (256 * (256 * y + z) + u) 4 [131, y, z, u] h (by simp) (by simp) (by simp [isB_cons, isB_nil]; omega) (get_E3 f c y z u r (by omega) y1 z0 z1 u0 u1) (rget_E3 f c y z u r (by omega) y1 z0 z1 u0 u1) (by simpa [bs_cons, bs_nil] using p)
end M10
