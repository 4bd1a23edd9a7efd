/- Own work, no conditions. -/
import Derived.Test.YtbiildmljbcmeaaP5
import Derived.Test.YtbiildmljbcmeaaB32
section
/- What the two readers of lengths answer, at the evaluator. No conditions. -/
open Ab Go TabE P1 P2 P2 P5
set_option maxRecDepth 20000
set_option linter.unusedSimpArgs false
set_option linter.unusedVariables false
set_option maxHeartbeats 2000000
namespace P7

theorem get_A (f : Bool) (c : Option Nat)  : Con E 10 96 [.sl f (bs ([])) c] (.tup [.int .i64 0, .int .i64 0, .int .i64 7]) := by
  refine .of (g := []) (by simp [AV.pureL, AV.pure]) ?_
  rw [aCall_fn rfl (E_fn96) (by simp [AV.pureL, AV.pure]) (Nat.le_of_ble_eq_true rfl) rfl rfl, body_96, c96]
  simp [↓s_seq, ↓s_reg, ↓s_cond, ↓s_cons, s_nil, s_val, s_rgx, s_sqn, s_sqr, s_cdb, s_ret', s_finr, s_fin1, s_fix, s_clean, o_tmp, o_int, l_hit, l_miss, ol_nil, ol_cons, ol_some, x_move, x_assign, x_bin, bn_s, x_callB, frame0, binA, intOp, resL, resA, results1, sealA, AV.pure, AV.pureL, keepT, newK, genOf, setK, lookK, writeC, conts, appendA, copyA, builtinA, AV.cells, AV.scal, gcH, Ty.isAgg, bs_nil]

theorem rget_A (f : Bool) (c : Option Nat)  : Con E 20 89 [.sl f (bs ([])) c] (.tup [.int .i64 0, .int .i64 0, .int .i64 7]) := by
  refine .of (g := []) (by simp [AV.pureL, AV.pure]) ?_
  rw [aCall_fn rfl (E_fn89) (by simp [AV.pureL, AV.pure]) (Nat.le_of_ble_eq_true rfl) rfl rfl, body_89, c89]
  simp [↓s_seq, ↓s_reg, ↓s_cond, ↓s_cons, s_nil, s_val, s_rgx, s_sqn, s_sqr, s_cdb, s_ret', s_finr, s_fin1, s_fix, s_clean, o_tmp, o_int, l_hit, l_miss, ol_nil, ol_cons, ol_some, x_move, x_assign, x_bin, bn_s, x_callB, frame0, binA, intOp, resL, resA, results1, sealA, AV.pure, AV.pureL, keepT, newK, genOf, setK, lookK, writeC, conts, appendA, copyA, builtinA, AV.cells, AV.scal, gcH, Ty.isAgg, bs_nil]

theorem get_B (f : Bool) (c : Option Nat) (x : Int) (r : List Int) (x0 : 0 ≤ x) (h : x ≤ 127) : Con E 10 96 [.sl f (bs (x :: r)) c] (.tup [.int .i64 x, .int .i64 1, .int .i64 0]) := by
  refine .of (g := []) (by simp [AV.pureL, AV.pure]) ?_
  rw [aCall_fn rfl (E_fn96) (by simp [AV.pureL, AV.pure]) (Nat.le_of_ble_eq_true rfl) rfl rfl, body_96, c96]
  have f0 : x < 128 := by omega
  have f1 : ¬ ((r.length : Int) + 1 = 0) := by omega
  have f2 : (0 : Int) < (r.length : Int) + 1 := by omega
  have w1 : IntKind.i64.wrap x = x := w_i64 _ (by omega) (by omega)
  simp [↓s_seq, ↓s_reg, ↓s_cond, ↓s_cons, s_nil, s_val, s_rgx, s_sqn, s_sqr, s_cdb, s_ret', s_skip', s_finr, s_fin1, s_fix, s_clean, o_tmp, o_int, l_hit, l_miss, ol_nil, ol_cons, ol_some, x_move, x_assign, x_bin, bn_s, x_callB, x_conv, cvx, convA, frame0, binA, intOp, resL, resA, results1, sealA, AV.pure, AV.pureL, keepT, x_load, ldx, x_indexAddr, iax, newK, genOf, setK, lookK, writeC, readC, conts, TyI.mk1, indexAddrA, appendA, copyA, builtinA, AV.cells, AV.scal, gcH, Ty.isAgg, bs_cons, bs_length, f1, f2, h, w1]

theorem rget_B (f : Bool) (c : Option Nat) (x : Int) (r : List Int) (x0 : 0 ≤ x) (h : x ≤ 127) : Con E 20 89 [.sl f (bs (x :: r)) c] (.tup [.int .i64 x, .int .i64 1, .int .i64 0]) := by
  refine .of (g := []) (by simp [AV.pureL, AV.pure]) ?_
  rw [aCall_fn rfl (E_fn89) (by simp [AV.pureL, AV.pure]) (Nat.le_of_ble_eq_true rfl) rfl rfl, body_89, c89]
  have f0 : x < 128 := by omega
  have f1 : ¬ ((r.length : Int) + 1 = 0) := by omega
  have f2 : (0 : Int) < (r.length : Int) + 1 := by omega
  have w1 : IntKind.i64.wrap x = x := w_i64 _ (by omega) (by omega)
  simp [↓s_seq, ↓s_reg, ↓s_cond, ↓s_cons, s_nil, s_val, s_rgx, s_sqn, s_sqr, s_cdb, s_ret', s_skip', s_finr, s_fin1, s_fix, s_clean, o_tmp, o_int, l_hit, l_miss, ol_nil, ol_cons, ol_some, x_move, x_assign, x_bin, bn_s, x_callB, x_conv, cvx, convA, frame0, binA, intOp, resL, resA, results1, sealA, AV.pure, AV.pureL, keepT, x_load, ldx, x_indexAddr, iax, newK, genOf, setK, lookK, writeC, readC, conts, TyI.mk1, indexAddrA, appendA, copyA, builtinA, AV.cells, AV.scal, gcH, Ty.isAgg, bs_cons, bs_length, f0, f1, f2, w1]

theorem get_C0 (f : Bool) (c : Option Nat) (r : List Int) : Con E 10 96 [.sl f (bs (128 :: r)) c] (.tup [.int .i64 0, .int .i64 0, .int .i64 10]) := by
  refine .of (g := []) (by simp [AV.pureL, AV.pure]) ?_
  rw [aCall_fn rfl (E_fn96) (by simp [AV.pureL, AV.pure]) (Nat.le_of_ble_eq_true rfl) rfl rfl, body_96, c96]
  have f0 : ¬ ((r.length : Int) + 1 = 0) := by omega
  have f1 : (0 : Int) < (r.length : Int) + 1 := by omega
  simp [↓s_seq, ↓s_reg, ↓s_cond, ↓s_block, ↓s_cons, ↓s_consG, s_nil, s_gf, s_wb, s_val, s_rgx, s_sqn, s_sqr, s_cdb, s_bkr, s_ret', s_skip', s_finr, s_fin1, s_fix, s_clean, o_tmp, o_int, o_bool, l_hit, l_miss, ol_nil, ol_cons, ol_some, x_move, x_assign, x_pick, pk_t, x_bin, bn_s, x_callB, x_conv, cvx, convA, frame0, binA, intOp, resL, resA, results1, sealA, AV.pure, AV.pureL, keepT, x_alloc, x_load, ldx, x_indexAddr, iax, newK, genOf, setK, lookK, writeC, readC, conts, TyI.mk1, indexAddrA, appendA, copyA, builtinA, AV.cells, AV.scal, gcH, reach, keysT, keepK, inKs, AV.keys, AV.keysL, Ty.isAgg, w_i64, bs_cons, bs_length, f0, f1]

theorem rget_C0 (f : Bool) (c : Option Nat) (r : List Int) : Con E 20 89 [.sl f (bs (128 :: r)) c] (.tup [.int .i64 0, .int .i64 0, .int .i64 10]) := by
  refine .of (g := []) (by simp [AV.pureL, AV.pure]) ?_
  rw [aCall_fn rfl (E_fn89) (by simp [AV.pureL, AV.pure]) (Nat.le_of_ble_eq_true rfl) rfl rfl, body_89, c89]
  have f0 : ¬ ((r.length : Int) + 1 = 0) := by omega
  have f1 : (0 : Int) < (r.length : Int) + 1 := by omega
  simp [↓s_seq, ↓s_reg, ↓s_cond, ↓s_cons, ↓s_consG, s_nil, s_gf, s_wb, s_val, s_rgx, s_sqn, s_sqr, s_cdb, s_ret', s_skip', s_finr, s_fin1, s_fix, s_clean, o_tmp, o_int, o_bool, l_hit, l_miss, ol_nil, ol_cons, ol_some, x_move, x_assign, x_pick, pk_t, x_bin, bn_s, x_callB, x_conv, cvx, convA, frame0, binA, intOp, resL, resA, results1, sealA, AV.pure, AV.pureL, keepT, x_load, ldx, x_indexAddr, iax, newK, genOf, setK, lookK, writeC, readC, conts, TyI.mk1, indexAddrA, appendA, copyA, builtinA, AV.cells, AV.scal, gcH, Ty.isAgg, w_i64, bs_cons, bs_length, f0, f1]

theorem get_C1 (f : Bool) (c : Option Nat) (x : Int) (r : List Int) (x0 : 132 ≤ x) (h : x ≤ 255) : Con E 10 96 [.sl f (bs (x :: r)) c] (.tup [.int .i64 0, .int .i64 0, .int .i64 10]) := by
  refine .of (g := []) (by simp [AV.pureL, AV.pure]) ?_
  rw [aCall_fn rfl (E_fn96) (by simp [AV.pureL, AV.pure]) (Nat.le_of_ble_eq_true rfl) rfl rfl, body_96, c96]
  have f0 : ¬ x < 128 := by omega
  have f1 : ¬ x ≤ 127 := by omega
  have f2 : ¬ ((r.length : Int) + 1 = 0) := by omega
  have f3 : (0 : Int) < (r.length : Int) + 1 := by omega
  have f4 : ¬ x - 128 = 0 := by omega
  have f5 : 3 < x - 128 := by omega
  have f6 : ¬ x - 128 < 1 := by omega
  have w1 : IntKind.i64.wrap x = x := w_i64 _ (by omega) (by omega)
  have w2 : IntKind.i64.wrap (x - 128) = x - 128 := w_i64 _ (by omega) (by omega)
  have e1 : (x - 128 == 0) = false := by simp; omega
  have e2 : ¬ x = 128 := by omega
  simp [↓s_seq, ↓s_reg, ↓s_cond, ↓s_block, ↓s_cons, ↓s_consG, s_nil, s_gt, s_wb, s_val, s_rgx, s_sqn, s_sqr, s_cdb, s_bkr, s_ret', s_skip', s_finr, s_fin1, s_fix, s_clean, o_tmp, o_int, l_hit, l_miss, ol_nil, ol_cons, ol_some, x_move, x_assign, x_pick, pk_f, x_bin, bn_s, x_callB, x_conv, cvx, convA, frame0, binA, intOp, resL, resA, results1, sealA, AV.pure, AV.pureL, keepT, x_alloc, x_load, ldx, x_indexAddr, iax, newK, genOf, setK, lookK, writeC, readC, conts, TyI.mk1, indexAddrA, appendA, copyA, builtinA, AV.cells, AV.scal, gcH, reach, keysT, keepK, inKs, AV.keys, AV.keysL, Ty.isAgg, e1, bs_cons, bs_length, f1, f2, f3, f5, w1, w2]

theorem rget_C1 (f : Bool) (c : Option Nat) (x : Int) (r : List Int) (x0 : 132 ≤ x) (h : x ≤ 255) : Con E 20 89 [.sl f (bs (x :: r)) c] (.tup [.int .i64 0, .int .i64 0, .int .i64 10]) := by
  refine .of (g := []) (by simp [AV.pureL, AV.pure]) ?_
  rw [aCall_fn rfl (E_fn89) (by simp [AV.pureL, AV.pure]) (Nat.le_of_ble_eq_true rfl) rfl rfl, body_89, c89]
  have f0 : ¬ x < 128 := by omega
  have f1 : ¬ x ≤ 127 := by omega
  have f2 : ¬ ((r.length : Int) + 1 = 0) := by omega
  have f3 : (0 : Int) < (r.length : Int) + 1 := by omega
  have f4 : ¬ x - 128 = 0 := by omega
  have f5 : 3 < x - 128 := by omega
  have f6 : ¬ x - 128 < 1 := by omega
  have w1 : IntKind.i64.wrap x = x := w_i64 _ (by omega) (by omega)
  have w2 : IntKind.i64.wrap (x - 128) = x - 128 := w_i64 _ (by omega) (by omega)
  have e1 : (x - 128 == 0) = false := by simp; omega
  have e2 : ¬ x = 128 := by omega
  simp [↓s_seq, ↓s_reg, ↓s_cond, ↓s_cons, ↓s_consG, s_nil, s_gt, s_wb, s_val, s_rgx, s_sqn, s_sqr, s_cdb, s_ret', s_skip', s_finr, s_fin1, s_fix, s_clean, o_tmp, o_int, l_hit, l_miss, ol_nil, ol_cons, ol_some, x_move, x_assign, x_pick, pk_f, x_bin, bn_s, x_callB, x_conv, cvx, convA, frame0, binA, intOp, resL, resA, results1, sealA, AV.pure, AV.pureL, keepT, x_load, ldx, x_indexAddr, iax, newK, genOf, setK, lookK, writeC, readC, conts, TyI.mk1, indexAddrA, appendA, copyA, builtinA, AV.cells, AV.scal, gcH, Ty.isAgg, bs_cons, bs_length, f0, f2, f3, f5, f6, w1, w2]

theorem get_D1 (f : Bool) (c : Option Nat)  : Con E 10 96 [.sl f (bs ([129])) c] (.tup [.int .i64 0, .int .i64 0, .int .i64 7]) := by
  refine .of (g := []) (by simp [AV.pureL, AV.pure]) ?_
  rw [aCall_fn rfl (E_fn96) (by simp [AV.pureL, AV.pure]) (Nat.le_of_ble_eq_true rfl) rfl rfl, body_96, c96]
  simp [↓s_seq, ↓s_reg, ↓s_cond, ↓s_block, ↓s_cons, ↓s_consG, s_nil, s_gt, s_wb, s_val, s_rgx, s_sqn, s_sqr, s_cdb, s_bkr, s_ret', s_skip', s_finr, s_fin1, s_fix, s_clean, o_tmp, o_int, l_hit, l_miss, ol_nil, ol_cons, ol_some, x_move, x_assign, x_pick, pk_f, x_bin, bn_s, x_callB, x_conv, cvx, convA, frame0, binA, intOp, resL, resA, results1, sealA, AV.pure, AV.pureL, keepT, x_alloc, x_load, ldx, x_indexAddr, iax, newK, genOf, setK, lookK, writeL, writeC, readC, conts, TyI.mk1, indexAddrA, appendA, copyA, builtinA, AV.cells, AV.scal, gcH, reach, keysT, keepK, inKs, AV.keys, AV.keysL, Ty.isAgg, w_i64, bs_nil, bs_cons]

theorem rget_D1 (f : Bool) (c : Option Nat)  : Con E 20 89 [.sl f (bs ([129])) c] (.tup [.int .i64 0, .int .i64 0, .int .i64 7]) := by
  refine .of (g := []) (by simp [AV.pureL, AV.pure]) ?_
  rw [aCall_fn rfl (E_fn89) (by simp [AV.pureL, AV.pure]) (Nat.le_of_ble_eq_true rfl) rfl rfl, body_89, c89]
  simp [↓s_seq, ↓s_reg, ↓s_cond, ↓s_cons, ↓s_consG, s_nil, s_gt, s_wb, s_val, s_rgx, s_sqn, s_sqr, s_cdb, s_ret', s_skip', s_finr, s_fin1, s_fix, s_clean, o_tmp, o_int, l_hit, l_miss, ol_nil, ol_cons, ol_some, x_move, x_assign, x_pick, pk_f, x_bin, bn_s, x_callB, x_conv, cvx, convA, frame0, binA, intOp, resL, resA, results1, sealA, AV.pure, AV.pureL, keepT, x_load, ldx, x_indexAddr, iax, newK, genOf, setK, lookK, writeC, readC, conts, TyI.mk1, indexAddrA, appendA, copyA, builtinA, AV.cells, AV.scal, gcH, Ty.isAgg, w_i64, bs_nil, bs_cons]

theorem get_D2 (f : Bool) (c : Option Nat)  : Con E 10 96 [.sl f (bs ([130])) c] (.tup [.int .i64 0, .int .i64 0, .int .i64 7]) := by
  refine .of (g := []) (by simp [AV.pureL, AV.pure]) ?_
  rw [aCall_fn rfl (E_fn96) (by simp [AV.pureL, AV.pure]) (Nat.le_of_ble_eq_true rfl) rfl rfl, body_96, c96]
  simp [↓s_seq, ↓s_reg, ↓s_cond, ↓s_block, ↓s_cons, ↓s_consG, s_nil, s_gt, s_wb, s_val, s_rgx, s_sqn, s_sqr, s_cdb, s_bkr, s_ret', s_skip', s_finr, s_fin1, s_fix, s_clean, o_tmp, o_int, l_hit, l_miss, ol_nil, ol_cons, ol_some, x_move, x_assign, x_pick, pk_f, x_bin, bn_s, x_callB, x_conv, cvx, convA, frame0, binA, intOp, resL, resA, results1, sealA, AV.pure, AV.pureL, keepT, x_alloc, x_load, ldx, x_indexAddr, iax, newK, genOf, setK, lookK, writeL, writeC, readC, conts, TyI.mk1, indexAddrA, appendA, copyA, builtinA, AV.cells, AV.scal, gcH, reach, keysT, keepK, inKs, AV.keys, AV.keysL, Ty.isAgg, w_i64, bs_nil, bs_cons]

theorem rget_D2 (f : Bool) (c : Option Nat)  : Con E 20 89 [.sl f (bs ([130])) c] (.tup [.int .i64 0, .int .i64 0, .int .i64 7]) := by
  refine .of (g := []) (by simp [AV.pureL, AV.pure]) ?_
  rw [aCall_fn rfl (E_fn89) (by simp [AV.pureL, AV.pure]) (Nat.le_of_ble_eq_true rfl) rfl rfl, body_89, c89]
  simp [↓s_seq, ↓s_reg, ↓s_cond, ↓s_cons, ↓s_consG, s_nil, s_gt, s_wb, s_val, s_rgx, s_sqn, s_sqr, s_cdb, s_ret', s_skip', s_finr, s_fin1, s_fix, s_clean, o_tmp, o_int, l_hit, l_miss, ol_nil, ol_cons, ol_some, x_move, x_assign, x_pick, pk_f, x_bin, bn_s, x_callB, x_conv, cvx, convA, frame0, binA, intOp, resL, resA, results1, sealA, AV.pure, AV.pureL, keepT, x_load, ldx, x_indexAddr, iax, newK, genOf, setK, lookK, writeC, readC, conts, TyI.mk1, indexAddrA, appendA, copyA, builtinA, AV.cells, AV.scal, gcH, Ty.isAgg, w_i64, bs_nil, bs_cons]

theorem get_D2a (f : Bool) (c : Option Nat) (y : Int) : Con E 10 96 [.sl f (bs ([130, y])) c] (.tup [.int .i64 0, .int .i64 0, .int .i64 7]) := by
  refine .of (g := []) (by simp [AV.pureL, AV.pure]) ?_
  rw [aCall_fn rfl (E_fn96) (by simp [AV.pureL, AV.pure]) (Nat.le_of_ble_eq_true rfl) rfl rfl, body_96, c96]
  simp [↓s_seq, ↓s_reg, ↓s_cond, ↓s_block, ↓s_cons, ↓s_consG, s_nil, s_gt, s_wb, s_val, s_rgx, s_sqn, s_sqr, s_cdb, s_bkr, s_ret', s_skip', s_finr, s_fin1, s_fix, s_clean, o_tmp, o_int, l_hit, l_miss, ol_nil, ol_cons, ol_some, x_move, x_assign, x_pick, pk_f, x_bin, bn_s, x_callB, x_conv, cvx, convA, frame0, binA, intOp, resL, resA, results1, sealA, AV.pure, AV.pureL, keepT, x_alloc, x_load, ldx, x_indexAddr, iax, newK, genOf, setK, lookK, writeL, writeC, readC, conts, TyI.mk1, indexAddrA, appendA, copyA, builtinA, AV.cells, AV.scal, gcH, reach, keysT, keepK, inKs, AV.keys, AV.keysL, Ty.isAgg, w_i64, bs_nil, bs_cons]

theorem rget_D2a (f : Bool) (c : Option Nat) (y : Int) : Con E 20 89 [.sl f (bs ([130, y])) c] (.tup [.int .i64 0, .int .i64 0, .int .i64 7]) := by
  refine .of (g := []) (by simp [AV.pureL, AV.pure]) ?_
  rw [aCall_fn rfl (E_fn89) (by simp [AV.pureL, AV.pure]) (Nat.le_of_ble_eq_true rfl) rfl rfl, body_89, c89]
  simp [↓s_seq, ↓s_reg, ↓s_cond, ↓s_cons, ↓s_consG, s_nil, s_gt, s_wb, s_val, s_rgx, s_sqn, s_sqr, s_cdb, s_ret', s_skip', s_finr, s_fin1, s_fix, s_clean, o_tmp, o_int, l_hit, l_miss, ol_nil, ol_cons, ol_some, x_move, x_assign, x_pick, pk_f, x_bin, bn_s, x_callB, x_conv, cvx, convA, frame0, binA, intOp, resL, resA, results1, sealA, AV.pure, AV.pureL, keepT, x_load, ldx, x_indexAddr, iax, newK, genOf, setK, lookK, writeC, readC, conts, TyI.mk1, indexAddrA, appendA, copyA, builtinA, AV.cells, AV.scal, gcH, Ty.isAgg, w_i64, bs_nil, bs_cons]

theorem get_D3 (f : Bool) (c : Option Nat)  : Con E 10 96 [.sl f (bs ([131])) c] (.tup [.int .i64 0, .int .i64 0, .int .i64 7]) := by
  refine .of (g := []) (by simp [AV.pureL, AV.pure]) ?_
  rw [aCall_fn rfl (E_fn96) (by simp [AV.pureL, AV.pure]) (Nat.le_of_ble_eq_true rfl) rfl rfl, body_96, c96]
  simp [↓s_seq, ↓s_reg, ↓s_cond, ↓s_block, ↓s_cons, ↓s_consG, s_nil, s_gt, s_wb, s_val, s_rgx, s_sqn, s_sqr, s_cdb, s_bkr, s_ret', s_skip', s_finr, s_fin1, s_fix, s_clean, o_tmp, o_int, l_hit, l_miss, ol_nil, ol_cons, ol_some, x_move, x_assign, x_pick, pk_f, x_bin, bn_s, x_callB, x_conv, cvx, convA, frame0, binA, intOp, resL, resA, results1, sealA, AV.pure, AV.pureL, keepT, x_alloc, x_load, ldx, x_indexAddr, iax, newK, genOf, setK, lookK, writeL, writeC, readC, conts, TyI.mk1, indexAddrA, appendA, copyA, builtinA, AV.cells, AV.scal, gcH, reach, keysT, keepK, inKs, AV.keys, AV.keysL, Ty.isAgg, w_i64, bs_nil, bs_cons]

theorem rget_D3 (f : Bool) (c : Option Nat)  : Con E 20 89 [.sl f (bs ([131])) c] (.tup [.int .i64 0, .int .i64 0, .int .i64 7]) := by
  refine .of (g := []) (by simp [AV.pureL, AV.pure]) ?_
  rw [aCall_fn rfl (E_fn89) (by simp [AV.pureL, AV.pure]) (Nat.le_of_ble_eq_true rfl) rfl rfl, body_89, c89]
  simp [↓s_seq, ↓s_reg, ↓s_cond, ↓s_cons, ↓s_consG, s_nil, s_gt, s_wb, s_val, s_rgx, s_sqn, s_sqr, s_cdb, s_ret', s_skip', s_finr, s_fin1, s_fix, s_clean, o_tmp, o_int, l_hit, l_miss, ol_nil, ol_cons, ol_some, x_move, x_assign, x_pick, pk_f, x_bin, bn_s, x_callB, x_conv, cvx, convA, frame0, binA, intOp, resL, resA, results1, sealA, AV.pure, AV.pureL, keepT, x_load, ldx, x_indexAddr, iax, newK, genOf, setK, lookK, writeC, readC, conts, TyI.mk1, indexAddrA, appendA, copyA, builtinA, AV.cells, AV.scal, gcH, Ty.isAgg, w_i64, bs_nil, bs_cons]

theorem get_D3a (f : Bool) (c : Option Nat) (y : Int) : Con E 10 96 [.sl f (bs ([131, y])) c] (.tup [.int .i64 0, .int .i64 0, .int .i64 7]) := by
  refine .of (g := []) (by simp [AV.pureL, AV.pure]) ?_
  rw [aCall_fn rfl (E_fn96) (by simp [AV.pureL, AV.pure]) (Nat.le_of_ble_eq_true rfl) rfl rfl, body_96, c96]
  simp [↓s_seq, ↓s_reg, ↓s_cond, ↓s_block, ↓s_cons, ↓s_consG, s_nil, s_gt, s_wb, s_val, s_rgx, s_sqn, s_sqr, s_cdb, s_bkr, s_ret', s_skip', s_finr, s_fin1, s_fix, s_clean, o_tmp, o_int, l_hit, l_miss, ol_nil, ol_cons, ol_some, x_move, x_assign, x_pick, pk_f, x_bin, bn_s, x_callB, x_conv, cvx, convA, frame0, binA, intOp, resL, resA, results1, sealA, AV.pure, AV.pureL, keepT, x_alloc, x_load, ldx, x_indexAddr, iax, newK, genOf, setK, lookK, writeL, writeC, readC, conts, TyI.mk1, indexAddrA, appendA, copyA, builtinA, AV.cells, AV.scal, gcH, reach, keysT, keepK, inKs, AV.keys, AV.keysL, Ty.isAgg, w_i64, bs_nil, bs_cons]

theorem rget_D3a (f : Bool) (c : Option Nat) (y : Int) : Con E 20 89 [.sl f (bs ([131, y])) c] (.tup [.int .i64 0, .int .i64 0, .int .i64 7]) := by
  refine .of (g := []) (by simp [AV.pureL, AV.pure]) ?_
  rw [aCall_fn rfl (E_fn89) (by simp [AV.pureL, AV.pure]) (Nat.le_of_ble_eq_true rfl) rfl rfl, body_89, c89]
  simp [↓s_seq, ↓s_reg, ↓s_cond, ↓s_cons, ↓s_consG, s_nil, s_gt, s_wb, s_val, s_rgx, s_sqn, s_sqr, s_cdb, s_ret', s_skip', s_finr, s_fin1, s_fix, s_clean, o_tmp, o_int, l_hit, l_miss, ol_nil, ol_cons, ol_some, x_move, x_assign, x_pick, pk_f, x_bin, bn_s, x_callB, x_conv, cvx, convA, frame0, binA, intOp, resL, resA, results1, sealA, AV.pure, AV.pureL, keepT, x_load, ldx, x_indexAddr, iax, newK, genOf, setK, lookK, writeC, readC, conts, TyI.mk1, indexAddrA, appendA, copyA, builtinA, AV.cells, AV.scal, gcH, Ty.isAgg, w_i64, bs_nil, bs_cons]

theorem get_D3b (f : Bool) (c : Option Nat) (y z : Int) : Con E 10 96 [.sl f (bs ([131, y, z])) c] (.tup [.int .i64 0, .int .i64 0, .int .i64 7]) := by
  refine .of (g := []) (by simp [AV.pureL, AV.pure]) ?_
  rw [aCall_fn rfl (E_fn96) (by simp [AV.pureL, AV.pure]) (Nat.le_of_ble_eq_true rfl) rfl rfl, body_96, c96]
  simp [↓s_seq, ↓s_reg, ↓s_cond, ↓s_block, ↓s_cons, ↓s_consG, s_nil, s_gt, s_wb, s_val, s_rgx, s_sqn, s_sqr, s_cdb, s_bkr, s_ret', s_skip', s_finr, s_fin1, s_fix, s_clean, o_tmp, o_int, l_hit, l_miss, ol_nil, ol_cons, ol_some, x_move, x_assign, x_pick, pk_f, x_bin, bn_s, x_callB, x_conv, cvx, convA, frame0, binA, intOp, resL, resA, results1, sealA, AV.pure, AV.pureL, keepT, x_alloc, x_load, ldx, x_indexAddr, iax, newK, genOf, setK, lookK, writeL, writeC, readC, conts, TyI.mk1, indexAddrA, appendA, copyA, builtinA, AV.cells, AV.scal, gcH, reach, keysT, keepK, inKs, AV.keys, AV.keysL, Ty.isAgg, w_i64, bs_nil, bs_cons]

theorem rget_D3b (f : Bool) (c : Option Nat) (y z : Int) : Con E 20 89 [.sl f (bs ([131, y, z])) c] (.tup [.int .i64 0, .int .i64 0, .int .i64 7]) := by
  refine .of (g := []) (by simp [AV.pureL, AV.pure]) ?_
  rw [aCall_fn rfl (E_fn89) (by simp [AV.pureL, AV.pure]) (Nat.le_of_ble_eq_true rfl) rfl rfl, body_89, c89]
  simp [↓s_seq, ↓s_reg, ↓s_cond, ↓s_cons, ↓s_consG, s_nil, s_gt, s_wb, s_val, s_rgx, s_sqn, s_sqr, s_cdb, s_ret', s_skip', s_finr, s_fin1, s_fix, s_clean, o_tmp, o_int, l_hit, l_miss, ol_nil, ol_cons, ol_some, x_move, x_assign, x_pick, pk_f, x_bin, bn_s, x_callB, x_conv, cvx, convA, frame0, binA, intOp, resL, resA, results1, sealA, AV.pure, AV.pureL, keepT, x_load, ldx, x_indexAddr, iax, newK, genOf, setK, lookK, writeC, readC, conts, TyI.mk1, indexAddrA, appendA, copyA, builtinA, AV.cells, AV.scal, gcH, Ty.isAgg, w_i64, bs_nil, bs_cons]
end P7

end
section
/- What the two readers of lengths answer, at the evaluator. No conditions. -/
open Ab Go TabE P1 P2 P2 P5 P7
set_option maxRecDepth 20000
set_option linter.unusedSimpArgs false
set_option linter.unusedVariables false
set_option maxHeartbeats 2000000
namespace P8
theorem get_E1 (f : Bool) (c : Option Nat) (y : Int) (r : List Int) (y0 : 128 ≤ y) (y1 : y < 256) : Con E 10 96 [.sl f (bs (129 :: y :: r)) c] (.tup [.int .i64 y, .int .i64 2, .int .i64 0]) := by
  refine .of (g := []) (by simp [AV.pureL, AV.pure]) ?_
  rw [aCall_fn rfl (E_fn96) (by simp [AV.pureL, AV.pure]) (Nat.le_of_ble_eq_true rfl) rfl rfl, body_96, c96]
  have f0 : ¬ ((r.length : Int) + 1 + 1 = 0) := by omega
  have f1 : (0 : Int) < (r.length : Int) + 1 + 1 := by omega
  have f2 : ¬ ((r.length : Int) + 1 + 1 ≤ 1) := by omega
  have f3 : ¬ ((r.length : Int) + 1 + 1 < 2) := by omega
  have f4 : (1 : Int) < (r.length : Int) + 1 + 1 := by omega
  have f5 : ¬ y = 0 := by omega
  have f6 : ¬ y < 128 := by omega
  have f7 : ¬ y ≤ 127 := by omega
  have w1 : IntKind.i64.wrap (y) = y := w_i64 _ (by omega) (by omega)
  have m1 : min (r.length + 1) 1 = 1 := by omega
  have o2 : or64 0 y = y := by have h := (or_three 0 0 y (by omega) (by omega) (by omega) (by omega) (by omega) (by omega)).2; simpa using h
  have e1 : (y == 0) = false := by simp; omega
  simp [↓s_seq, ↓s_reg, ↓s_regd, ↓s_cond, ↓s_block, ↓s_cons, ↓s_consG, s_nil, s_gt, s_wb, s_val, s_rgx, s_sqn, s_cdb, s_bkn, s_ret', s_skip', s_finr, s_fin1, s_fix, s_clean, o_tmp, o_int, l_hit, l_miss, ol_nil, ol_cons, ol_some, x_move, x_assign, x_pick, pk_f, x_bin, bn_s, x_callB, x_conv, cvx, convA, frame0, binA, intOp, resL, resA, results1, sealA, AV.pure, AV.pureL, keepT, x_alloc, x_load, ldx, x_slice, slx, x_indexAddr, iax, newK, genOf, setK, lookK, writeL, writeC, readC, conts, TyI.mk1, sliceA, boundsA, boundsB, fitsA, numA, indexAddrA, appendA, copyA, builtinA, AV.cells, AV.scal, gcH, reach, keysT, keepK, inKs, AV.keys, AV.keysL, Ty.isAgg, w_i64, IntKind.bits, ↓i_or, or64_zero, bs_cons, bs_length, bs_cells, bs_all, f0, f1, f2, f4, f7, w1, m1, o2, e1]

theorem rget_E1 (f : Bool) (c : Option Nat) (y : Int) (r : List Int) (y0 : 128 ≤ y) (y1 : y < 256) : Con E 20 89 [.sl f (bs (129 :: y :: r)) c] (.tup [.int .i64 y, .int .i64 2, .int .i64 0]) := by
  refine .of (g := []) (by simp [AV.pureL, AV.pure]) ?_
  rw [aCall_fn rfl (E_fn89) (by simp [AV.pureL, AV.pure]) (Nat.le_of_ble_eq_true rfl) rfl rfl, body_89, c89]
  have f0 : ¬ ((r.length : Int) + 1 + 1 = 0) := by omega
  have f1 : (0 : Int) < (r.length : Int) + 1 + 1 := by omega
  have f2 : ¬ ((r.length : Int) + 1 + 1 ≤ 1) := by omega
  have f3 : ¬ ((r.length : Int) + 1 + 1 < 2) := by omega
  have f4 : (1 : Int) < (r.length : Int) + 1 + 1 := by omega
  have f5 : ¬ y = 0 := by omega
  have f6 : ¬ y < 128 := by omega
  have f7 : ¬ y ≤ 127 := by omega
  have w1 : IntKind.i64.wrap (y) = y := w_i64 _ (by omega) (by omega)
  have m1 : min (r.length + 1) 1 = 1 := by omega
  have o2 : or64 0 y = y := by have h := (or_three 0 0 y (by omega) (by omega) (by omega) (by omega) (by omega) (by omega)).2; simpa using h
  have e1 : (y == 0) = false := by simp; omega
  simp [↓s_seq, ↓s_reg, ↓s_cond, ↓s_block, ↓s_cons, ↓s_consG, s_nil, s_loop, s_round, s_lpn, s_lpe, firstReg, s_gt, s_wb, s_val, s_rgx, s_sqn, s_sqe, s_cdb, s_bkn, s_bke, s_exit, s_ret', s_skip', s_finr, s_fin1, s_fix, s_clean, o_tmp, o_int, l_hit, l_miss, ol_nil, ol_cons, ol_some, x_move, x_assign, x_pick, pk_f, x_bin, bn_s, x_callB, x_conv, cvx, convA, frame0, binA, intOp, resL, resA, results1, sealA, AV.pure, AV.pureL, keepT, x_load, ldx, x_indexAddr, iax, newK, genOf, setK, lookK, writeC, readC, conts, TyI.mk1, indexAddrA, appendA, copyA, builtinA, AV.cells, AV.scal, gcH, Ty.isAgg, w_i64, bs_cons, bs_length, f0, f1, f3, f4, f6, w1, e1]

theorem get_F1 (f : Bool) (c : Option Nat) (y : Int) (r : List Int) (y0 : 0 < y) (y1 : y ≤ 127) : Con E 10 96 [.sl f (bs (129 :: y :: r)) c] (.tup [.int .i64 0, .int .i64 0, .int .i64 10]) := by
  refine .of (g := []) (by simp [AV.pureL, AV.pure]) ?_
  rw [aCall_fn rfl (E_fn96) (by simp [AV.pureL, AV.pure]) (Nat.le_of_ble_eq_true rfl) rfl rfl, body_96, c96]
  have f0 : ¬ ((r.length : Int) + 1 + 1 = 0) := by omega
  have f1 : (0 : Int) < (r.length : Int) + 1 + 1 := by omega
  have f2 : ¬ ((r.length : Int) + 1 + 1 ≤ 1) := by omega
  have f3 : ¬ ((r.length : Int) + 1 + 1 < 2) := by omega
  have f4 : (1 : Int) < (r.length : Int) + 1 + 1 := by omega
  have f5 : ¬ y = 0 := by omega
  have f6 : y < 128 := by omega
  have f7 : y ≤ 127 := by omega
  have w1 : IntKind.i64.wrap (y) = y := w_i64 _ (by omega) (by omega)
  have m1 : min (r.length + 1) 1 = 1 := by omega
  have o2 : or64 0 y = y := by have h := (or_three 0 0 y (by omega) (by omega) (by omega) (by omega) (by omega) (by omega)).2; simpa using h
  have e1 : (y == 0) = false := by simp; omega
  simp [↓s_seq, ↓s_reg, ↓s_regd, ↓s_cond, ↓s_block, ↓s_cons, ↓s_consG, s_nil, s_gt, s_wb, s_val, s_rgx, s_sqn, s_sqr, s_cdb, s_bkn, s_ret', s_skip', s_finr, s_fin1, s_fix, s_clean, o_tmp, o_int, l_hit, l_miss, ol_nil, ol_cons, ol_some, x_move, x_assign, x_pick, pk_f, x_bin, bn_s, x_callB, x_conv, cvx, convA, frame0, binA, intOp, resL, resA, results1, sealA, AV.pure, AV.pureL, keepT, x_alloc, x_load, ldx, x_slice, slx, x_indexAddr, iax, newK, genOf, setK, lookK, writeL, writeC, readC, conts, TyI.mk1, sliceA, boundsA, boundsB, fitsA, numA, indexAddrA, appendA, copyA, builtinA, AV.cells, AV.scal, gcH, reach, keysT, keepK, inKs, AV.keys, AV.keysL, Ty.isAgg, w_i64, IntKind.bits, ↓i_or, or64_zero, bs_cons, bs_length, bs_cells, bs_all, f0, f1, f2, f4, f7, w1, m1, o2, e1]

theorem rget_F1 (f : Bool) (c : Option Nat) (y : Int) (r : List Int) (y0 : 0 < y) (y1 : y ≤ 127) : Con E 20 89 [.sl f (bs (129 :: y :: r)) c] (.tup [.int .i64 0, .int .i64 0, .int .i64 10]) := by
  refine .of (g := []) (by simp [AV.pureL, AV.pure]) ?_
  rw [aCall_fn rfl (E_fn89) (by simp [AV.pureL, AV.pure]) (Nat.le_of_ble_eq_true rfl) rfl rfl, body_89, c89]
  have f0 : ¬ ((r.length : Int) + 1 + 1 = 0) := by omega
  have f1 : (0 : Int) < (r.length : Int) + 1 + 1 := by omega
  have f2 : ¬ ((r.length : Int) + 1 + 1 ≤ 1) := by omega
  have f3 : ¬ ((r.length : Int) + 1 + 1 < 2) := by omega
  have f4 : (1 : Int) < (r.length : Int) + 1 + 1 := by omega
  have f5 : ¬ y = 0 := by omega
  have f6 : y < 128 := by omega
  have f7 : y ≤ 127 := by omega
  have w1 : IntKind.i64.wrap (y) = y := w_i64 _ (by omega) (by omega)
  have m1 : min (r.length + 1) 1 = 1 := by omega
  have o2 : or64 0 y = y := by have h := (or_three 0 0 y (by omega) (by omega) (by omega) (by omega) (by omega) (by omega)).2; simpa using h
  have e1 : (y == 0) = false := by simp; omega
  simp [↓s_seq, ↓s_reg, ↓s_cond, ↓s_block, ↓s_cons, ↓s_consG, s_nil, s_loop, s_round, s_lpn, s_lpe, firstReg, s_gt, s_wb, s_val, s_rgx, s_sqn, s_sqr, s_sqe, s_cdb, s_bkn, s_bke, s_exit, s_ret', s_skip', s_finr, s_fin1, s_fix, s_clean, o_tmp, o_int, l_hit, l_miss, ol_nil, ol_cons, ol_some, x_move, x_assign, x_pick, pk_f, x_bin, bn_s, x_callB, x_conv, cvx, convA, frame0, binA, intOp, resL, resA, results1, sealA, AV.pure, AV.pureL, keepT, x_load, ldx, x_indexAddr, iax, newK, genOf, setK, lookK, writeC, readC, conts, TyI.mk1, indexAddrA, appendA, copyA, builtinA, AV.cells, AV.scal, gcH, Ty.isAgg, w_i64, bs_cons, bs_length, f0, f1, f3, f4, f6, w1, e1]

theorem get_Z1 (f : Bool) (c : Option Nat) (r : List Int) : Con E 10 96 [.sl f (bs (129 :: 0 :: r)) c] (.tup [.int .i64 0, .int .i64 0, .int .i64 10]) := by
  refine .of (g := []) (by simp [AV.pureL, AV.pure]) ?_
  rw [aCall_fn rfl (E_fn96) (by simp [AV.pureL, AV.pure]) (Nat.le_of_ble_eq_true rfl) rfl rfl, body_96, c96]
  have f0 : ¬ ((r.length : Int) + 1 + 1 = 0) := by omega
  have f1 : (0 : Int) < (r.length : Int) + 1 + 1 := by omega
  have f2 : ¬ ((r.length : Int) + 1 + 1 ≤ 1) := by omega
  have f3 : ¬ ((r.length : Int) + 1 + 1 < 2) := by omega
  have f4 : (1 : Int) < (r.length : Int) + 1 + 1 := by omega
  have m1 : min (r.length + 1) 1 = 1 := by omega
  simp [↓s_seq, ↓s_reg, ↓s_regd, ↓s_cond, ↓s_block, ↓s_cons, ↓s_consG, s_nil, s_gt, s_gf, s_wb, s_val, s_rgx, s_sqn, s_sqr, s_cdb, s_bkn, s_ret', s_skip', s_finr, s_fin1, s_fix, s_clean, o_tmp, o_int, o_bool, l_hit, l_miss, ol_nil, ol_cons, ol_some, x_move, x_assign, x_pick, pk_t, pk_f, x_bin, bn_s, x_callB, x_conv, cvx, convA, frame0, binA, intOp, resL, resA, results1, sealA, AV.pure, AV.pureL, keepT, x_alloc, x_load, ldx, x_slice, slx, x_indexAddr, iax, newK, genOf, setK, lookK, writeL, writeC, readC, conts, TyI.mk1, sliceA, boundsA, boundsB, fitsA, numA, indexAddrA, appendA, copyA, builtinA, AV.cells, AV.scal, gcH, reach, keysT, keepK, inKs, AV.keys, AV.keysL, Ty.isAgg, w_i64, IntKind.bits, ↓i_or, or64_zero, bs_cons, bs_length, bs_cells, bs_all, f0, f1, f2, f4, m1]

theorem rget_Z1 (f : Bool) (c : Option Nat) (r : List Int) : Con E 20 89 [.sl f (bs (129 :: 0 :: r)) c] (.tup [.int .i64 0, .int .i64 0, .int .i64 10]) := by
  refine .of (g := []) (by simp [AV.pureL, AV.pure]) ?_
  rw [aCall_fn rfl (E_fn89) (by simp [AV.pureL, AV.pure]) (Nat.le_of_ble_eq_true rfl) rfl rfl, body_89, c89]
  have f0 : ¬ ((r.length : Int) + 1 + 1 = 0) := by omega
  have f1 : (0 : Int) < (r.length : Int) + 1 + 1 := by omega
  have f2 : ¬ ((r.length : Int) + 1 + 1 ≤ 1) := by omega
  have f3 : ¬ ((r.length : Int) + 1 + 1 < 2) := by omega
  have f4 : (1 : Int) < (r.length : Int) + 1 + 1 := by omega
  have m1 : min (r.length + 1) 1 = 1 := by omega
  simp [↓s_seq, ↓s_reg, ↓s_cond, ↓s_block, ↓s_cons, ↓s_consG, s_nil, s_loop, s_round, s_lpn, s_lpe, firstReg, s_gt, s_gf, s_wb, s_val, s_rgx, s_sqn, s_sqr, s_sqe, s_cdb, s_bkn, s_bke, s_exit, s_ret', s_skip', s_finr, s_fin1, s_fix, s_clean, o_tmp, o_int, o_bool, l_hit, l_miss, ol_nil, ol_cons, ol_some, x_move, x_assign, x_pick, pk_t, pk_f, x_bin, bn_s, x_callB, x_conv, cvx, convA, frame0, binA, intOp, resL, resA, results1, sealA, AV.pure, AV.pureL, keepT, x_load, ldx, x_indexAddr, iax, newK, genOf, setK, lookK, writeC, readC, conts, TyI.mk1, indexAddrA, appendA, copyA, builtinA, AV.cells, AV.scal, gcH, Ty.isAgg, w_i64, bs_cons, bs_length, f0, f1, f3, f4]

theorem get_E2 (f : Bool) (c : Option Nat) (y z : Int) (r : List Int) (y0 : 0 < y) (y1 : y < 256) (z0 : 0 ≤ z) (z1 : z < 256) : Con E 10 96 [.sl f (bs (130 :: y :: z :: r)) c] (.tup [.int .i64 (256 * y + z), .int .i64 3, .int .i64 0]) := by
  refine .of (g := []) (by simp [AV.pureL, AV.pure]) ?_
  rw [aCall_fn rfl (E_fn96) (by simp [AV.pureL, AV.pure]) (Nat.le_of_ble_eq_true rfl) rfl rfl, body_96, c96]
  have f0 : ¬ ((r.length : Int) + 1 + 1 + 1 = 0) := by omega
  have f1 : (0 : Int) < (r.length : Int) + 1 + 1 + 1 := by omega
  have f2 : ¬ ((r.length : Int) + 1 + 1 + 1 ≤ 2) := by omega
  have f3 : ¬ ((r.length : Int) + 1 + 1 + 1 < 3) := by omega
  have f4 : (1 : Int) < (r.length : Int) + 1 + 1 + 1 := by omega
  have f5 : (2 : Int) < (r.length : Int) + 1 + 1 + 1 := by omega
  have f6 : ¬ y = 0 := by omega
  have f7 : ¬ 256 * y + z < 128 := by omega
  have f8 : ¬ 256 * y + z ≤ 127 := by omega
  have w1 : IntKind.i64.wrap (y) = y := w_i64 _ (by omega) (by omega)
  have w2 : IntKind.i64.wrap (z) = z := w_i64 _ (by omega) (by omega)
  have w3 : IntKind.i64.wrap (y * 256) = y * 256 := w_i64 _ (by omega) (by omega)
  have w4 : IntKind.i64.wrap (256 * y) = 256 * y := w_i64 _ (by omega) (by omega)
  have w5 : IntKind.i64.wrap (256 * y + z) = 256 * y + z := w_i64 _ (by omega) (by omega)
  have m2 : min (r.length + 1 + 1) 2 = 2 := by omega
  obtain ⟨p1, p2⟩ := or_three 0 y z (by omega) (by omega) (by omega) (by omega) (by omega) (by omega)
  have o1 : or64 0 (y * 256) = y * 256 := by simpa using p1
  have o2 : or64 (y * 256) z = 256 * y + z := by
    have e : (0 : Int) * 65536 + y * 256 = y * 256 := by omega
    rw [e] at p2
    omega
  have e1 : (y == 0) = false := by simp; omega
  simp [↓s_seq, ↓s_reg, ↓s_regd, ↓s_cond, ↓s_block, ↓s_cons, ↓s_consG, s_nil, s_gt, s_wb, s_val, s_rgx, s_sqn, s_cdb, s_bkn, s_ret', s_skip', s_finr, s_fin1, s_fix, s_clean, o_tmp, o_int, l_hit, l_miss, ol_nil, ol_cons, ol_some, x_move, x_assign, x_pick, pk_f, x_bin, bn_s, x_callB, x_conv, cvx, convA, frame0, binA, intOp, resL, resA, results1, sealA, AV.pure, AV.pureL, keepT, x_alloc, x_load, ldx, x_slice, slx, x_indexAddr, iax, newK, genOf, setK, lookK, writeL, writeC, readC, conts, TyI.mk1, sliceA, boundsA, boundsB, fitsA, numA, indexAddrA, appendA, copyA, builtinA, AV.cells, AV.scal, gcH, reach, keysT, keepK, inKs, AV.keys, AV.keysL, Ty.isAgg, w_i64, IntKind.bits, ↓i_or, bs_cons, bs_length, bs_cells, bs_all, f0, f1, f2, f4, f8, w1, w2, w3, m2, o1, o2, e1]

theorem rget_E2 (f : Bool) (c : Option Nat) (y z : Int) (r : List Int) (y0 : 0 < y) (y1 : y < 256) (z0 : 0 ≤ z) (z1 : z < 256) : Con E 20 89 [.sl f (bs (130 :: y :: z :: r)) c] (.tup [.int .i64 (256 * y + z), .int .i64 3, .int .i64 0]) := by
  refine .of (g := []) (by simp [AV.pureL, AV.pure]) ?_
  rw [aCall_fn rfl (E_fn89) (by simp [AV.pureL, AV.pure]) (Nat.le_of_ble_eq_true rfl) rfl rfl, body_89, c89]
  have f0 : ¬ ((r.length : Int) + 1 + 1 + 1 = 0) := by omega
  have f1 : (0 : Int) < (r.length : Int) + 1 + 1 + 1 := by omega
  have f2 : ¬ ((r.length : Int) + 1 + 1 + 1 ≤ 2) := by omega
  have f3 : ¬ ((r.length : Int) + 1 + 1 + 1 < 3) := by omega
  have f4 : (1 : Int) < (r.length : Int) + 1 + 1 + 1 := by omega
  have f5 : (2 : Int) < (r.length : Int) + 1 + 1 + 1 := by omega
  have f6 : ¬ y = 0 := by omega
  have f7 : ¬ 256 * y + z < 128 := by omega
  have f8 : ¬ 256 * y + z ≤ 127 := by omega
  have w1 : IntKind.i64.wrap (y) = y := w_i64 _ (by omega) (by omega)
  have w2 : IntKind.i64.wrap (z) = z := w_i64 _ (by omega) (by omega)
  have w3 : IntKind.i64.wrap (y * 256) = y * 256 := w_i64 _ (by omega) (by omega)
  have w4 : IntKind.i64.wrap (256 * y) = 256 * y := w_i64 _ (by omega) (by omega)
  have w5 : IntKind.i64.wrap (256 * y + z) = 256 * y + z := w_i64 _ (by omega) (by omega)
  have m2 : min (r.length + 1 + 1) 2 = 2 := by omega
  obtain ⟨p1, p2⟩ := or_three 0 y z (by omega) (by omega) (by omega) (by omega) (by omega) (by omega)
  have o1 : or64 0 (y * 256) = y * 256 := by simpa using p1
  have o2 : or64 (y * 256) z = 256 * y + z := by
    have e : (0 : Int) * 65536 + y * 256 = y * 256 := by omega
    rw [e] at p2
    omega
  have e1 : (y == 0) = false := by simp; omega
  simp [↓s_seq, ↓s_reg, ↓s_cond, ↓s_block, ↓s_cons, ↓s_consG, s_nil, s_loop, s_round, s_lpn, s_lpe, firstReg, s_gt, s_wb, s_val, s_rgx, s_sqn, s_sqe, s_cdb, s_bkn, s_bke, s_exit, s_ret', s_skip', s_finr, s_fin1, s_fix, s_clean, o_tmp, o_int, l_hit, l_miss, ol_nil, ol_cons, ol_some, x_move, x_assign, x_pick, pk_f, x_bin, bn_s, x_callB, x_conv, cvx, convA, frame0, binA, intOp, resL, resA, results1, sealA, AV.pure, AV.pureL, keepT, x_load, ldx, x_indexAddr, iax, newK, genOf, setK, lookK, writeC, readC, conts, TyI.mk1, indexAddrA, appendA, copyA, builtinA, AV.cells, AV.scal, gcH, Ty.isAgg, w_i64, bs_cons, bs_length, f0, f1, f3, f4, f5, f7, w1, w2, w4, w5, e1]

theorem get_Z2 (f : Bool) (c : Option Nat) (z : Int) (r : List Int) (z0 : 0 ≤ z) (z1 : z < 256) : Con E 10 96 [.sl f (bs (130 :: 0 :: z :: r)) c] (.tup [.int .i64 0, .int .i64 0, .int .i64 10]) := by
  refine .of (g := []) (by simp [AV.pureL, AV.pure]) ?_
  rw [aCall_fn rfl (E_fn96) (by simp [AV.pureL, AV.pure]) (Nat.le_of_ble_eq_true rfl) rfl rfl, body_96, c96]
  have f0 : ¬ ((r.length : Int) + 1 + 1 + 1 = 0) := by omega
  have f1 : (0 : Int) < (r.length : Int) + 1 + 1 + 1 := by omega
  have f2 : ¬ ((r.length : Int) + 1 + 1 + 1 ≤ 2) := by omega
  have f3 : ¬ ((r.length : Int) + 1 + 1 + 1 < 3) := by omega
  have f4 : (1 : Int) < (r.length : Int) + 1 + 1 + 1 := by omega
  have f5 : (2 : Int) < (r.length : Int) + 1 + 1 + 1 := by omega
  have w2 : IntKind.i64.wrap (z) = z := w_i64 _ (by omega) (by omega)
  have m2 : min (r.length + 1 + 1) 2 = 2 := by omega
  simp [↓s_seq, ↓s_reg, ↓s_regd, ↓s_cond, ↓s_block, ↓s_cons, ↓s_consG, s_nil, s_gt, s_gf, s_wb, s_val, s_rgx, s_sqn, s_sqr, s_cdb, s_bkn, s_ret', s_skip', s_finr, s_fin1, s_fix, s_clean, o_tmp, o_int, o_bool, l_hit, l_miss, ol_nil, ol_cons, ol_some, x_move, x_assign, x_pick, pk_t, pk_f, x_bin, bn_s, x_callB, x_conv, cvx, convA, frame0, binA, intOp, resL, resA, results1, sealA, AV.pure, AV.pureL, keepT, x_alloc, x_load, ldx, x_slice, slx, x_indexAddr, iax, newK, genOf, setK, lookK, writeL, writeC, readC, conts, TyI.mk1, sliceA, boundsA, boundsB, fitsA, numA, indexAddrA, appendA, copyA, builtinA, AV.cells, AV.scal, gcH, reach, keysT, keepK, inKs, AV.keys, AV.keysL, Ty.isAgg, w_i64, IntKind.bits, ↓i_or, or64_zero, bs_cons, bs_length, bs_cells, bs_all, f0, f1, f2, f4, w2, m2]

theorem rget_Z2 (f : Bool) (c : Option Nat) (z : Int) (r : List Int) (z0 : 0 ≤ z) (z1 : z < 256) : Con E 20 89 [.sl f (bs (130 :: 0 :: z :: r)) c] (.tup [.int .i64 0, .int .i64 0, .int .i64 10]) := by
  refine .of (g := []) (by simp [AV.pureL, AV.pure]) ?_
  rw [aCall_fn rfl (E_fn89) (by simp [AV.pureL, AV.pure]) (Nat.le_of_ble_eq_true rfl) rfl rfl, body_89, c89]
  have f0 : ¬ ((r.length : Int) + 1 + 1 + 1 = 0) := by omega
  have f1 : (0 : Int) < (r.length : Int) + 1 + 1 + 1 := by omega
  have f2 : ¬ ((r.length : Int) + 1 + 1 + 1 ≤ 2) := by omega
  have f3 : ¬ ((r.length : Int) + 1 + 1 + 1 < 3) := by omega
  have f4 : (1 : Int) < (r.length : Int) + 1 + 1 + 1 := by omega
  have f5 : (2 : Int) < (r.length : Int) + 1 + 1 + 1 := by omega
  have w2 : IntKind.i64.wrap (z) = z := w_i64 _ (by omega) (by omega)
  have m2 : min (r.length + 1 + 1) 2 = 2 := by omega
  simp [↓s_seq, ↓s_reg, ↓s_cond, ↓s_block, ↓s_cons, ↓s_consG, s_nil, s_loop, s_round, s_lpn, s_lpe, firstReg, s_gt, s_gf, s_wb, s_val, s_rgx, s_sqn, s_sqr, s_sqe, s_cdb, s_bkn, s_bke, s_exit, s_ret', s_skip', s_finr, s_fin1, s_fix, s_clean, o_tmp, o_int, o_bool, l_hit, l_miss, ol_nil, ol_cons, ol_some, x_move, x_assign, x_pick, pk_t, pk_f, x_bin, bn_s, x_callB, x_conv, cvx, convA, frame0, binA, intOp, resL, resA, results1, sealA, AV.pure, AV.pureL, keepT, x_load, ldx, x_indexAddr, iax, newK, genOf, setK, lookK, writeC, readC, conts, TyI.mk1, indexAddrA, appendA, copyA, builtinA, AV.cells, AV.scal, gcH, Ty.isAgg, w_i64, bs_cons, bs_length, f0, f1, f3, f4, f5, w2]
end P8

end
section
/- What the two readers of lengths answer, at the evaluator. No conditions. -/
open Ab Go TabE P1 P2 P2 P5 P7 P8
set_option maxRecDepth 20000
set_option linter.unusedSimpArgs false
set_option linter.unusedVariables false
set_option maxHeartbeats 2000000
namespace P9
theorem get_E3 (f : Bool) (c : Option Nat) (y z u : Int) (r : List Int) (y0 : 0 < y) (y1 : y < 256) (z0 : 0 ≤ z) (z1 : z < 256) (u0 : 0 ≤ u) (u1 : u < 256) : Con E 10 96 [.sl f (bs (131 :: y :: z :: u :: r)) c] (.tup [.int .i64 (256 * (256 * y + z) + u), .int .i64 4, .int .i64 0]) := by
  refine .of (g := []) (by simp [AV.pureL, AV.pure]) ?_
  rw [aCall_fn rfl (E_fn96) (by simp [AV.pureL, AV.pure]) (Nat.le_of_ble_eq_true rfl) rfl rfl, body_96, c96]
  have f0 : ¬ ((r.length : Int) + 1 + 1 + 1 + 1 = 0) := by omega
  have f1 : (0 : Int) < (r.length : Int) + 1 + 1 + 1 + 1 := by omega
  have f2 : ¬ ((r.length : Int) + 1 + 1 + 1 + 1 ≤ 3) := by omega
  have f3 : ¬ ((r.length : Int) + 1 + 1 + 1 + 1 < 4) := by omega
  have f4 : (1 : Int) < (r.length : Int) + 1 + 1 + 1 + 1 := by omega
  have f5 : (2 : Int) < (r.length : Int) + 1 + 1 + 1 + 1 := by omega
  have f6 : (3 : Int) < (r.length : Int) + 1 + 1 + 1 + 1 := by omega
  have f7 : ¬ y = 0 := by omega
  have f8 : ¬ 256 * (256 * y + z) + u < 128 := by omega
  have f9 : ¬ 256 * (256 * y + z) + u ≤ 127 := by omega
  have w1 : IntKind.i64.wrap (y) = y := w_i64 _ (by omega) (by omega)
  have w2 : IntKind.i64.wrap (z) = z := w_i64 _ (by omega) (by omega)
  have w3 : IntKind.i64.wrap (u) = u := w_i64 _ (by omega) (by omega)
  have w4 : IntKind.i64.wrap (256 * y) = 256 * y := w_i64 _ (by omega) (by omega)
  have w5 : IntKind.i64.wrap (256 * y + z) = 256 * y + z := w_i64 _ (by omega) (by omega)
  have w6 : IntKind.i64.wrap (256 * (256 * y + z)) = 256 * (256 * y + z) := w_i64 _ (by omega) (by omega)
  have w7 : IntKind.i64.wrap (256 * (256 * y + z) + u) = 256 * (256 * y + z) + u := w_i64 _ (by omega) (by omega)
  have w8 : IntKind.i64.wrap (y * 65536) = y * 65536 := w_i64 _ (by omega) (by omega)
  have w9 : IntKind.i64.wrap (z * 256) = z * 256 := w_i64 _ (by omega) (by omega)
  have m3 : min (r.length + 1 + 1 + 1) 3 = 3 := by omega
  obtain ⟨o1, p2⟩ := or_three y z u (by omega) (by omega) (by omega) (by omega) (by omega) (by omega)
  have o2 : or64 (y * 65536 + z * 256) u = 256 * (256 * y + z) + u := by omega
  have e1 : (y == 0) = false := by simp; omega
  simp [↓s_seq, ↓s_reg, ↓s_regd, ↓s_cond, ↓s_block, ↓s_cons, ↓s_consG, s_nil, s_gt, s_wb, s_val, s_rgx, s_sqn, s_cdb, s_bkn, s_ret', s_skip', s_finr, s_fin1, s_fix, s_clean, o_tmp, o_int, l_hit, l_miss, ol_nil, ol_cons, ol_some, x_move, x_assign, x_pick, pk_f, x_bin, bn_s, x_callB, x_conv, cvx, convA, frame0, binA, intOp, resL, resA, results1, sealA, AV.pure, AV.pureL, keepT, x_alloc, x_load, ldx, x_slice, slx, x_indexAddr, iax, newK, genOf, setK, lookK, writeL, writeC, readC, conts, TyI.mk1, sliceA, boundsA, boundsB, fitsA, numA, indexAddrA, appendA, copyA, builtinA, AV.cells, AV.scal, gcH, reach, keysT, keepK, inKs, AV.keys, AV.keysL, Ty.isAgg, w_i64, IntKind.bits, ↓i_or, bs_cons, bs_length, bs_cells, bs_all, f0, f1, f2, f4, f9, w1, w2, w3, w8, w9, m3, o1, o2, e1]

theorem rget_E3 (f : Bool) (c : Option Nat) (y z u : Int) (r : List Int) (y0 : 0 < y) (y1 : y < 256) (z0 : 0 ≤ z) (z1 : z < 256) (u0 : 0 ≤ u) (u1 : u < 256) : Con E 20 89 [.sl f (bs (131 :: y :: z :: u :: r)) c] (.tup [.int .i64 (256 * (256 * y + z) + u), .int .i64 4, .int .i64 0]) := by
  refine .of (g := []) (by simp [AV.pureL, AV.pure]) ?_
  rw [aCall_fn rfl (E_fn89) (by simp [AV.pureL, AV.pure]) (Nat.le_of_ble_eq_true rfl) rfl rfl, body_89, c89]
  have f0 : ¬ ((r.length : Int) + 1 + 1 + 1 + 1 = 0) := by omega
  have f1 : (0 : Int) < (r.length : Int) + 1 + 1 + 1 + 1 := by omega
  have f2 : ¬ ((r.length : Int) + 1 + 1 + 1 + 1 ≤ 3) := by omega
  have f3 : ¬ ((r.length : Int) + 1 + 1 + 1 + 1 < 4) := by omega
  have f4 : (1 : Int) < (r.length : Int) + 1 + 1 + 1 + 1 := by omega
  have f5 : (2 : Int) < (r.length : Int) + 1 + 1 + 1 + 1 := by omega
  have f6 : (3 : Int) < (r.length : Int) + 1 + 1 + 1 + 1 := by omega
  have f7 : ¬ y = 0 := by omega
  have f8 : ¬ 256 * (256 * y + z) + u < 128 := by omega
  have f9 : ¬ 256 * (256 * y + z) + u ≤ 127 := by omega
  have w1 : IntKind.i64.wrap (y) = y := w_i64 _ (by omega) (by omega)
  have w2 : IntKind.i64.wrap (z) = z := w_i64 _ (by omega) (by omega)
  have w3 : IntKind.i64.wrap (u) = u := w_i64 _ (by omega) (by omega)
  have w4 : IntKind.i64.wrap (256 * y) = 256 * y := w_i64 _ (by omega) (by omega)
  have w5 : IntKind.i64.wrap (256 * y + z) = 256 * y + z := w_i64 _ (by omega) (by omega)
  have w6 : IntKind.i64.wrap (256 * (256 * y + z)) = 256 * (256 * y + z) := w_i64 _ (by omega) (by omega)
  have w7 : IntKind.i64.wrap (256 * (256 * y + z) + u) = 256 * (256 * y + z) + u := w_i64 _ (by omega) (by omega)
  have w8 : IntKind.i64.wrap (y * 65536) = y * 65536 := w_i64 _ (by omega) (by omega)
  have w9 : IntKind.i64.wrap (z * 256) = z * 256 := w_i64 _ (by omega) (by omega)
  have m3 : min (r.length + 1 + 1 + 1) 3 = 3 := by omega
  obtain ⟨o1, p2⟩ := or_three y z u (by omega) (by omega) (by omega) (by omega) (by omega) (by omega)
  have o2 : or64 (y * 65536 + z * 256) u = 256 * (256 * y + z) + u := by omega
  have e1 : (y == 0) = false := by simp; omega
  simp [↓s_seq, ↓s_reg, ↓s_cond, ↓s_block, ↓s_cons, ↓s_consG, s_nil, s_loop, s_round, s_lpn, s_lpe, firstReg, s_gt, s_wb, s_val, s_rgx, s_sqn, s_sqe, s_cdb, s_bkn, s_bke, s_exit, s_ret', s_skip', s_finr, s_fin1, s_fix, s_clean, o_tmp, o_int, l_hit, l_miss, ol_nil, ol_cons, ol_some, x_move, x_assign, x_pick, pk_f, x_bin, bn_s, x_callB, x_conv, cvx, convA, frame0, binA, intOp, resL, resA, results1, sealA, AV.pure, AV.pureL, keepT, x_load, ldx, x_indexAddr, iax, newK, genOf, setK, lookK, writeC, readC, conts, TyI.mk1, indexAddrA, appendA, copyA, builtinA, AV.cells, AV.scal, gcH, Ty.isAgg, w_i64, bs_cons, bs_length, f0, f1, f3, f4, f5, f6, f8, w1, w2, w3, w4, w5, w6, w7, e1]

theorem get_Z3 (f : Bool) (c : Option Nat) (z u : Int) (r : List Int) (z0 : 0 ≤ z) (z1 : z < 256) (u0 : 0 ≤ u) (u1 : u < 256) : Con E 10 96 [.sl f (bs (131 :: 0 :: z :: u :: r)) c] (.tup [.int .i64 0, .int .i64 0, .int .i64 10]) := by
  refine .of (g := []) (by simp [AV.pureL, AV.pure]) ?_
  rw [aCall_fn rfl (E_fn96) (by simp [AV.pureL, AV.pure]) (Nat.le_of_ble_eq_true rfl) rfl rfl, body_96, c96]
  have f0 : ¬ ((r.length : Int) + 1 + 1 + 1 + 1 = 0) := by omega
  have f1 : (0 : Int) < (r.length : Int) + 1 + 1 + 1 + 1 := by omega
  have f2 : ¬ ((r.length : Int) + 1 + 1 + 1 + 1 ≤ 3) := by omega
  have f3 : ¬ ((r.length : Int) + 1 + 1 + 1 + 1 < 4) := by omega
  have f4 : (1 : Int) < (r.length : Int) + 1 + 1 + 1 + 1 := by omega
  have f5 : (2 : Int) < (r.length : Int) + 1 + 1 + 1 + 1 := by omega
  have f6 : (3 : Int) < (r.length : Int) + 1 + 1 + 1 + 1 := by omega
  have w2 : IntKind.i64.wrap (z) = z := w_i64 _ (by omega) (by omega)
  have w3 : IntKind.i64.wrap (u) = u := w_i64 _ (by omega) (by omega)
  have m3 : min (r.length + 1 + 1 + 1) 3 = 3 := by omega
  simp [↓s_seq, ↓s_reg, ↓s_regd, ↓s_cond, ↓s_block, ↓s_cons, ↓s_consG, s_nil, s_gt, s_gf, s_wb, s_val, s_rgx, s_sqn, s_sqr, s_cdb, s_bkn, s_ret', s_skip', s_finr, s_fin1, s_fix, s_clean, o_tmp, o_int, o_bool, l_hit, l_miss, ol_nil, ol_cons, ol_some, x_move, x_assign, x_pick, pk_t, pk_f, x_bin, bn_s, x_callB, x_conv, cvx, convA, frame0, binA, intOp, resL, resA, results1, sealA, AV.pure, AV.pureL, keepT, x_alloc, x_load, ldx, x_slice, slx, x_indexAddr, iax, newK, genOf, setK, lookK, writeL, writeC, readC, conts, TyI.mk1, sliceA, boundsA, boundsB, fitsA, numA, indexAddrA, appendA, copyA, builtinA, AV.cells, AV.scal, gcH, reach, keysT, keepK, inKs, AV.keys, AV.keysL, Ty.isAgg, w_i64, IntKind.bits, ↓i_or, bs_cons, bs_length, bs_cells, bs_all, f0, f1, f2, f4, w2, w3, m3]

theorem rget_Z3 (f : Bool) (c : Option Nat) (z u : Int) (r : List Int) (z0 : 0 ≤ z) (z1 : z < 256) (u0 : 0 ≤ u) (u1 : u < 256) : Con E 20 89 [.sl f (bs (131 :: 0 :: z :: u :: r)) c] (.tup [.int .i64 0, .int .i64 0, .int .i64 10]) := by
  refine .of (g := []) (by simp [AV.pureL, AV.pure]) ?_
  rw [aCall_fn rfl (E_fn89) (by simp [AV.pureL, AV.pure]) (Nat.le_of_ble_eq_true rfl) rfl rfl, body_89, c89]
  have f0 : ¬ ((r.length : Int) + 1 + 1 + 1 + 1 = 0) := by omega
  have f1 : (0 : Int) < (r.length : Int) + 1 + 1 + 1 + 1 := by omega
  have f2 : ¬ ((r.length : Int) + 1 + 1 + 1 + 1 ≤ 3) := by omega
  have f3 : ¬ ((r.length : Int) + 1 + 1 + 1 + 1 < 4) := by omega
  have f4 : (1 : Int) < (r.length : Int) + 1 + 1 + 1 + 1 := by omega
  have f5 : (2 : Int) < (r.length : Int) + 1 + 1 + 1 + 1 := by omega
  have f6 : (3 : Int) < (r.length : Int) + 1 + 1 + 1 + 1 := by omega
  have w2 : IntKind.i64.wrap (z) = z := w_i64 _ (by omega) (by omega)
  have w3 : IntKind.i64.wrap (u) = u := w_i64 _ (by omega) (by omega)
  have m3 : min (r.length + 1 + 1 + 1) 3 = 3 := by omega
  simp [↓s_seq, ↓s_reg, ↓s_cond, ↓s_block, ↓s_cons, ↓s_consG, s_nil, s_loop, s_round, s_lpn, s_lpe, firstReg, s_gt, s_gf, s_wb, s_val, s_rgx, s_sqn, s_sqr, s_sqe, s_cdb, s_bkn, s_bke, s_exit, s_ret', s_skip', s_finr, s_fin1, s_fix, s_clean, o_tmp, o_int, o_bool, l_hit, l_miss, ol_nil, ol_cons, ol_some, x_move, x_assign, x_pick, pk_t, pk_f, x_bin, bn_s, x_callB, x_conv, cvx, convA, frame0, binA, intOp, resL, resA, results1, sealA, AV.pure, AV.pureL, keepT, x_load, ldx, x_indexAddr, iax, newK, genOf, setK, lookK, writeC, readC, conts, TyI.mk1, indexAddrA, appendA, copyA, builtinA, AV.cells, AV.scal, gcH, Ty.isAgg, w_i64, bs_cons, bs_length, f0, f1, f3, f4, f5, f6, w2, w3]
end P9

end
section
/- elements.size and content at the evaluator. No conditions. -/
open Ab Go TabE Sp
set_option maxRecDepth 20000
set_option linter.unusedSimpArgs false
set_option linter.unusedVariables false
set_option maxHeartbeats 8000000
namespace E6
theorem tag_put (c : Int) (k : Bool) (n : Int) (c0 : 0 ≤ c) (c1 : c < 256) (n0 : 0 ≤ n) (n1 : n < 4294967296) (h : tagE c k n = 0) :
    Con E 1 93 [.agg [.int .u8 c, .bool k, .int .u32 n]] (.tup [.sl false (bs (TG.tagO c k n)) (some (TG.tagO c k n).length), .int .i64 0]) :=
  con_prim (p := TG.tagP) rfl rfl (by unfold TG.tagP; simp only; rw [if_pos ⟨c0, c1, n0, n1⟩, if_pos h, h]; rfl) rfl
theorem tag_size (c : Int) (k : Bool) (n : Int) (c0 : 0 ≤ c) (c1 : c < 256) (n0 : 0 ≤ n) (n1 : n < 4294967296) (h : tagE c k n = 0) :
    Con E 10 92 [.agg [.int .u8 c, .bool k, .int .u32 n]] (.int .i64 ((TG.tagO c k n).length : Int)) := by
  refine con_of E_fn92 rfl (Nat.le_of_ble_eq_true rfl) rfl rfl (g := []) ?_
  rw [body_92, c92]
  have p := tag_put c k n c0 c1 n0 n1 h
  simp [↓s_seq, ↓s_reg, ↓s_cons, s_nil, s_val, s_calls, s_cax, s_ret, s_rgx, s_sqn, s_ret', s_finr, s_fin1, s_fix, s_clean, o_tmp, o_int, l_hit, l_miss, ol_nil, ol_cons, ol_some, x_move, x_assign, x_extract, x_callF, cl_no, x_callB, frame0, resL, resA, results1, sealLW, AV.pure, AV.pureL, keepT, x_box, bxx, x_load, ldx, newK, genOf, setK, lookK, writeC, readC, conts, TyI.mk1, appendA, copyA, builtinA, AV.cells, gcH, reach, keysT, keepK, inKs, AV.keys, AV.keysL, Ty.isAgg, sc_int, sc_bool, bs_length, sl_int, sl_agg, p]
theorem len_sz (n : Int) (n0 : 0 ≤ n) (n1 : n < 16777216) : P5.sz n = ((lenO n).length : Int) := by
  unfold P5.sz lenO
  rw [if_neg (by omega)]
  split
  · simp
  split
  · simp
  split
  · simp
  · rw [if_pos (by omega)]; simp
theorem total (t n : Int) (t0 : 1 ≤ t) (t1 : t ≤ 5) (n0 : 0 ≤ n) (n1 : n < 16777216) : Con E 30 91 [.int .i64 t, .int .i64 n] (.int .i64 (t + (lenO n).length + n)) := by
  have s := P5.size n
  rw [len_sz n n0 n1] at s
  have q := lenO_len n
  exact P5.total_in t n _ t0 t1 s (by omega) (by omega) n0 n1
def Szd (e : El) (r : Int) : Prop := 1 ≤ r ∧ r ≤ 2000000000 ∧ (((enc e.core).length : Int) ≤ 1048576 → r = ((enc e.core).length : Int)) ∧ (1048576 < ((enc e.core).length : Int) → 1048576 < r)
def Cnd (e : El) (r : Int) : Prop := 0 ≤ r ∧ r ≤ 1000000000 ∧ (((e.b ++ encs (El.cores e.s)).length : Int) ≤ 1048576 → r = ((e.b ++ encs (El.cores e.s)).length : Int)) ∧ (1048576 < ((e.b ++ encs (El.cores e.s)).length : Int) → 1048576 < r)
theorem size_of (e : El) (he : e.ok) (hv : vld e.core) (r : Int) (hr : Cnd e r) (N : Nat) (C : Con E N 90 [e.av] (.int .i64 r)) : ∃ q, Con E (N + 41) 69 [e.av] (.int .i64 q) ∧ Szd e q := by
  obtain ⟨v1, v2, v3, v4⟩ := (vld_eq e).1 hv
  obtain ⟨r0, r1, r2, r3⟩ := hr
  have tl := tagO_len e.c e.k e.n
  have ll := lenO_len ((e.b ++ encs (El.cores e.s)).length : Int)
  have C' := C (N + 40) (by omega) 0
  rw [El.av_eq] at C'
  have el : ((enc e.core).length : Int) = (TG.tagO e.c e.k e.n).length + (lenO ((e.b ++ encs (El.cores e.s)).length : Int)).length + (e.b ++ encs (El.cores e.s)).length := by
    rw [enc_eq, List.length_append, List.length_append]; omega
  by_cases h : 1048576 < r
  · refine ⟨r, con_of E_fn69 (by simp [AV.pureL, El.av_pure]) (Nat.le_of_ble_eq_true rfl) rfl rfl (g := []) ?_, by omega, by omega, fun q => ?_, fun _ => h⟩
    · rw [body_69, c69]
      simp [El.av_eq, ↓s_seq, ↓s_reg, ↓s_cond, ↓s_cons, s_nil, s_val, s_calls, s_cax, s_ret, s_rgx, s_sqn, s_sqr, s_cdb, s_ret', s_finr, s_fin1, s_fix, s_clean, o_tmp, o_int, l_hit, l_miss, ol_nil, ol_cons, ol_some, x_move, x_assign, x_bin, bn_s, x_callF, cl_no, frame0, binA, intOp, resL, resA, results1, sealLW, AV.pure, AV.pureL, keepT, x_box, bxx, x_load, ldx, newK, genOf, setK, lookK, readC, TyI.mk1, AV.cells, gcH, reach, keysT, keepK, inKs, AV.keys, AV.keysL, Ty.isAgg, sc_int, sc_bool, sc_sl, sl_int, sl_agg, C', h]
    · have := r2 (by omega); omega
  · have le : ((e.b ++ encs (El.cores e.s)).length : Int) ≤ 1048576 := by
      by_cases q : 1048576 < ((e.b ++ encs (El.cores e.s)).length : Int)
      · exact absurd (r3 q) h
      · omega
    have re := r2 le
    have T := total ((TG.tagO e.c e.k e.n).length : Int) r (by omega) (by omega) r0 (by omega)
    have S := tag_size e.c e.k e.n he.cb.1 he.cb.2 he.nb.1 he.nb.2 v1
    have T' := T (N + 40) (by omega) 0
    have S' := S (N + 40) (by omega) 0
    refine ⟨((TG.tagO e.c e.k e.n).length : Int) + (lenO r).length + r, con_of E_fn69 (by simp [AV.pureL, El.av_pure]) (Nat.le_of_ble_eq_true rfl) rfl rfl (g := []) ?_, ?_⟩
    · rw [body_69, c69]
      simp [El.av_eq, ↓s_seq, ↓s_reg, ↓s_cond, ↓s_cons, s_nil, s_val, s_calls, s_cax, s_ret, s_rgx, s_sqn, s_cdb, s_ret', s_skip', s_finr, s_fin1, s_fix, s_clean, o_tmp, o_int, l_hit, l_miss, ol_nil, ol_cons, ol_some, x_move, x_assign, x_bin, bn_s, x_callF, cl_no, frame0, binA, intOp, resL, resA, results1, sealLW, AV.pure, AV.pureL, keepT, x_box, bxx, x_load, ldx, x_fieldAddr, newK, genOf, setK, lookK, readC, TyI.mk1, fieldAddrA, AV.cells, gcH, reach, keysT, keepK, inKs, AV.keys, AV.keysL, Ty.isAgg, sc_int, sc_bool, sc_sl, sl_int, sl_agg, C', h, T', S']
    · have ll2 := lenO_len r
      refine ⟨by omega, by omega, fun q => ?_, fun q => ?_⟩
      · rw [el, ← re]
      · rw [el, ← re] at q; exact q
def b90 : Code := lp c90 0
abbrev S (f : Bool) (s : List El) (c : Option Nat) (i : Nat) (n : Int) : St := ⟨[(3, .int .i64 n), (14, .sl f (El.avs s) c), (15, .int .i64 (s.length : Int)), (16, .int .i64 (i : Int))], []⟩
theorem round (q k1 : Nat) (f s c) (i : Nat) (n r : Int) (x : El) (hx : s[i]? = some x) (ls : s.length ≤ 1000000000) (n0 : 0 ≤ n) (n1 : n ≤ 1048577) (r0 : 0 ≤ r) (r1 : r ≤ 2000000000) (B : ∀ h, aCall E q 0 69 [x.av] h = some (.ret (.int .i64 r), h)) :
    rnd fn90 b90 q k1 (S f s c i n) = some (.normal, S f s c (i + 1) (min (n + r) 1048577)) := by
  have hi : i < s.length := (List.getElem?_eq_some_iff.1 hx).1
  have ix := El.at_ f c s i x hx
  have w := w64' ((i : Int) + 1) (by omega) (by omega)
  have w2 := w64' (n + r) (by omega) (by omega)
  have mn : (if 1048577 < n + r then 1048577 else n + r) = min (n + r) 1048577 := by rw [Int.min_def]; split <;> split <;> omega
  rw [El.av_eq] at B
  simp [b90, lp, lps, c90, ↓s_seq, ↓s_reg, ↓s_cond, ↓s_block, ↓s_cons, s_nil, firstReg, s_val, s_skip, s_calls, s_cax, s_ret, s_rgx, s_sqn, s_cdb, s_bkn, s_skip', s_clean, o_tmp, o_int, l_hit, l_miss, ol_nil, ol_cons, ol_some, x_move, x_assign, x_bin, bn_s, x_callF, cl_no, x_callB, binA, intOp, sealLW, AV.pure, AV.pureL, keepT, x_alloc, x_load, ldx, x_store, stx, x_indexAddr, iax, newK, genOf, setK, lookK, writeL, writeC, readC, conts, TyI.mk1, appendA, copyA, builtinA, AV.cells, gcH, reach, keysT, keepK, inKs, AV.keys, AV.keysL, Ty.isAgg, sc_int, sc_bool, sc_sl, sl_agg, ix, w, w2, hi, B, mn]
theorem last (q k1 : Nat) (f s c) (n : Int) :
    rnd fn90 b90 q k1 (S f s c s.length n) = some (.exit 0, ⟨[(3, .int .i64 n), (14, .sl f (El.avs s) c), (15, .int .i64 (s.length : Int)), (16, .int .i64 (s.length : Int)), (17, .bool false)], []⟩) := by
  simp [b90, lp, lps, c90, ↓s_seq, ↓s_reg, ↓s_cond, ↓s_cons, s_nil, firstReg, s_val, s_rgx, s_sqn, s_sqe, s_cdb, s_exit, s_clean, o_tmp, l_hit, l_miss, x_bin, bn_s, binA, intOp, keepT, gcH]
def acc : List Int → Int → Int
  | [], n => n
  | r :: l, n => acc l (min (n + r) 1048577)
end E6

end
section
/- elements.size at the evaluator: what it answers. No conditions. -/
open Ab Go TabE Sp E6
set_option maxRecDepth 20000
set_option linter.unusedSimpArgs false
set_option linter.unusedVariables false
set_option maxHeartbeats 8000000
namespace E7
def Inv (n : Int) (t : Nat) : Prop := 0 ≤ n ∧ n ≤ 1048577 ∧ ((t : Int) ≤ 1048576 → n = t) ∧ (1048576 < (t : Int) → n = 1048577)
theorem loop (K : Nat) (f s c) (ls : s.length ≤ 1000000000) (B : ∀ x ∈ s, ∃ r, (∀ h, aCall E K 0 69 [x.av] h = some (.ret (.int .i64 r), h)) ∧ Szd x r) :
    ∀ (rest : List El) (i : Nat) (n : Int) (t : Nat) (k : Nat), s.drop i = rest → i + rest.length = s.length → Inv n t → rest.length < k →
      ∃ m, Inv m (t + (encs (El.cores rest)).length) ∧ aLoop (aCode E (aCall E K) (dcall (aRun E K)) K 1 fn90 b90) (cleanS 1 ((firstReg b90).bind fn90.head)) k (S f s c i n) =
        some (.exit 0, ⟨[(3, .int .i64 m), (14, .sl f (El.avs s) c), (15, .int .i64 (s.length : Int)), (16, .int .i64 (s.length : Int)), (17, .bool false)], []⟩)
  | [], i, n, t, k, h1, h2, hn, hk => by
    obtain ⟨k, rfl⟩ : ∃ j, k = j + 1 := ⟨k - 1, by simp at hk; omega⟩
    obtain rfl : i = s.length := by simpa using h2
    exact ⟨n, by simpa [El.cores, encs] using hn, aLoop_end (last K K f s c n) (by simp)⟩
  | x :: rest, i, n, t, k, h1, h2, hn, hk => by
    obtain ⟨k, rfl⟩ : ∃ j, k = j + 1 := ⟨k - 1, by simp at hk; omega⟩
    have hx : s[i]? = some x := by
      have := congrArg (fun l => l[0]?) h1
      simpa [List.getElem?_drop] using this
    have hd : s.drop (i + 1) = rest := by
      have := congrArg List.tail h1
      simpa [List.tail_drop] using this
    obtain ⟨r, hB, z1, z2, z3, z4⟩ := B x (List.mem_of_getElem? hx)
    obtain ⟨n0, n1, n2, n3⟩ := hn
    have hn' : Inv (min (n + r) 1048577) (t + (enc x.core).length) := by
      refine ⟨by omega, by omega, fun q => ?_, fun q => ?_⟩
      · have a := n2 (by omega); have b := z3 (by omega); omega
      · by_cases ht : 1048576 < (t : Int)
        · have := n3 ht; omega
        · have a := n2 (by omega)
          by_cases hz : 1048576 < ((enc x.core).length : Int)
          · have := z4 hz; omega
          · have := z3 (by omega); omega
    obtain ⟨m, hm, he⟩ := loop K f s c ls B rest (i + 1) _ _ k hd (by simp at h2; omega) hn' (by simp at hk; omega)
    refine ⟨m, ?_, ?_⟩
    · rw [El.cores, encs, List.length_append]
      rwa [Nat.add_assoc] at hm
    · rw [aLoop_succ (round K K f s c i n r x hx ls n0 n1 (by omega) z2 hB)]
      exact he
theorem content (e : El) (hs : e.sm) (hv : vld e.core) (N : Nat) (B : ∀ x ∈ e.s, ∃ r, Con E N 69 [x.av] (.int .i64 r) ∧ Szd x r) : ∃ r, Con E (N + e.s.length + 41) 90 [e.av] (.int .i64 r) ∧ Cnd e r := by
  obtain ⟨v1, v2, v3, v4⟩ := (vld_eq e).1 hv
  obtain ⟨s1, s2, s3⟩ := (El.sm_eq e).1 hs
  have lb := bs_length e.b
  have ls := El.avs_len e.s
  cases hk : e.k with
  | false =>
    have es : e.s = [] := v3 hk
    refine ⟨(e.b.length : Int), con_of E_fn90 (by simp [AV.pureL, El.av_pure]) (Nat.le_of_ble_eq_true rfl) rfl rfl (g := []) ?_, by omega, by omega, fun q => by rw [es]; simp [El.cores, encs], fun q => by rw [es] at q; simpa [El.cores, encs] using q⟩
    rw [body_90, c90]
    simp [El.av_eq, ↓s_seq, ↓s_reg, ↓s_cond, ↓s_cons, s_nil, s_val, s_rgx, s_sqn, s_sqr, s_cdb, s_ret', s_finr, s_fin1, s_fix, s_clean, o_tmp, o_int, l_hit, l_miss, ol_nil, ol_cons, ol_some, x_assign, x_un, x_callB, frame0, resL, resA, results1, AV.pure, keepT, x_box, bxx, x_load, ldx, x_fieldAddr, newK, genOf, setK, lookK, writeL, writeC, readC, conts, TyI.mk1, fieldAddrA, appendA, copyA, builtinA, AV.cells, gcH, reach, keysT, keepK, inKs, AV.keys, AV.keysL, Ty.isAgg, unA, sc_int, sc_bool, sc_sl, bs_length, sl_int, hk]
  | true =>
    have eb : e.b = [] := v2 hk
    obtain ⟨m, hm, L⟩ := loop (N + e.s.length + 40) e.fs e.s e.cs s2 (fun x hx => by
      obtain ⟨r, h1, h2⟩ := B x hx
      exact ⟨r, h1 _ (by omega) 0, h2⟩) e.s 0 0 0 (N + e.s.length + 40) rfl (by simp) ⟨by omega, by omega, fun _ => rfl, fun q => by simp at q⟩ (by omega)
    obtain ⟨m0, m1, m2, m3⟩ := hm
    rw [Nat.zero_add] at m2 m3
    refine ⟨m, con_of E_fn90 (by simp [AV.pureL, El.av_pure]) (Nat.le_of_ble_eq_true rfl) rfl rfl (g := []) ?_, m0, by omega, fun q => by rw [eb] at q ⊢; simp at q ⊢; exact m2 q, fun q => by rw [eb] at q; simp at q; have := m3 q; omega⟩
    rw [body_90, c90]
    simp [b90, lp, lps, c90, firstReg, S] at L
    simp [El.av_eq, ↓s_seq, ↓s_reg, ↓s_cond, ↓s_block, ↓s_cons, s_nil, s_loop, firstReg, s_val, s_rgx, s_sqn, s_cdb, s_bke, s_ret', s_skip', s_finr, s_fin1, s_fix, s_clean, o_tmp, o_int, l_hit, l_miss, ol_nil, ol_cons, ol_some, x_move, x_assign, x_un, x_callB, frame0, resL, resA, results1, AV.pure, keepT, x_box, bxx, x_load, ldx, x_fieldAddr, newK, genOf, setK, lookK, writeL, writeC, readC, conts, TyI.mk1, fieldAddrA, appendA, copyA, builtinA, AV.cells, gcH, reach, keysT, keepK, inKs, AV.keys, AV.keysL, Ty.isAgg, unA, sc_int, sc_bool, sc_sl, sl_int, hk, L, ls]
theorem size : ∀ e : El, e.ok → e.sm → vld e.core → ∃ N r, Con E N 69 [e.av] (.int .i64 r) ∧ Szd e r := by
  refine El.ind fun e ih he hs hv => ?_
  obtain ⟨v1, v2, v3, v4⟩ := (vld_eq e).1 hv
  obtain ⟨s1, s2, s3⟩ := (El.sm_eq e).1 hs
  obtain ⟨N, hN⟩ := unif (P := fun (x : El) (n : Nat) => ∃ r, Con E n 69 [x.av] (.int .i64 r) ∧ Szd x r) (fun x n m ⟨r, h1, h2⟩ hm => ⟨r, h1.mono hm, h2⟩) e.s (fun x hx => by
    obtain ⟨n, r, h⟩ := ih x hx (he.sub x hx) (s3 x hx) (vlds_all.1 v4 x hx)
    exact ⟨n, r, h⟩)
  obtain ⟨r, h1, h2⟩ := content e hs hv N hN
  obtain ⟨q, h3, h4⟩ := size_of e he hv r h2 _ h1
  exact ⟨_, q, h3, h4⟩
theorem content_ok (e : El) (he : e.ok) (hs : e.sm) (hv : vld e.core) : ∃ N r, Con E N 90 [e.av] (.int .i64 r) ∧ Cnd e r := by
  obtain ⟨v1, v2, v3, v4⟩ := (vld_eq e).1 hv
  obtain ⟨s1, s2, s3⟩ := (El.sm_eq e).1 hs
  obtain ⟨N, hN⟩ := unif (P := fun (x : El) (n : Nat) => ∃ r, Con E n 69 [x.av] (.int .i64 r) ∧ Szd x r) (fun x n m ⟨r, h1, h2⟩ hm => ⟨r, h1.mono hm, h2⟩) e.s (fun x hx => by
    obtain ⟨n, r, h⟩ := size x (he.sub x hx) (s3 x hx) (vlds_all.1 v4 x hx)
    exact ⟨n, r, h⟩)
  obtain ⟨r, h1, h2⟩ := content e hs hv N hN
  exact ⟨_, r, h1, h2⟩
end E7

end
section
/- elements.put at the evaluator. No conditions. -/
open Ab Go TabE Sp E6 E7
set_option maxRecDepth 20000
set_option linter.unusedSimpArgs false
set_option linter.unusedVariables false
set_option maxHeartbeats 8000000
namespace E8
theorem len_put (n : Int) (n0 : 0 ≤ n) (n1 : n ≤ 16777215) : Con E 10 94 [.int .i64 n] (.tup [.sl false (bs (lenO n)) (some (lenO n).length), .int .i64 0]) := by
  unfold lenO
  split
  · exact P1.put_1 n n0 (by omega)
  split
  · exact P1.put_2 n (by omega) (by omega)
  split
  · exact P1.put_3 n (by omega) (by omega)
  · exact P1.put_4 n (by omega) (by omega)
abbrev R (pre : List Int) (z : Nat) : AObj := ⟨bs (pre ++ List.replicate z 0), true, true, true, 1, false⟩
theorem w_row (pre ys : List Int) (z L : Nat) (hL : pre.length = L) (h : ys.length ≤ z) : writeL (bs (pre ++ List.replicate z 0)) L (bs ys) = bs (pre ++ ys ++ List.replicate (z - ys.length) 0) := by
  subst hL
  unfold writeL
  rw [bs_take, bs_drop, bs_length, ← bs_append, ← bs_append]
  congr 1
  rw [List.take_left, List.append_assoc, List.append_assoc]
  congr 1
  rw [List.drop_append, List.drop_of_length_le (by omega), List.nil_append, Nat.add_sub_cancel_left, List.drop_replicate]
theorem wc (pre ys : List Int) (z L : Nat) (hL : pre.length = L) (h : ys.length ≤ z) (own : Heap) : writeC (((0, 0, 0), R pre z) :: own) (0, 0, 0) L (bs ys) = some (((0, 0, 0), R (pre ++ ys) (z - ys.length)) :: own) := by
  unfold writeC
  simp only [lookK, if_true]
  rw [if_pos ⟨trivial, trivial, by rw [bs_length, bs_length, List.length_append, List.length_replicate]; omega, bs_scal ys⟩]
  simp only [setK, if_true, w_row pre ys z L hL h]
theorem op_put {run : RunF} {slot : Nat} {cs : List AV} {L L' n : Nat} {o o' : AObj} {own : Heap} (hp : AV.pureL cs = true) (k1 : AV.keysL o.cells = []) (k2 : AV.keysL o'.cells = []) (r1 : ∀ φ, AV.rnL φ o.cells = o.cells) (r2 : ∀ φ, AV.rnL φ o'.cells = o'.cells)
    (hr : run 70 [.ref (0, 0, 0) 0 L (some n), .agg cs] [((0, 0, 0), o)] = some (.ret (.ref (0, 0, 0) 0 L' (some n)), [((0, 0, 0), o')])) :
    opened [true, false] false run slot 70 [.ref (0, 0, 0) 0 L (some n), .agg cs] (((0, 0, 0), o) :: own) = some (.ret (.ref (0, 0, 0) 0 L' (some n)), ((0, 0, 0), o') :: own) := by
  have e1 : sealM (sealA 20) [true, false] (((0, 0, 0), o) :: own) [.ref (0, 0, 0) 0 L (some n), .agg cs] = some ([.ref (0, 0, 0) 0 L (some n), .agg cs], ((0, 0, 0), o) :: own) := by
    simp [sealM, sl_agg, hp]
  have kc : AV.keysL cs = [] := AV.keysL_pure _ hp
  have rc : ∀ φ, AV.rnL φ cs = cs := fun φ => rnL_pure cs hp
  unfold opened
  rw [e1]
  have e2 : AV.keysL [.ref (0, 0, 0) 0 L (some n), .agg cs] = [(0, 0, 0)] := by simp [AV.keysL, AV.keys, kc]
  simp only [e2]
  have e3 : dd (reach (((0, 0, 0), o) :: own) 3 [(0, 0, 0)]) = [(0, 0, 0)] := by
    simp [reach, lookK, k1, dd]
  rw [e3]
  unfold lendA
  have e4 : lendH (((0, 0, 0), o) :: own) (inK [(0, 0, 0)]) [(0, 0, 0)] = some [((0, 0, 0), o)] := by
    simp [lendH, lookK, inK, posK, r1]
  rw [e4]
  simp only [e2]
  have e6 : closedH (((0, 0, 0), o) :: own) [(0, 0, 0)] [(0, 0, 0)] = true := by simp [closedH, lookK, k1]
  rw [if_pos ⟨e6, by rfl⟩]
  have e5 : AV.rnL (inK [(0, 0, 0)]) [.ref (0, 0, 0) 0 L (some n), .agg cs] = [.ref (0, 0, 0) 0 L (some n), .agg cs] := by simp [AV.rnL, AV.rn, rc, inK, posK]
  rw [e5, hr]
  have e7 : ∀ o'' : AObj, AV.keysL o''.cells = [] → dd (reach [((0, 0, 0), o'')] 3 ([(0, 0, 0)] ++ [(0, 0, 0)])) = [(0, 0, 0)] := fun o'' h => by simp [reach, lookK, h, dd]
  have e8 : AV.keysL [AV.ref (0, 0, 0) 0 L' (some n)] = [(0, 0, 0)] := rfl
  have e9 : lentKs 1 = [(0, 0, 0)] := rfl
  have e10 : closedH [((0, 0, 0), o')] [(0, 0, 0)] [(0, 0, 0)] = true := by simp [closedH, lookK, k2]
  simp only [backR, Bool.false_eq_true, if_false, backV, back, List.length_singleton, e8, e9, e7 o' k2, backA]
  rw [if_pos ⟨e10, by rfl, by rfl, by rfl⟩]
  simp [AV.rnL, AV.rn, outK, putAll, lookK, setK, r2]
theorem R_keys (pre z) : AV.keysL (R pre z).cells = [] := bs_kl _
theorem R_rn (pre z φ) : AV.rnL φ (R pre z).cells = (R pre z).cells := rnL_pure _ (bs_pure _)
def b70 : Code := lp c70 0
abbrev S (L n : Nat) (f : Bool) (s : List El) (c : Option Nat) (i : Nat) (pre : List Int) (z : Nat) : St := ⟨[(0, .ref (0, 0, 0) 0 L (some n)), (33, .sl f (El.avs s) c), (34, .int .i64 (s.length : Int)), (35, .int .i64 (i : Int))], [((0, 0, 0), R pre z)]⟩
theorem round (q k1 : Nat) (L L' n : Nat) (f s c) (i : Nat) (pre pre' : List Int) (z z' : Nat) (x : El) (hx : s[i]? = some x) (ls : s.length ≤ 1000000000)
    (B : ∀ own slot, opened [true, false] false (aRun E q) slot 70 [.ref (0, 0, 0) 0 L (some n), .agg (ec x)] (((0, 0, 0), R pre z) :: own) = some (.ret (.ref (0, 0, 0) 0 L' (some n)), ((0, 0, 0), R pre' z') :: own)) :
    rndO fn70 b70 q k1 (S L n f s c i pre z) = some (.normal, S L' n f s c (i + 1) pre' z') := by
  have hi : i < s.length := (List.getElem?_eq_some_iff.1 hx).1
  have ix := El.at_ f c s i x hx
  have w := w64' ((i : Int) + 1) (by omega) (by omega)
  simp [R] at B
  have kk : ∀ pre z, AV.keysL (bs (pre ++ List.replicate z 0)) = [] := fun _ _ => bs_kl _
  simp [b70, lp, lps, c70, ↓s_seq, ↓s_reg, ↓s_cond, ↓s_block, ↓s_cons, s_nil, firstReg, s_val, s_skip, s_ret, s_rgx, s_sqn, s_cdb, s_bkn, s_skip', s_clean, o_tmp, o_int, l_hit, l_miss, ol_nil, ol_cons, ol_some, x_move, x_assign, x_bin, bn_s, x_callF, cl_no, binA, intOp, keepT, x_alloc, x_load, ldx, x_store, stx, x_indexAddr, iax, newK, genOf, setK, lookK, writeL, writeC, readC, TyI.mk1, AV.cells, gcH, reach, keysT, keepK, inKs, AV.keys, AV.keysL, Ty.isAgg, sc_int, sc_bool, sc_sl, bs_kl, s_site, s_stxO, ix, w, hi, B]
theorem last (q k1 : Nat) (L n : Nat) (f s c) (pre : List Int) (z : Nat) :
    rndO fn70 b70 q k1 (S L n f s c s.length pre z) = some (.exit 0, ⟨[(0, .ref (0, 0, 0) 0 L (some n)), (33, .sl f (El.avs s) c), (34, .int .i64 (s.length : Int)), (35, .int .i64 (s.length : Int)), (36, .bool false)], [((0, 0, 0), R pre z)]⟩) := by
  simp [b70, lp, lps, c70, ↓s_seq, ↓s_reg, ↓s_cond, ↓s_cons, s_nil, firstReg, s_val, s_rgx, s_sqn, s_sqe, s_cdb, s_exit, s_clean, o_tmp, l_hit, l_miss, x_bin, bn_s, binA, intOp, keepT, lookK, gcH, reach, keysT, keepK, inKs, AV.keys, bs_kl]
end E8

end
section
/- elements.put and Put at the evaluator: what they answer. No conditions. -/
open Ab Go TabE Sp E8
set_option maxRecDepth 20000
set_option linter.unusedSimpArgs false
set_option linter.unusedVariables false
set_option maxHeartbeats 8000000
namespace E9
def Puts (N : Nat) (x : El) : Prop := ∀ k, N ≤ k → ∀ (pre : List Int) (z n : Nat), pre.length + z = n → (enc x.core).length ≤ z → n ≤ 4000000 →
  aRun E k 70 [.ref (0, 0, 0) 0 pre.length (some n), .agg (ec x)] [((0, 0, 0), R pre z)] = some (.ret (.ref (0, 0, 0) 0 (pre.length + (enc x.core).length) (some n)), [((0, 0, 0), R (pre ++ enc x.core) (z - (enc x.core).length))])
theorem loop (K : Nat) (n : Nat) (hn : n ≤ 4000000) (f s c) (ls : s.length ≤ 1000000000) (W : ∀ x ∈ s, Puts K x) :
    ∀ (rest : List El) (i : Nat) (pre : List Int) (z : Nat) (k : Nat), s.drop i = rest → i + rest.length = s.length → pre.length + z = n → (encs (El.cores rest)).length ≤ z → rest.length < k →
      aLoop (aCode E (site fn70 (aRun E K)) (dcall (aRun E K)) K 1 fn70 b70) (cleanS 1 ((firstReg b70).bind fn70.head)) k (S pre.length n f s c i pre z) =
        some (.exit 0, ⟨[(0, .ref (0, 0, 0) 0 (pre.length + (encs (El.cores rest)).length) (some n)), (33, .sl f (El.avs s) c), (34, .int .i64 (s.length : Int)), (35, .int .i64 (s.length : Int)), (36, .bool false)], [((0, 0, 0), R (pre ++ encs (El.cores rest)) (z - (encs (El.cores rest)).length))]⟩)
  | [], i, pre, z, k, h1, h2, hp, hz, hk => by
    obtain ⟨k, rfl⟩ : ∃ j, k = j + 1 := ⟨k - 1, by simp at hk; omega⟩
    obtain rfl : i = s.length := by simpa using h2
    rw [aLoop_end (last K K pre.length n f s c pre z) (by simp)]
    simp [El.cores, encs]
  | x :: rest, i, pre, z, k, h1, h2, hp, hz, hk => by
    obtain ⟨k, rfl⟩ : ∃ j, k = j + 1 := ⟨k - 1, by simp at hk; omega⟩
    have hx : s[i]? = some x := by
      have := congrArg (fun l => l[0]?) h1
      simpa [List.getElem?_drop] using this
    have hd : s.drop (i + 1) = rest := by
      have := congrArg List.tail h1
      simpa [List.tail_drop] using this
    rw [El.cores, encs, List.length_append] at hz
    have B := fun own slot => op_put (own := own) (slot := slot) (cs := ec x) rfl (R_keys pre z) (R_keys _ _) (R_rn pre z) (R_rn _ _) (W x (List.mem_of_getElem? hx) K (Nat.le_refl _) pre z n hp (by omega) hn)
    rw [aLoop_succ (round K K _ _ n f s c i pre _ z _ x hx ls B)]
    have q := loop K n hn f s c ls W rest (i + 1) (pre ++ enc x.core) (z - (enc x.core).length) k hd (by simp at h2; omega) (by rw [List.length_append]; omega) (by omega) (by simp at hk; omega)
    rw [List.length_append] at q
    rw [q]
    simp only [El.cores, encs, List.length_append, List.append_assoc, Nat.add_assoc, Nat.sub_sub]
theorem puts : ∀ e : El, e.ok → e.sm → vld e.core → (enc e.core).length ≤ 1048576 → ∃ N, Puts N e := by
  refine El.ind fun e ih he hs hv hl => ?_
  obtain ⟨v1, v2, v3, v4⟩ := (vld_eq e).1 hv
  obtain ⟨s1, s2, s3⟩ := (El.sm_eq e).1 hs
  have tl := tagO_len e.c e.k e.n
  have el := enc_eq e
  obtain ⟨ct, hct⟩ : ∃ ct, e.b ++ encs (El.cores e.s) = ct := ⟨_, rfl⟩
  rw [hct] at el
  have lel : (enc e.core).length = (TG.tagO e.c e.k e.n).length + ((lenO (ct.length : Int)).length + ct.length) := by rw [el, List.length_append, List.length_append]
  have lct : ct.length = e.b.length + (encs (El.cores e.s)).length := by rw [← hct, List.length_append]
  have sub_le : ∀ x ∈ e.s, (enc x.core).length ≤ (encs (El.cores e.s)).length := by
    intro x hx
    clear ih he hs hv hl v3 v4 el hct lel lct s2 s3
    generalize e.s = l at hx ⊢
    induction l with
    | nil => cases hx
    | cons y l ih =>
      rw [El.cores, encs, List.length_append]
      rcases List.mem_cons.1 hx with rfl | hx
      · omega
      · have := ih hx; omega
  obtain ⟨N, hN⟩ := unif (P := fun (x : El) (n : Nat) => Puts n x) (fun x n m h hm k hk => h k (by omega)) e.s (fun x hx => ih x hx (he.sub x hx) (s3 x hx) (vlds_all.1 v4 x hx) (by have := sub_le x hx; omega))
  obtain ⟨M, r, C, c0, c1, c2, c3⟩ := E7.content_ok e he hs hv
  rw [hct] at c2 c3
  have re := c2 (by omega)
  subst re
  have LP := len_put (ct.length : Int) (by omega) (by omega)
  have TP := E6.tag_put e.c e.k e.n he.cb.1 he.cb.2 he.nb.1 he.nb.2 v1
  refine ⟨N + M + e.s.length + 40, fun k hk pre z n hp hz hn => ?_⟩
  obtain ⟨K, rfl⟩ : ∃ K, k = K + 1 := ⟨k - 1, by omega⟩
  rw [aRun_fn rfl E_fn70 rfl (Nat.le_of_ble_eq_true rfl), body_70, c70]
  have C' := C K (by omega) 0
  have LP' := LP K (by omega) 0
  have TP' := TP K (by omega) 0
  rw [El.av_eq] at C'
  obtain ⟨t, ht⟩ : ∃ t, TG.tagO e.c e.k e.n = t := ⟨_, rfl⟩
  obtain ⟨lo, hlo⟩ : ∃ lo, lenO (ct.length : Int) = lo := ⟨_, rfl⟩
  rw [ht] at TP' tl lel el
  rw [hlo] at LP' lel el
  have w1 := wc pre t z pre.length rfl (by omega)
  have w2 := wc (pre ++ t) lo (z - t.length) (pre.length + t.length) (by rw [List.length_append]) (by omega)
  have w3 := wc (pre ++ t ++ lo) e.b (z - t.length - lo.length) (pre.length + t.length + lo.length) (by rw [List.length_append, List.length_append]) (by omega)
  have lr : ∀ (p : List Int) (y : Nat), (bs (p ++ List.replicate y 0)).length = p.length + y := fun p y => by rw [bs_length, List.length_append, List.length_replicate]
  have g1 : pre.length + t.length ≤ n := by omega
  have g2 : pre.length + (t.length + lo.length) ≤ n := by omega
  have g3 : pre.length + (t.length + (lo.length + e.b.length)) ≤ n := by omega
  have g0 : pre.length ≤ pre.length + z := by omega
  have L := loop K n hn e.fs e.s e.cs s2 (fun x hx => fun k hk => hN x hx k (by omega)) e.s 0 (pre ++ t ++ lo ++ e.b) (z - t.length - lo.length - e.b.length) K rfl (by simp) (by simp only [List.length_append]; omega) (by omega) (by omega)
  simp [b70, lp, lps, c70, firstReg, S, R, List.append_assoc, Nat.add_assoc, Nat.sub_sub] at L w1 w2 w3
  rw [el, ← hct]
  simp [↓s_seq, ↓s_reg, ↓s_block, ↓s_cons, s_nil, s_loop, firstReg, s_val, s_cax, s_ret, s_rgx, s_sqn, s_bke, s_ret', s_finr, s_fin1, s_clean, o_tmp, o_int, o_nil, l_hit, l_miss, ol_nil, ol_cons, ol_some, x_move, x_assign, x_extract, x_callF, cl_no, x_callB, frame0, resL, resA, results1, sealLW, AV.pure, AV.pureL, keepT, x_box, bxx, x_load, ldx, x_fieldAddr, newK, genOf, setK, lookK, readC, conts, TyI.mk1, fieldAddrA, appendA, copyA, builtinA, AV.cells, gcH, reach, keysT, keepK, inKs, AV.keys, AV.keysL, Ty.isAgg, sc_int, sc_bool, sc_sl, sc_mem, bs_kl, bs_length, bs_cells, sl_int, sl_agg, s_site, s_stxN, El.avs_len, TP', LP', C', w1, w2, w3, lr, g1, g2, g3, L, List.append_assoc, Nat.add_assoc]
end E9

end
section
/- elements.Put, Check, Size, Count and Depth at the evaluator. No conditions. -/
open Ab Go TabE Sp E8
set_option maxRecDepth 20000
set_option linter.unusedSimpArgs false
set_option linter.unusedVariables false
set_option maxHeartbeats 8000000
namespace E10
theorem check (e : El) (he : e.ok) : ∃ N, Con E N 32 [e.av] (.int .i64 (chk e.core 1 0 0).1) := by
  obtain ⟨N, M⟩ := E5.measure e he
  have e1 : (E5.meas e).1 = (chk e.core 1 0 0).1 := by unfold E5.meas; split <;> simp_all
  rw [e1] at M
  have M' := M (N + 10) (by omega) 0
  rw [El.av_eq] at M'
  refine ⟨N + 10 + 1, con_of E_fn32 (by simp [AV.pureL, El.av_pure]) (Nat.le_of_ble_eq_true rfl) rfl rfl (g := []) ?_⟩
  rw [body_32, c32]
  simp [El.av_eq, ↓s_seq, ↓s_reg, ↓s_cons, s_nil, s_val, s_calls, s_cax, s_ret, s_rgx, s_sqn, s_ret', s_finr, s_fin1, s_fix, s_clean, o_tmp, o_int, l_hit, l_miss, ol_nil, ol_cons, ol_some, x_move, x_assign, x_extract, x_callF, cl_no, frame0, resL, resA, results1, sealLW, AV.pure, AV.pureL, keepT, x_box, bxx, x_load, ldx, newK, genOf, setK, lookK, readC, TyI.mk1, AV.cells, gcH, reach, keysT, keepK, inKs, AV.keys, AV.keysL, Ty.isAgg, sc_int, sc_bool, sc_sl, sl_int, sl_agg, M']
theorem count (e : El) (he : e.ok) : ∃ N, Con E N 29 [e.av] (.int .i64 (E5.meas e).2.1) := by
  obtain ⟨N, M⟩ := E5.measure e he
  have M' := M (N + 10) (by omega) 0
  rw [El.av_eq] at M'
  refine ⟨N + 10 + 1, con_of E_fn29 (by simp [AV.pureL, El.av_pure]) (Nat.le_of_ble_eq_true rfl) rfl rfl (g := []) ?_⟩
  rw [body_29, c29]
  simp [El.av_eq, ↓s_seq, ↓s_reg, ↓s_cons, s_nil, s_val, s_calls, s_cax, s_ret, s_rgx, s_sqn, s_ret', s_finr, s_fin1, s_fix, s_clean, o_tmp, o_int, l_hit, l_miss, ol_nil, ol_cons, ol_some, x_move, x_assign, x_extract, x_callF, cl_no, frame0, resL, resA, results1, sealLW, AV.pure, AV.pureL, keepT, x_box, bxx, x_load, ldx, newK, genOf, setK, lookK, readC, TyI.mk1, AV.cells, gcH, reach, keysT, keepK, inKs, AV.keys, AV.keysL, Ty.isAgg, sc_int, sc_bool, sc_sl, sl_int, sl_agg, M']
theorem depth (e : El) (he : e.ok) : ∃ N, Con E N 30 [e.av] (.int .i64 (E5.meas e).2.2) := by
  obtain ⟨N, M⟩ := E5.measure e he
  have M' := M (N + 10) (by omega) 0
  rw [El.av_eq] at M'
  refine ⟨N + 10 + 1, con_of E_fn30 (by simp [AV.pureL, El.av_pure]) (Nat.le_of_ble_eq_true rfl) rfl rfl (g := []) ?_⟩
  rw [body_30, c30]
  simp [El.av_eq, ↓s_seq, ↓s_reg, ↓s_cons, s_nil, s_val, s_calls, s_cax, s_ret, s_rgx, s_sqn, s_ret', s_finr, s_fin1, s_fix, s_clean, o_tmp, o_int, l_hit, l_miss, ol_nil, ol_cons, ol_some, x_move, x_assign, x_extract, x_callF, cl_no, frame0, resL, resA, results1, sealLW, AV.pure, AV.pureL, keepT, x_box, bxx, x_load, ldx, newK, genOf, setK, lookK, readC, TyI.mk1, AV.cells, gcH, reach, keysT, keepK, inKs, AV.keys, AV.keysL, Ty.isAgg, sc_int, sc_bool, sc_sl, sl_int, sl_agg, M']
theorem size_bad (e : El) (he : e.ok) (h : (chk e.core 1 0 0).1 ≠ 0) : ∃ N, Con E N 28 [e.av] (.int .i64 0) := by
  obtain ⟨N, C⟩ := check e he
  have C' := C (N + 10) (by omega) 0
  rw [El.av_eq] at C'
  refine ⟨N + 10 + 1, con_of E_fn28 (by simp [AV.pureL, El.av_pure]) (Nat.le_of_ble_eq_true rfl) rfl rfl (g := []) ?_⟩
  rw [body_28, c28]
  simp [El.av_eq, ↓s_seq, ↓s_reg, ↓s_cond, ↓s_cons, s_nil, s_val, s_calls, s_cax, s_ret, s_rgx, s_sqn, s_sqr, s_cdb, s_ret', s_finr, s_fin1, s_fix, s_clean, o_tmp, o_int, l_hit, l_miss, ol_nil, ol_cons, ol_some, x_assign, x_bin, bn_s, x_callF, cl_no, frame0, binA, intOp, resL, resA, results1, sealLW, AV.pure, AV.pureL, keepT, x_box, bxx, x_load, ldx, newK, genOf, setK, lookK, readC, TyI.mk1, AV.cells, gcH, reach, keysT, keepK, inKs, AV.keys, AV.keysL, Ty.isAgg, sc_int, sc_bool, sc_sl, sl_int, sl_agg, i_bne, C', h]
theorem size_ok (e : El) (he : e.ok) (hs : e.sm) (h : (chk e.core 1 0 0).1 = 0) : ∃ N, Con E N 28 [e.av] (.int .i64 (if (enc e.core).length ≤ 1048576 then ((enc e.core).length : Int) else 0)) := by
  obtain ⟨N, C⟩ := check e he
  obtain ⟨M, r, S, s1, s2, s3, s4⟩ := E7.size e he hs (vld_of _ _ _ _ h)
  rw [h] at C
  have C' := C (N + M + 10) (by omega) 0
  have S' := S (N + M + 10) (by omega) 0
  rw [El.av_eq] at C' S'
  refine ⟨N + M + 10 + 1, con_of E_fn28 (by simp [AV.pureL, El.av_pure]) (Nat.le_of_ble_eq_true rfl) rfl rfl (g := []) ?_⟩
  rw [body_28, c28]
  by_cases q : (enc e.core).length ≤ 1048576
  · have := s3 (by omega)
    subst this
    have q2 : ¬ (1048576 < ((enc e.core).length : Int)) := by omega
    have q3 : ¬ (1048576 < (enc e.core).length) := by omega
    simp [El.av_eq, ↓s_seq, ↓s_reg, ↓s_cond, ↓s_cons, s_nil, s_val, s_calls, s_cax, s_ret, s_rgx, s_sqn, s_cdb, s_ret', s_skip', s_finr, s_fin1, s_fix, s_clean, o_tmp, o_int, l_hit, l_miss, ol_nil, ol_cons, ol_some, x_move, x_assign, x_bin, bn_s, x_callF, cl_no, frame0, binA, intOp, resL, resA, results1, sealLW, AV.pure, AV.pureL, keepT, x_box, bxx, x_load, ldx, newK, genOf, setK, lookK, readC, TyI.mk1, AV.cells, gcH, reach, keysT, keepK, inKs, AV.keys, AV.keysL, Ty.isAgg, sc_int, sc_bool, sc_sl, sl_int, sl_agg, C', S', q, q2]
  · have := s4 (by omega)
    simp [El.av_eq, ↓s_seq, ↓s_reg, ↓s_cond, ↓s_cons, s_nil, s_val, s_calls, s_cax, s_ret, s_rgx, s_sqn, s_sqr, s_cdb, s_ret', s_skip', s_finr, s_fin1, s_fix, s_clean, o_tmp, o_int, l_hit, l_miss, ol_nil, ol_cons, ol_some, x_move, x_assign, x_bin, bn_s, x_callF, cl_no, frame0, binA, intOp, resL, resA, results1, sealLW, AV.pure, AV.pureL, keepT, x_box, bxx, x_load, ldx, newK, genOf, setK, lookK, readC, TyI.mk1, AV.cells, gcH, reach, keysT, keepK, inKs, AV.keys, AV.keysL, Ty.isAgg, sc_int, sc_bool, sc_sl, sl_int, sl_agg, C', S', q, this]
theorem put_bad (e : El) (he : e.ok) (h : (chk e.core 1 0 0).1 ≠ 0) : ∃ N, Con E N 21 [e.av] (.tup [.sl true [] (some 0), .int .i64 (chk e.core 1 0 0).1]) := by
  obtain ⟨N, C⟩ := check e he
  have C' := C (N + 10) (by omega) 0
  rw [El.av_eq] at C'
  refine ⟨N + 10 + 1, con_ofO E_fn21 (by simp [AV.pureL, El.av_pure]) (Nat.le_of_ble_eq_true rfl) rfl (g := []) ?_⟩
  rw [body_21, c21]
  simp [El.av_eq, ↓s_seq, ↓s_reg, ↓s_cond, ↓s_cons, s_nil, s_val, s_cax, s_ret, s_rgx, s_sqn, s_sqr, s_cdb, s_ret', s_finr, s_fin1, s_fix, s_clean, o_tmp, o_int, o_nil, l_hit, l_miss, ol_nil, ol_cons, ol_some, x_move, x_assign, x_bin, bn_s, x_callF, cl_no, frame0, binA, intOp, resL, resA, results1, sealLW, AV.pure, AV.pureL, keepT, x_box, bxx, x_load, ldx, newK, genOf, setK, lookK, readC, TyI.mk1, AV.cells, gcH, reach, keysT, keepK, inKs, AV.keys, AV.keysL, Ty.isAgg, sc_int, sc_bool, sc_sl, sl_agg, sl_tup, i_bne, s_site, s_stxN, C', h]
theorem put_big (e : El) (he : e.ok) (hs : e.sm) (h : (chk e.core 1 0 0).1 = 0) (hl : 1048576 < (enc e.core).length) : ∃ N, Con E N 21 [e.av] (.tup [.sl true [] (some 0), .int .i64 3]) := by
  obtain ⟨N, C⟩ := check e he
  obtain ⟨M, r, S, s1, s2, s3, s4⟩ := E7.size e he hs (vld_of _ _ _ _ h)
  rw [h] at C
  have C' := C (N + M + 10) (by omega) 0
  have S' := S (N + M + 10) (by omega) 0
  rw [El.av_eq] at C' S'
  have := s4 (by omega)
  refine ⟨N + M + 10 + 1, con_ofO E_fn21 (by simp [AV.pureL, El.av_pure]) (Nat.le_of_ble_eq_true rfl) rfl (g := []) ?_⟩
  rw [body_21, c21]
  simp [El.av_eq, ↓s_seq, ↓s_reg, ↓s_cond, ↓s_cons, s_nil, s_val, s_cax, s_ret, s_rgx, s_sqn, s_sqr, s_cdb, s_ret', s_skip', s_finr, s_fin1, s_fix, s_clean, o_tmp, o_int, o_nil, l_hit, l_miss, ol_nil, ol_cons, ol_some, x_move, x_assign, x_bin, bn_s, x_callF, cl_no, frame0, binA, intOp, resL, resA, results1, sealLW, AV.pure, AV.pureL, keepT, x_box, bxx, x_load, ldx, newK, genOf, setK, lookK, readC, TyI.mk1, AV.cells, gcH, reach, keysT, keepK, inKs, AV.keys, AV.keysL, Ty.isAgg, sc_int, sc_bool, sc_sl, sl_agg, sl_tup, s_site, s_stxN, C', S', this]
theorem op_new {run : RunF} {slot : Nat} {cs ds : List AV} {n : Nat} {o o' : AObj} (hp : AV.pureL cs = true) (k1 : AV.keysL o.cells = []) (k2 : AV.keysL o'.cells = []) (r1 : ∀ φ, AV.rnL φ o.cells = o.cells) (r2 : ∀ φ, AV.rnL φ o'.cells = o'.cells)
    (hr : run 70 [.ref (0, 0, 0) 0 0 (some n), .agg cs] [((0, 0, 0), o)] = some (.ret (.ref (0, 0, 0) 0 n (some n)), [((0, 0, 0), o')])) :
    opened [true, false] false run slot 70 [.ref (1, 16, 0) 0 0 (some n), .agg cs] [((1, 1, 0), bx ds), ((1, 16, 0), o)] = some (.ret (.ref (1, 16, 0) 0 n (some n)), [((1, 1, 0), bx ds), ((1, 16, 0), o')]) := by
  have e1 : sealM (sealA 20) [true, false] [((1, 1, 0), bx ds), ((1, 16, 0), o)] [.ref (1, 16, 0) 0 0 (some n), .agg cs] = some ([.ref (1, 16, 0) 0 0 (some n), .agg cs], [((1, 1, 0), bx ds), ((1, 16, 0), o)]) := by
    simp [sealM, sl_agg, hp]
  have kc : AV.keysL cs = [] := AV.keysL_pure _ hp
  have rc : ∀ φ, AV.rnL φ cs = cs := fun φ => rnL_pure cs hp
  unfold opened
  rw [e1]
  have e2 : AV.keysL [.ref (1, 16, 0) 0 0 (some n), .agg cs] = [(1, 16, 0)] := by simp [AV.keysL, AV.keys, kc]
  simp only [e2]
  have e3 : dd (reach [((1, 1, 0), bx ds), ((1, 16, 0), o)] 3 [(1, 16, 0)]) = [(1, 16, 0)] := by simp [reach, lookK, k1, dd]
  rw [e3]
  unfold lendA
  have e4 : lendH [((1, 1, 0), bx ds), ((1, 16, 0), o)] (inK [(1, 16, 0)]) [(1, 16, 0)] = some [((0, 0, 0), o)] := by simp [lendH, lookK, inK, posK, r1]
  rw [e4]
  simp only [e2]
  have e6 : closedH [((1, 1, 0), bx ds), ((1, 16, 0), o)] [(1, 16, 0)] [(1, 16, 0)] = true := by simp [closedH, lookK, k1]
  rw [if_pos ⟨e6, by rfl⟩]
  have e5 : AV.rnL (inK [(1, 16, 0)]) [.ref (1, 16, 0) 0 0 (some n), .agg cs] = [.ref (0, 0, 0) 0 0 (some n), .agg cs] := by simp [AV.rnL, AV.rn, rc, inK, posK]
  rw [e5, hr]
  have e7 : dd (reach [((0, 0, 0), o')] 3 ([(0, 0, 0)] ++ [(0, 0, 0)])) = [(0, 0, 0)] := by simp [reach, lookK, k2, dd]
  have e8 : AV.keysL [AV.ref (0, 0, 0) 0 n (some n)] = [(0, 0, 0)] := rfl
  have e9 : lentKs 1 = [(0, 0, 0)] := rfl
  have e10 : closedH [((0, 0, 0), o')] [(0, 0, 0)] [(0, 0, 0)] = true := by simp [closedH, lookK, k2]
  simp only [backR, Bool.false_eq_true, if_false, backV, back, List.length_singleton, e8, e9, e7, backA]
  rw [if_pos ⟨e10, by rfl, by rfl, by rfl⟩]
  simp [AV.rnL, AV.rn, outK, putAll, lookK, setK, r2]
theorem put_ok (e : El) (he : e.ok) (hs : e.sm) (h : (chk e.core 1 0 0).1 = 0) (hl : (enc e.core).length ≤ 1048576) : ∃ N, Con E N 21 [e.av] (.tup [.sl false (bs (enc e.core)) (some (enc e.core).length), .int .i64 0]) := by
  have hv := vld_of _ _ _ _ h
  obtain ⟨N, C⟩ := check e he
  obtain ⟨M, r, S, s1, s2, s3, s4⟩ := E7.size e he hs hv
  obtain ⟨Q, P⟩ := E9.puts e he hs hv hl
  rw [h] at C
  have := s3 (by omega)
  subst this
  have C' := C (N + M + Q + 10) (by omega) 0
  have S' := S (N + M + Q + 10) (by omega) 0
  rw [El.av_eq] at C' S'
  have P' := fun ds slot => op_new (ds := ds) (slot := slot) (cs := ec e) rfl (R_keys [] (enc e.core).length) (R_keys _ _) (R_rn _ _) (R_rn _ _) (by have := P (N + M + Q + 10) (by omega) [] (enc e.core).length (enc e.core).length (by simp) (by omega) (by omega); simpa using this)
  have q2 : ¬ (1048576 < ((enc e.core).length : Int)) := by omega
  have q3 : ¬ (1048576 < (enc e.core).length) := by omega
  refine ⟨N + M + Q + 10 + 1, con_ofO E_fn21 (by simp [AV.pureL, El.av_pure]) (Nat.le_of_ble_eq_true rfl) rfl (g := []) ?_⟩
  rw [body_21, c21]
  simp [R] at P'
  have zr : List.replicate (enc e.core).length (AV.int .u8 0) = bs (List.replicate (enc e.core).length 0) := by simp [bs]
  have cp : ((enc e.core).length : Int) ≤ 70368744177664 := by omega
  simp [El.av_eq, ↓s_seq, ↓s_reg, ↓s_cond, ↓s_cons, s_nil, s_val, s_cax, s_ret, s_rgx, s_sqn, s_cdb, s_ret', s_skip', s_finr, s_fin1, s_fix, s_clean, o_tmp, o_int, o_nil, l_hit, l_miss, ol_nil, ol_cons, ol_some, x_move, x_assign, x_bin, bn_s, x_callF, cl_no, frame0, binA, intOp, resL, resA, results1, sealLW, AV.pure, AV.pureL, keepT, x_box, bxx, x_load, ldx, x_makeSlice, msx, newK, genOf, setK, lookK, readC, TyI.mk1, AV.cells, gcH, reach, keysT, keepK, inKs, AV.keys, AV.keysL, Ty.isAgg, sc_int, sc_bool, sc_sl, bs_pure, bs_kl, bs_length, sl_row, sealRow, sealY, sl_int, sl_agg, sl_tup, s_site, s_stxN, s_stxO, C', S', q2, P', zr, cp, s_regB, barX, bindS]
end E10

end
