/- bitstrings.GetNamed at the evaluator: the loop. No conditions. -/
import Derived.Test.YtalmnhdnclmhbaaT16
import Derived.Test.YtalmnhdnclmhbaaT14
open Ab Go TabB T1 T2 T3 T4 T14
set_option maxRecDepth 20000
set_option linter.unusedSimpArgs false
set_option linter.unusedVariables false
set_option maxHeartbeats 8000000
namespace T17
def orU (a b : Int) : Int := IntKind.u64.wrap ((BitVec.ofInt 64 a ||| BitVec.ofInt 64 b).toNat : Nat)
theorem i_orU (a b : Int) : intOp .or .u64 a b = some (.int .u64 (orU a b)) := rfl
theorem orU_pow (w : Int) (k : Nat) (h0 : 0 ≤ w) (h1 : w < 2 ^ k) (hk : k < 64) : orU w (2 ^ k) = w + 2 ^ k := by
  obtain ⟨a, rfl⟩ := Int.eq_ofNat_of_zero_le h0
  have e : ((2 : Int) ^ k) = ((2 ^ k : Nat) : Int) := by exact_mod_cast rfl
  have lt : a < 2 ^ k := by rw [e] at h1; exact_mod_cast h1
  have pk : 2 ^ k < 2 ^ 64 := Nat.pow_lt_pow_right (by decide) hk
  have pk2 : 2 ^ k ≤ 2 ^ 63 := Nat.pow_le_pow_right (by decide) (by omega)
  unfold orU
  rw [e, BitVec.ofInt_natCast, BitVec.ofInt_natCast, BitVec.toNat_or, BitVec.toNat_ofNat, BitVec.toNat_ofNat, Nat.mod_eq_of_lt (by omega), Nat.mod_eq_of_lt pk]
  have o := Nat.shiftLeft_add_eq_or_of_lt lt 1
  rw [Nat.shiftLeft_eq, Nat.one_mul] at o
  rw [Nat.or_comm, ← o, w_u64]
  rw [Int.emod_eq_of_lt (by omega) (by omega)]
  omega
theorem W_take : ∀ (l : List Int) (k : Nat) (x : Int), l[k]? = some x → W (l.take (k + 1)) = W (l.take k) + x * 2 ^ k
  | [], k, x, h => by simp at h
  | y :: l, 0, x, h => by simp at h; subst h; simp [W]
  | y :: l, k + 1, x, h => by
    have := W_take l k x (by simpa using h)
    simp only [List.take_succ_cons, W, this, Int.pow_succ]
    rw [Int.mul_add, ← Int.mul_assoc, Int.mul_comm 2 x, Int.mul_assoc, Int.mul_comm 2 (2 ^ k)]
    omega
def b48 : Code := match c48 with
  | .seq _ (.seq _ (.seq _ (.seq _ (.seq (.seq _ (.block _ (.loop b))) _)))) => b
  | _ => .skip
abbrev S (ys : List Int) (n w k : Int) : St := ⟨[(4, .sl false (bs ys) (some ys.length)), (5, .int .i64 n), (7, .int .u64 w), (58, .int .i64 n), (59, .int .i64 k)], []⟩
theorem one (q : Nat) (k1 : Nat) (ys : List Int) (n w : Int) (k : Nat) (hk : k < 64) (hn : (k : Int) < n) (w0 : 0 ≤ w) (w1 : w < 2 ^ k) (B : Con E 60 40 [.sl false (bs ys) (some ys.length), .int .i64 n, .int .i64 (k : Int)] (.bool true)) (hq : 60 ≤ q) :
    aCode E (aCall E q) (dcall (aRun E q)) k1 1 fn48 b48 (cleanS 1 ((firstReg b48).bind fn48.head) (S ys n w (k : Int))) = some (.normal, S ys n (w + 2 ^ k) ((k + 1 : Nat) : Int)) := by
  have p := bs_pure ys
  have kk : AV.keysL (bs ys) = [] := AV.keysL_pure _ p
  have k0 : ¬ (k : Int) < 0 := by omega
  have mk : min k 64 = k := by omega
  have pk2 : (2 : Int) ^ k < 18446744073709551616 := by
    have h : 2 ^ k < 2 ^ 64 := Nat.pow_lt_pow_right (by decide) hk
    rw [show (2 : Nat) ^ 64 = 18446744073709551616 from rfl] at h
    have e : ((2 : Int) ^ k) = ((2 ^ k : Nat) : Int) := by exact_mod_cast rfl
    rw [e]; omega
  have pk0 : (0 : Int) < 2 ^ k := Int.pow_pos (by decide)
  have m1 : (2 : Int) ^ k % 18446744073709551616 = 2 ^ k := Int.emod_eq_of_lt (by omega) pk2
  have o := orU_pow w k w0 w1 hk
  have w5 := w64 ((k : Int) + 1) (by omega) (by omega)
  have e : ((k + 1 : Nat) : Int) = (k : Int) + 1 := by omega
  have b : aCall E q 0 40 [.sl false (bs ys) (some ys.length), .int .i64 n, .int .i64 (k : Int)] = fun h => some (.ret (.bool true), h) := funext fun h => B q hq 0 h
  simp [b48, c48, ↓s_seq, ↓s_reg, ↓s_regd, ↓s_cond, ↓s_block, ↓s_cons, ↓s_consG, s_nil, s_loop, s_round, s_lpn, s_lpe, s_lpr, firstReg, s_gt, s_gf, s_wb, s_wu, s_val, s_valN, s_skip, s_calls, s_callP, s_cax, lookR, flatR, pureKs, s_ret, s_rgx, s_sqn, s_sqr, s_sqe, s_cdb, s_bkn, s_bkr, s_bke, s_exit, s_ret', s_skip', s_finr, s_finn, s_fin1, s_fix, s_clean, s_gc0, o_tmp, o_int, o_bool, o_nil, o_str, o_fn, o_nil', l_hit, l_miss, l_nil, ol_nil, ol_cons, ol_some, x_move, x_assign, x_pick, pk_t, pk_f, x_bin, bn_s, x_un, x_extract, x_callF, cl_no, x_callB, x_conv, cvx, convA, frame0, binA, intOp, resL, resA, results1, sealA, sealLW, AV.pure, AV.pureL, keepT, x_alloc, x_box, bxx, x_build, bdx, x_buildSlice, bsx, x_buildSliceF, bsf, x_load, ldx, x_store, stx, x_slice, slx, x_fieldAddr, x_field, x_index, ixx, x_indexAddr, iax, x_makeSlice, msx, x_nilCheck, newK, genOf, setK, lookK, fillA, writeL, writeC, readC, conts, TyI.mk1, sliceA, boundsA, boundsB, fitsA, numA, indexAddrA, fieldAddrA, partA, fieldA, indexA, appendA, copyA, builtinA, AV.cells, AV.scal, chunk, gcH, reach, keysT, keepK, inKs, AV.keys, AV.keysL, Ty.isAgg, eq1, eqL, convA.go, ltI, w_u8, w_u32, w_u64, w_i64, w_fdiv, w_tdiv, w_tmod, IntKind.bits, unA, ↓i_orU, p, kk, hn, b, k0, mk, m1, o, w5]
theorem zero (q : Nat) (k1 : Nat) (ys : List Int) (n w : Int) (k : Nat) (hk : k < 64) (hn : (k : Int) < n) (B : Con E 60 40 [.sl false (bs ys) (some ys.length), .int .i64 n, .int .i64 (k : Int)] (.bool false)) (hq : 60 ≤ q) :
    aCode E (aCall E q) (dcall (aRun E q)) k1 1 fn48 b48 (cleanS 1 ((firstReg b48).bind fn48.head) (S ys n w (k : Int))) = some (.normal, S ys n w ((k + 1 : Nat) : Int)) := by
  have p := bs_pure ys
  have kk : AV.keysL (bs ys) = [] := AV.keysL_pure _ p
  have w5 := w64 ((k : Int) + 1) (by omega) (by omega)
  have e : ((k + 1 : Nat) : Int) = (k : Int) + 1 := by omega
  have b : aCall E q 0 40 [.sl false (bs ys) (some ys.length), .int .i64 n, .int .i64 (k : Int)] = fun h => some (.ret (.bool false), h) := funext fun h => B q hq 0 h
  simp [b48, c48, ↓s_seq, ↓s_reg, ↓s_regd, ↓s_cond, ↓s_block, ↓s_cons, ↓s_consG, s_nil, s_loop, s_round, s_lpn, s_lpe, s_lpr, firstReg, s_gt, s_gf, s_wb, s_wu, s_val, s_valN, s_skip, s_calls, s_callP, s_cax, lookR, flatR, pureKs, s_ret, s_rgx, s_sqn, s_sqr, s_sqe, s_cdb, s_bkn, s_bkr, s_bke, s_exit, s_ret', s_skip', s_finr, s_finn, s_fin1, s_fix, s_clean, s_gc0, o_tmp, o_int, o_bool, o_nil, o_str, o_fn, o_nil', l_hit, l_miss, l_nil, ol_nil, ol_cons, ol_some, x_move, x_assign, x_pick, pk_t, pk_f, x_bin, bn_s, x_un, x_extract, x_callF, cl_no, x_callB, x_conv, cvx, convA, frame0, binA, intOp, resL, resA, results1, sealA, sealLW, AV.pure, AV.pureL, keepT, x_alloc, x_box, bxx, x_build, bdx, x_buildSlice, bsx, x_buildSliceF, bsf, x_load, ldx, x_store, stx, x_slice, slx, x_fieldAddr, x_field, x_index, ixx, x_indexAddr, iax, x_makeSlice, msx, x_nilCheck, newK, genOf, setK, lookK, fillA, writeL, writeC, readC, conts, TyI.mk1, sliceA, boundsA, boundsB, fitsA, numA, indexAddrA, fieldAddrA, partA, fieldA, indexA, appendA, copyA, builtinA, AV.cells, AV.scal, chunk, gcH, reach, keysT, keepK, inKs, AV.keys, AV.keysL, Ty.isAgg, eq1, eqL, convA.go, ltI, w_u8, w_u32, w_u64, w_i64, w_fdiv, w_tdiv, w_tmod, IntKind.bits, unA, p, kk, hn, b, w5]
theorem fin (q : Nat) (k1 : Nat) (ys : List Int) (n w : Int) :
    aCode E (aCall E q) (dcall (aRun E q)) k1 1 fn48 b48 (cleanS 1 ((firstReg b48).bind fn48.head) (S ys n w n)) = some (.exit 1, ⟨[(4, .sl false (bs ys) (some ys.length)), (5, .int .i64 n), (7, .int .u64 w), (58, .int .i64 n), (59, .int .i64 n), (60, .bool false)], []⟩) := by
  have p := bs_pure ys
  have kk : AV.keysL (bs ys) = [] := AV.keysL_pure _ p
  simp [b48, c48, ↓s_seq, ↓s_reg, ↓s_regd, ↓s_cond, ↓s_block, ↓s_cons, ↓s_consG, s_nil, s_loop, s_round, s_lpn, s_lpe, s_lpr, firstReg, s_gt, s_gf, s_wb, s_wu, s_val, s_valN, s_skip, s_calls, s_callP, s_cax, lookR, flatR, pureKs, s_ret, s_rgx, s_sqn, s_sqr, s_sqe, s_cdb, s_bkn, s_bkr, s_bke, s_exit, s_ret', s_skip', s_finr, s_finn, s_fin1, s_fix, s_clean, s_gc0, o_tmp, o_int, o_bool, o_nil, o_str, o_fn, o_nil', l_hit, l_miss, l_nil, ol_nil, ol_cons, ol_some, x_move, x_assign, x_pick, pk_t, pk_f, x_bin, bn_s, x_un, x_extract, x_callF, cl_no, x_callB, x_conv, cvx, convA, frame0, binA, intOp, resL, resA, results1, sealA, sealLW, AV.pure, AV.pureL, keepT, x_alloc, x_box, bxx, x_build, bdx, x_buildSlice, bsx, x_buildSliceF, bsf, x_load, ldx, x_store, stx, x_slice, slx, x_fieldAddr, x_field, x_index, ixx, x_indexAddr, iax, x_makeSlice, msx, x_nilCheck, newK, genOf, setK, lookK, fillA, writeL, writeC, readC, conts, TyI.mk1, sliceA, boundsA, boundsB, fitsA, numA, indexAddrA, fieldAddrA, partA, fieldA, indexA, appendA, copyA, builtinA, AV.cells, AV.scal, chunk, gcH, reach, keysT, keepK, inKs, AV.keys, AV.keysL, Ty.isAgg, eq1, eqL, convA.go, ltI, w_u8, w_u32, w_u64, w_i64, w_fdiv, w_tdiv, w_tmod, IntKind.bits, unA, p, kk]
end T17
