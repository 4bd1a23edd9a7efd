/- Named bits read by the reference, at the evaluator: the loop. No conditions. -/
import Derived.Test.YtalmnhdnclmhbaaT8
open Ab Go TabB T1 T2 T4
set_option maxRecDepth 20000
set_option linter.unusedSimpArgs false
set_option linter.unusedVariables false
set_option maxHeartbeats 8000000
namespace T14
def b27 : Code := match c27 with
  | .seq _ (.seq _ (.seq _ (.seq _ (.seq _ (.seq _ (.seq (.seq _ (.block _ (.loop b))) _)))))) => b
  | _ => .skip
/-- The number whose bits are a list, the lowest first. -/
def W : List Int → Int
  | [] => 0
  | x :: r => 2 * W r + x
theorem W_lt : ∀ {l : List Int}, isBit l → 0 ≤ W l ∧ W l < 2 ^ l.length
  | [], _ => by simp [W]
  | x :: r, h => by
    have a := W_lt (l := r) fun z hz => h z (by simp [hz])
    have b := h x (by simp)
    simp only [W, List.length_cons]
    rw [Int.pow_succ]
    omega
abbrev S (l : List Int) (w i : Int) : St := ⟨[(4, .sl false (is l) none), (6, .int .u64 w), (7, .int .i64 i)], []⟩
theorem round (call sc) (k1 : Nat) (l : List Int) (w : Int) (i : Nat) (x : Int) (h : l[i]? = some x) (hx : x = 0 ∨ x = 1) (hl : l.length < 1000000) (w0 : 0 ≤ w) (w1 : 2 * w + x < 18446744073709551616) :
    aCode E call sc k1 1 fn27 b27 (cleanS 1 ((firstReg b27).bind fn27.head) (S l w (i : Int))) = some (.normal, S l (2 * w + x) ((i : Int) - 1)) := by
  have hi : i < l.length := (List.getElem?_eq_some_iff.1 h).1
  have ix := atI false none l i x h
  have i0 : (0 : Int) ≤ (i : Int) := by omega
  have v1 : IntKind.i64.wrap ((i : Int) - 1) = (i : Int) - 1 := w_i64 _ (by omega) (by omega)
  have v2 : 2 * w % 18446744073709551616 = 2 * w := Int.emod_eq_of_lt (by omega) (by omega)
  have v3 : x % 18446744073709551616 = x := Int.emod_eq_of_lt (by omega) (by omega)
  have v4 : (2 * w + x) % 18446744073709551616 = 2 * w + x := Int.emod_eq_of_lt (by omega) w1
  have p := is_pure l
  have kk := is_keys l
  simp [b27, c27, ↓s_seq, ↓s_reg, ↓s_regd, ↓s_cond, ↓s_block, ↓s_cons, ↓s_consG, s_nil, s_loop, s_round, s_lpn, s_lpe, s_lpr, firstReg, s_gt, s_gf, s_wb, s_wu, s_val, s_valN, s_skip, s_calls, s_callP, s_cax, lookR, flatR, pureKs, s_ret, s_rgx, s_sqn, s_sqr, s_sqe, s_cdb, s_bkn, s_bkr, s_bke, s_exit, s_ret', s_skip', s_finr, s_finn, s_fin1, s_fix, s_clean, s_gc0, o_tmp, o_int, o_bool, o_nil, o_str, o_fn, o_nil', l_hit, l_miss, l_nil, ol_nil, ol_cons, ol_some, x_move, x_assign, x_pick, pk_t, pk_f, x_bin, bn_s, x_un, x_extract, x_callF, cl_no, x_callB, x_conv, cvx, convA, frame0, binA, intOp, resL, resA, results1, sealA, sealLW, AV.pure, AV.pureL, keepT, x_alloc, x_box, bxx, x_build, bdx, x_buildSlice, bsx, x_buildSliceF, bsf, x_load, ldx, x_store, stx, x_slice, slx, x_fieldAddr, x_field, x_index, ixx, x_indexAddr, iax, x_makeSlice, msx, x_nilCheck, newK, genOf, setK, lookK, fillA, writeL, writeC, readC, conts, TyI.mk1, sliceA, boundsA, boundsB, fitsA, numA, indexAddrA, fieldAddrA, partA, fieldA, indexA, appendA, copyA, builtinA, AV.cells, AV.scal, chunk, gcH, reach, keysT, keepK, inKs, AV.keys, AV.keysL, Ty.isAgg, eq1, eqL, convA.go, ltI, w_u8, w_u32, w_u64, w_i64, w_fdiv, w_tdiv, w_tmod, IntKind.bits, unA, p, kk, i0, -indexAddrA, ix, v1, v2, v3, v4]
theorem fin (call sc) (k1 : Nat) (l : List Int) (w : Int) :
    aCode E call sc k1 1 fn27 b27 (cleanS 1 ((firstReg b27).bind fn27.head) (S l w (-1))) = some (.exit 0, ⟨[(4, .sl false (is l) none), (6, .int .u64 w), (7, .int .i64 (-1)), (35, .bool false)], []⟩) := by
  have p := is_pure l
  have kk := is_keys l
  simp [b27, c27, ↓s_seq, ↓s_reg, ↓s_regd, ↓s_cond, ↓s_block, ↓s_cons, ↓s_consG, s_nil, s_loop, s_round, s_lpn, s_lpe, s_lpr, firstReg, s_gt, s_gf, s_wb, s_wu, s_val, s_valN, s_skip, s_calls, s_callP, s_cax, lookR, flatR, pureKs, s_ret, s_rgx, s_sqn, s_sqr, s_sqe, s_cdb, s_bkn, s_bkr, s_bke, s_exit, s_ret', s_skip', s_finr, s_finn, s_fin1, s_fix, s_clean, s_gc0, o_tmp, o_int, o_bool, o_nil, o_str, o_fn, o_nil', l_hit, l_miss, l_nil, ol_nil, ol_cons, ol_some, x_move, x_assign, x_pick, pk_t, pk_f, x_bin, bn_s, x_un, x_extract, x_callF, cl_no, x_callB, x_conv, cvx, convA, frame0, binA, intOp, resL, resA, results1, sealA, sealLW, AV.pure, AV.pureL, keepT, x_alloc, x_box, bxx, x_build, bdx, x_buildSlice, bsx, x_buildSliceF, bsf, x_load, ldx, x_store, stx, x_slice, slx, x_fieldAddr, x_field, x_index, ixx, x_indexAddr, iax, x_makeSlice, msx, x_nilCheck, newK, genOf, setK, lookK, fillA, writeL, writeC, readC, conts, TyI.mk1, sliceA, boundsA, boundsB, fitsA, numA, indexAddrA, fieldAddrA, partA, fieldA, indexA, appendA, copyA, builtinA, AV.cells, AV.scal, chunk, gcH, reach, keysT, keepK, inKs, AV.keys, AV.keysL, Ty.isAgg, eq1, eqL, convA.go, ltI, w_u8, w_u32, w_u64, w_i64, w_fdiv, w_tdiv, w_tmod, IntKind.bits, unA, p, kk]
theorem loop (call sc) (k1 k : Nat) (l : List Int) (hb : isBit l) (hl : l.length ≤ 64) (hk : l.length < k) :
    aLoop (aCode E call sc k1 1 fn27 b27) (cleanS 1 ((firstReg b27).bind fn27.head)) k (S l 0 ((l.length : Int) - 1)) = some (.exit 0, ⟨[(4, .sl false (is l) none), (6, .int .u64 (W l)), (7, .int .i64 (-1)), (35, .bool false)], []⟩) := by
  refine loopR (fun j => S l (W (l.drop (l.length - j))) ((l.length : Int) - 1 - (j : Int))) l.length ?_ (fun j hj => ?_) ?_ (by simp) hk
  · simp [W]
  · obtain ⟨x, e⟩ : ∃ x, l[l.length - 1 - j]? = some x := ⟨l[l.length - 1 - j], by simp⟩
    have hx := hb x (List.mem_of_getElem? e)
    have d : l.drop (l.length - (j + 1)) = x :: l.drop (l.length - j) := by
      have e1 : l.length - (j + 1) = l.length - 1 - j := by omega
      have e2 : l.length - j = l.length - 1 - j + 1 := by omega
      rw [e1, e2]
      obtain ⟨hlt, hv⟩ := List.getElem?_eq_some_iff.1 e
      rw [List.drop_eq_getElem_cons hlt, hv]
    have hd : isBit (l.drop (l.length - (j + 1))) := fun z hz => hb z (List.mem_of_mem_drop hz)
    have lt := W_lt hd
    have ld : (l.drop (l.length - (j + 1))).length ≤ 64 := by rw [List.length_drop]; omega
    have pw : (2 : Int) ^ (l.drop (l.length - (j + 1))).length ≤ 2 ^ 64 := by
      have := Nat.pow_le_pow_right (n := 2) (by decide) ld
      exact_mod_cast this
    have p64 : (2 : Int) ^ 64 = 18446744073709551616 := by decide
    have hd2 : isBit (l.drop (l.length - j)) := fun z hz => hb z (List.mem_of_mem_drop hz)
    rw [d] at lt pw
    simp only [W] at lt
    have r := round call sc k1 l (W (l.drop (l.length - j))) (l.length - 1 - j) x e hx (by omega) (W_lt hd2).1 (by omega)
    rw [d]
    have e3 : (((l.length - 1 - j : Nat)) : Int) = (l.length : Int) - 1 - (j : Int) := by omega
    have e4 : (l.length : Int) - 1 - ((j + 1 : Nat) : Int) = (l.length : Int) - 1 - (j : Int) - 1 := by omega
    rw [e3] at r
    simp only [W, e4]
    exact r
  · have e : (l.length : Int) - 1 - (l.length : Int) = -1 := by omega
    simp only [Nat.sub_self, List.drop_zero, e]
    exact fin call sc k1 l (W l)
end T14
