/- The law BitstringsGet at the evaluator: true at every row of octets. No conditions. -/
import Derived.Test.YtalmnhdnclmhbaaT25
open Ab Go TabB T1 T2 T3 T4 T5 T6 T12 T14 T24
set_option maxRecDepth 20000
set_option linter.unusedSimpArgs false
set_option linter.unusedVariables false
set_option maxHeartbeats 16000000
namespace T26
theorem zero (f c) : Con E 1100 8 [.sl f (bs [0]) c] (.bool true) := by
  refine .of (g := []) rfl ?_
  rw [aCall_fn rfl (E_fn8) rfl (Nat.le_of_ble_eq_true rfl) rfl rfl, body_8, c8]
  have R := T8.get_zero f c
  have G := T9.get_zero f c
  have B := bytes_nil true (some 0)
  have rd := T10.read f c false true (some 0) [0] [] 0 0 isB_nil G
  have pt := T11.put_nil true (some 0)
  have sm := T10.same false f c [0] 0 (by simp [isB_cons, isB_nil])
  have N1 := T15.none_ f c [0] R
  have N2 := named f c [0] 0 0 (T18.none_ f c [0] G)
  have P := T23.put0
  have cb : isB [0] := by simp [isB_cons, isB_nil]
  obtain ⟨cs, ec⟩ : ∃ cs, [(0 : Int)] = cs := ⟨_, rfl⟩
  have cl : cs.length = 1 := by rw [← ec]; rfl
  have go := bs_go cb
  simp only [List.length_singleton, bs_nil] at sm rd
  rw [ec] at R rd sm pt N1 N2 P go ⊢
  simp [↓s_seq, ↓s_reg, ↓s_regd, ↓s_cond, ↓s_block, ↓s_cons, ↓s_consG, s_nil, s_loop, s_round, s_lpn, s_lpe, s_lpr, firstReg, s_gt, s_gf, s_wb, s_wu, s_val, s_valN, s_skip, s_calls, s_callP, s_cax, lookR, flatR, pureKs, s_ret, s_rgx, s_sqn, s_sqr, s_sqe, s_cdb, s_bkn, s_bkr, s_bke, s_exit, s_ret', s_skip', s_finr, s_finn, s_fin1, s_fix, s_clean, s_gc0, o_tmp, o_int, o_bool, o_nil, o_str, o_fn, o_nil', l_hit, l_miss, l_nil, ol_nil, ol_cons, ol_some, x_move, x_assign, x_pick, pk_t, pk_f, x_bin, bn_s, x_un, x_extract, x_callF, cl_no, x_callB, x_conv, cvx, convA, frame0, binA, intOp, resL, resA, results1, sealA, sealLW, AV.pure, AV.pureL, keepT, x_alloc, x_box, bxx, x_build, bdx, x_buildSlice, bsx, x_buildSliceF, bsf, x_load, ldx, x_store, stx, x_slice, slx, x_fieldAddr, x_field, x_index, ixx, x_indexAddr, iax, x_makeSlice, msx, x_nilCheck, newK, genOf, setK, lookK, fillA, writeL, writeC, readC, conts, TyI.mk1, sliceA, boundsA, boundsB, fitsA, numA, indexAddrA, fieldAddrA, partA, fieldA, indexA, appendA, copyA, builtinA, AV.cells, AV.scal, chunk, gcH, reach, keysT, keepK, inKs, AV.keys, AV.keysL, Ty.isAgg, eq1, eqL, convA.go, ltI, w_u8, w_u32, w_u64, w_i64, w_fdiv, w_tdiv, w_tmod, IntKind.bits, unA, bs_pure, bs_cells, go, bs_length, cl, lives, R, B, rd, pt, sm, N1, N2, P]
theorem law (f c) (cs : List Int) (hb : isB cs) : Con E 1100 8 [.sl f (bs cs) c] (.bool true) := by
  by_cases h : 60 < (cs.length : Int)
  · exact big f c cs h
  match cs, hb, h with
  | [], _, h => exact bad f c [] h (T8.get_nil f c) (T9.get_nil f c)
  | x :: ys, hb, h =>
    obtain ⟨⟨x0, x1⟩, hys⟩ := isB_cons.1 hb
    by_cases h7 : 7 < x
    · exact bad f c _ h (T8.get_big f c x ys h7) (T9.get_big f c x ys h7)
    by_cases hy : ys = []
    · subst hy
      by_cases hx : 0 < x
      · exact bad f c _ h (T8.get_short f c x hx (by omega)) (T9.get_short f c x hx (by omega))
      · obtain rfl : x = 0 := by omega
        exact zero f c
    have hy1 : 0 < ys.length := List.length_pos_iff.2 hy
    have hl : ys.length ≤ 59 := by simp at h; omega
    obtain ⟨z, hz⟩ : ∃ z, ys[ys.length - 1]? = some z := ⟨ys[ys.length - 1]'(by omega), List.getElem?_eq_getElem _⟩
    by_cases hm : z % 2 ^ x.toNat = 0
    · exact T25.good f c x z ys hys x0 (by omega) hy hl hz hm
    · have bl := bits_length ys
      obtain ⟨xn, rfl⟩ := Int.eq_ofNat_of_zero_le x0
      obtain ⟨n, hn⟩ : ∃ n, n + xn = 8 * ys.length := ⟨8 * ys.length - xn, by omega⟩
      have nt : ¬ ∀ i, n ≤ i → i < (bits ys).length → (bits ys)[i]? = some 0 := fun q => hm (by simpa using (T13.tail ys hys xn n z (by omega) hy hn hz).1 q)
      rcases T13.first xn (l := bits ys) (n := n) (by omega) with q | ⟨j, y, q1, q2, q3⟩
      · exact absurd q nt
      · exact bad f c _ h (T8.get_bad f c (xn : Int) ys hys x0 (by omega) hy (by omega) n (by omega) j y q1 q2 q3) (T9.get_bad f c (xn : Int) z ys x0 (by omega) hy (by omega) hz (hys z (List.mem_of_getElem? hz)) hm)
end T26
