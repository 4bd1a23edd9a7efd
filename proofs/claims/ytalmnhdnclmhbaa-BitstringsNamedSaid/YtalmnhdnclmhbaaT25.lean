/- The law BitstringsGet at the evaluator: where content octets are read. No conditions. -/
import Derived.Test.YtalmnhdnclmhbaaT24
open Ab Go TabB T1 T2 T3 T4 T5 T6 T12 T14 T24
set_option maxRecDepth 20000
set_option linter.unusedSimpArgs false
set_option linter.unusedVariables false
set_option maxHeartbeats 16000000
namespace T25
theorem good (f c) (x z : Int) (ys : List Int) (hb : isB ys) (x0 : 0 ≤ x) (x7 : x ≤ 7) (hy : ys ≠ []) (hl : ys.length ≤ 59) (hz : ys[ys.length - 1]? = some z) (hm : z % 2 ^ x.toNat = 0) : Con E 1100 8 [.sl f (bs (x :: ys)) c] (.bool true) := by
  have hzb := hb z (List.mem_of_getElem? hz)
  have hy1 : 0 < ys.length := List.length_pos_iff.2 hy
  have bl := bits_length ys
  obtain ⟨xn, rfl⟩ := Int.eq_ofNat_of_zero_le x0
  obtain ⟨n, hn⟩ : ∃ n, n + xn = 8 * ys.length := ⟨8 * ys.length - xn, by omega⟩
  have tl := (T13.tail ys hb xn n z (by omega) hy hn hz).2 (by simpa using hm)
  obtain ⟨l, el⟩ : ∃ l, (bits ys).take n = l := ⟨_, rfl⟩
  have ll : l.length = n := by rw [← el, List.length_take]; omega
  have lb : isBit l := fun v hv => bits_bit ys hb v (by rw [← el] at hv; exact List.mem_of_mem_take hv)
  have R := T8.get_ok f c (xn : Int) ys hb x0 x7 hy (by omega) n (by omega) tl
  rw [el] at R
  have G := T9.get_ok f c (xn : Int) z ys x0 x7 hy (by omega) hz hzb hm
  have en : 8 * (ys.length : Int) - (xn : Int) = (l.length : Int) := by omega
  rw [en] at G
  have By : ∀ f c, Con E 600 24 [.sl f (is l) c] (.sl false (bs ys) none) := fun f c => by
    have := bytes_con f c l lb (by omega) (by omega) 600 (by omega)
    have bb := bytes_back ys hb n xn (by omega) hn tl
    rw [el] at bb
    rw [bb] at this
    exact this
  have cb : isB ((xn : Int) :: ys) := isB_cons.2 ⟨⟨by omega, by omega⟩, hb⟩
  have rd := T10.read f c false false none ((xn : Int) :: ys) ys (l.length : Int) 0 hb G
  have pt := T11.put_ok false none (xn : Int) z (l.length : Int) ys x0 x7 hy (by omega) hz hzb hm (by omega)
  have sm := T10.same false f c ((xn : Int) :: ys) 0 cb
  rw [List.length_cons] at sm
  have K := T11.chk_ok false (some ys.length) (xn : Int) z (l.length : Int) ys x0 x7 hy (by omega) hz hzb hm (by omega)
  have Bt : ∀ i v, l[i]? = some v → Con E 60 40 [.sl false (bs ys) (some ys.length), .int .i64 (l.length : Int), .int .i64 ((i : Nat) : Int)] (.bool (v == 1)) := by
    intro i v h
    have hi : i < l.length := (List.getElem?_eq_some_iff.1 h).1
    have h2 : (bits ys)[i]? = some v := by rw [← el, List.getElem?_take_of_lt (by omega)] at h; exact h
    obtain ⟨j, t, ht, rfl⟩ : ∃ j t, t < 8 ∧ i = 8 * j + t := ⟨i / 8, i % 8, by omega, by omega⟩
    rw [bits_get ys j t ht] at h2
    obtain ⟨y, e1, e2⟩ := Option.bind_eq_some_iff.1 h2
    exact T16.bit_ false (some ys.length) (l.length : Int) v ys j t y hb (by omega) e1 ht (by omega) K e2
  have h60 : ¬ 60 < (((xn : Int) :: ys).length : Int) := by rw [List.length_cons]; omega
  have lp := is_pure l
  have ln := is_length l
  have l0 : l ≠ [] := by intro e; rw [e] at ll; simp at ll; omega
  obtain ⟨v, hv⟩ : ∃ v, l[l.length - 1]? = some v := ⟨l[l.length - 1]'(by omega), List.getElem?_eq_getElem _⟩
  have hv01 := lb v (List.mem_of_getElem? hv)
  have Bl := Bt (l.length - 1) v hv
  have e1 : ((l.length - 1 : Nat) : Int) = (l.length : Int) - 1 := by omega
  rw [e1] at Bl
  refine .of (g := []) (by simp [AV.pureL, AV.pure, bs_pure]) ?_
  rw [aCall_fn rfl (E_fn8) (by simp [AV.pureL, AV.pure, bs_pure]) (Nat.le_of_ble_eq_true rfl) rfl rfl, body_8, c8]
  rw [List.length_cons] at h60
  obtain ⟨cs, ec⟩ : ∃ cs, (xn : Int) :: ys = cs := ⟨_, rfl⟩
  have cl : cs.length = ys.length + 1 := by rw [← ec]; rfl
  have h60' : ¬ 60 < (cs.length : Int) := by rw [cl]; exact_mod_cast h60
  have h60'' : ¬ 60 < (ys.length : Int) + 1 := by omega
  rcases hv01 with rfl | rfl
  · have N1 := T15.zero_ f c _ l l0 (by omega) hv R
    have N2 := named f c _ 0 11 (T18.zero_ f c _ ys (l.length : Int) (by omega) (by omega) G Bl)
    rw [ec] at R rd sm pt N1 N2 ⊢
    simp [↓s_seq, ↓s_reg, ↓s_regd, ↓s_cond, ↓s_block, ↓s_cons, ↓s_consG, s_nil, s_loop, s_round, s_lpn, s_lpe, s_lpr, firstReg, s_gt, s_gf, s_wb, s_wu, s_val, s_valN, s_skip, s_calls, s_callP, s_cax, lookR, flatR, pureKs, s_ret, s_rgx, s_sqn, s_sqr, s_sqe, s_cdb, s_bkn, s_bkr, s_bke, s_exit, s_ret', s_skip', s_finr, s_finn, s_fin1, s_fix, s_clean, s_gc0, o_tmp, o_int, o_bool, o_nil, o_str, o_fn, o_nil', l_hit, l_miss, l_nil, ol_nil, ol_cons, ol_some, x_move, x_assign, x_pick, pk_t, pk_f, x_bin, bn_s, x_un, x_extract, x_callF, cl_no, x_callB, x_conv, cvx, convA, frame0, binA, intOp, resL, resA, results1, sealA, sealLW, AV.pure, AV.pureL, keepT, x_alloc, x_box, bxx, x_build, bdx, x_buildSlice, bsx, x_buildSliceF, bsf, x_load, ldx, x_store, stx, x_slice, slx, x_fieldAddr, x_field, x_index, ixx, x_indexAddr, iax, x_makeSlice, msx, x_nilCheck, newK, genOf, setK, lookK, fillA, writeL, writeC, readC, conts, TyI.mk1, sliceA, boundsA, boundsB, fitsA, numA, indexAddrA, fieldAddrA, partA, fieldA, indexA, appendA, copyA, builtinA, AV.cells, AV.scal, chunk, gcH, reach, keysT, keepK, inKs, AV.keys, AV.keysL, Ty.isAgg, eq1, eqL, convA.go, ltI, w_u8, w_u32, w_u64, w_i64, w_fdiv, w_tdiv, w_tmod, IntKind.bits, unA, bs_pure, bs_length, h60', h60'', cl, lives, R, By, lp, ln, rd, pt, sm, N1, N2]
  · by_cases h64 : 64 < l.length
    · have N1 := T15.big_ f c _ l l0 (by omega) hv h64 R
      have N2 := named f c _ 0 3 (T18.big_ f c _ ys (l.length : Int) (by omega) (by omega) G Bl)
      rw [ec] at R rd sm pt N1 N2 ⊢
      simp [↓s_seq, ↓s_reg, ↓s_regd, ↓s_cond, ↓s_block, ↓s_cons, ↓s_consG, s_nil, s_loop, s_round, s_lpn, s_lpe, s_lpr, firstReg, s_gt, s_gf, s_wb, s_wu, s_val, s_valN, s_skip, s_calls, s_callP, s_cax, lookR, flatR, pureKs, s_ret, s_rgx, s_sqn, s_sqr, s_sqe, s_cdb, s_bkn, s_bkr, s_bke, s_exit, s_ret', s_skip', s_finr, s_finn, s_fin1, s_fix, s_clean, s_gc0, o_tmp, o_int, o_bool, o_nil, o_str, o_fn, o_nil', l_hit, l_miss, l_nil, ol_nil, ol_cons, ol_some, x_move, x_assign, x_pick, pk_t, pk_f, x_bin, bn_s, x_un, x_extract, x_callF, cl_no, x_callB, x_conv, cvx, convA, frame0, binA, intOp, resL, resA, results1, sealA, sealLW, AV.pure, AV.pureL, keepT, x_alloc, x_box, bxx, x_build, bdx, x_buildSlice, bsx, x_buildSliceF, bsf, x_load, ldx, x_store, stx, x_slice, slx, x_fieldAddr, x_field, x_index, ixx, x_indexAddr, iax, x_makeSlice, msx, x_nilCheck, newK, genOf, setK, lookK, fillA, writeL, writeC, readC, conts, TyI.mk1, sliceA, boundsA, boundsB, fitsA, numA, indexAddrA, fieldAddrA, partA, fieldA, indexA, appendA, copyA, builtinA, AV.cells, AV.scal, chunk, gcH, reach, keysT, keepK, inKs, AV.keys, AV.keysL, Ty.isAgg, eq1, eqL, convA.go, ltI, w_u8, w_u32, w_u64, w_i64, w_fdiv, w_tdiv, w_tmod, IntKind.bits, unA, bs_pure, bs_length, h60', h60'', cl, lives, R, By, lp, ln, rd, pt, sm, N1, N2]
    · have N1 := T15.ok_ f c _ l lb l0 hv (by omega) R
      have N2 := named f c _ (W l) 0 (T18.ok_ f c _ ys l lb (by omega) (by omega) G Bt hv)
      have P := T23.put l lb (by omega) (by omega) hv (xn : Int) (by omega)
      have bb : bytesOf l = ys := by rw [← el]; exact bytes_back ys hb n xn (by omega) hn tl
      rw [bb] at P
      rw [ec] at R rd sm pt N1 N2 P cb ⊢
      simp [↓s_seq, ↓s_reg, ↓s_regd, ↓s_cond, ↓s_block, ↓s_cons, ↓s_consG, s_nil, s_loop, s_round, s_lpn, s_lpe, s_lpr, firstReg, s_gt, s_gf, s_wb, s_wu, s_val, s_valN, s_skip, s_calls, s_callP, s_cax, lookR, flatR, pureKs, s_ret, s_rgx, s_sqn, s_sqr, s_sqe, s_cdb, s_bkn, s_bkr, s_bke, s_exit, s_ret', s_skip', s_finr, s_finn, s_fin1, s_fix, s_clean, s_gc0, o_tmp, o_int, o_bool, o_nil, o_str, o_fn, o_nil', l_hit, l_miss, l_nil, ol_nil, ol_cons, ol_some, x_move, x_assign, x_pick, pk_t, pk_f, x_bin, bn_s, x_un, x_extract, x_callF, cl_no, x_callB, x_conv, cvx, convA, frame0, binA, intOp, resL, resA, results1, sealA, sealLW, AV.pure, AV.pureL, keepT, x_alloc, x_box, bxx, x_build, bdx, x_buildSlice, bsx, x_buildSliceF, bsf, x_load, ldx, x_store, stx, x_slice, slx, x_fieldAddr, x_field, x_index, ixx, x_indexAddr, iax, x_makeSlice, msx, x_nilCheck, newK, genOf, setK, lookK, fillA, writeL, writeC, readC, conts, TyI.mk1, sliceA, boundsA, boundsB, fitsA, numA, indexAddrA, fieldAddrA, partA, fieldA, indexA, appendA, copyA, builtinA, AV.cells, AV.scal, chunk, gcH, reach, keysT, keepK, inKs, AV.keys, AV.keysL, Ty.isAgg, eq1, eqL, convA.go, ltI, w_u8, w_u32, w_u64, w_i64, w_fdiv, w_tdiv, w_tmod, IntKind.bits, unA, bs_pure, bs_cells, bs_go cb, bs_length, h60', h60'', cl, lives, R, By, lp, ln, rd, pt, sm, N1, N2, P]
end T25
