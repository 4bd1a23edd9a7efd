/- The law BitstringsNamed at the evaluator: true at every two numbers. No conditions. -/
import Derived.Test.YtalmnhdnclmhbaaT30
open Ab Go TabB T1 T2 T3 T4 T5 T6 T12 T14 T24 T28
set_option maxRecDepth 20000
set_option linter.unusedSimpArgs false
set_option linter.unusedVariables false
set_option maxHeartbeats 16000000
namespace T31
/-- What there is to say of a list of bits whose octets are few. -/
structure Oc (l : List Int) (x z : Int) : Prop where
  x0 : 0 ≤ x
  x7 : x ≤ 7
  hx : (8 - (l.length : Int) % 8) % 8 = x
  ys : bytesOf l ≠ []
  yb : isB (bytesOf l)
  hl : (bytesOf l).length ≤ 100
  hz : (bytesOf l)[(bytesOf l).length - 1]? = some z
  zb : 0 ≤ z ∧ z < 256
  hm : z % 2 ^ x.toNat = 0
  en : 8 * ((bytesOf l).length : Int) - x = (l.length : Int)
theorem oc (l : List Int) (hb : isBit l) (h0 : 0 < l.length) (hl : l.length ≤ 400) : ∃ x z, Oc l x z := by
  obtain ⟨x, hx⟩ : ∃ x, (8 - (l.length : Int) % 8) % 8 = x := ⟨_, rfl⟩
  have bl := bytesOf_length l
  have y0 : 0 < (bytesOf l).length := by omega
  obtain ⟨z, hz⟩ : ∃ z, (bytesOf l)[(bytesOf l).length - 1]? = some z := ⟨(bytesOf l)[(bytesOf l).length - 1]'(by omega), List.getElem?_eq_getElem _⟩
  have yb := bytesOf_isB l hb
  have ny : bytesOf l ≠ [] := List.length_pos_iff.1 y0
  obtain ⟨xn, hxn⟩ := Int.eq_ofNat_of_zero_le (show 0 ≤ x by omega)
  have tl := tail_bytesOf l hb
  have hm := (T13.tail (bytesOf l) yb xn l.length z (by omega) ny (by omega) hz).1 tl
  exact ⟨x, z, by omega, by omega, hx, ny, yb, by omega, hz, yb z (List.mem_of_getElem? hz), by subst hxn; simpa using hm, by omega⟩
theorem bt (l : List Int) (hb : isBit l) (x z : Int) (o : Oc l x z) (f c) : ∀ i v, l[i]? = some v → Con E 60 40 [.sl f (bs (bytesOf l)) c, .int .i64 (l.length : Int), .int .i64 ((i : Nat) : Int)] (.bool (v == 1)) := by
  intro i v h
  have K := T11.chk_ok f c x z (l.length : Int) (bytesOf l) o.x0 o.x7 o.ys o.hl o.hz o.zb o.hm o.en.symm
  have hi : i < l.length := (List.getElem?_eq_some_iff.1 h).1
  have h2 : (bits (bytesOf l))[i]? = some v := by rw [← take_bytesOf l hb, List.getElem?_take_of_lt hi] at h; exact h
  obtain ⟨j, t, ht, rfl⟩ : ∃ j t, t < 8 ∧ i = 8 * j + t := ⟨i / 8, i % 8, by omega, by omega⟩
  rw [bits_get _ j t ht] at h2
  obtain ⟨y, e1, e2⟩ := Option.bind_eq_some_iff.1 h2
  exact T16.bit_ f c (l.length : Int) v (bytesOf l) j t y o.yb o.hl e1 ht (by omega) K e2
theorem get (l : List Int) (x z : Int) (o : Oc l x z) (f c) : Con E 100 31 [.sl f (bs (x :: bytesOf l)) c] (.tup [.sl false (bs (bytesOf l)) (some (bytesOf l).length), .int .i64 (l.length : Int), .int .i64 0]) := by
  have G := T9.get_ok f c x z (bytesOf l) o.x0 o.x7 o.ys o.hl o.hz o.zb o.hm
  rw [o.en] at G; exact G
/-- What the law asks of a number. -/
structure Nm (l : List Int) (row : List Int) : Prop where
  b : isB row
  len : row.length = (l.length + 7) / 8 + 1
  hd : ∃ r, row = (8 - (l.length : Int) % 8) % 8 :: r
  put : Con E 500 29 [.int .u64 (W l)] (.sl false (bs row) (some row.length))
  ref : ∃ c, Con E 600 30 [.int .u64 (W l)] (.sl false (bs row) c)
  named : ∀ f c, Con E 1010 28 [.sl f (bs row) c, .int .u64 (W l), .int .i64 0] (.bool true)
theorem nm (l : List Int) (hb : isBit l) (hl : l.length ≤ 64) (hz : l ≠ [] → l[l.length - 1]? = some 1) : ∃ row, Nm l row := by
  by_cases h0 : l = []
  · subst h0
    exact ⟨[0], by simp [isB_cons, isB_nil], rfl, ⟨[], rfl⟩, T23.put0, ⟨_, T30.put0⟩, fun f c => T24.named f c [0] 0 0 (T18.none_ f c [0] (T9.get_zero f c))⟩
  have h1 : 0 < l.length := List.length_pos_iff.2 h0
  obtain ⟨x, z, o⟩ := oc l hb h1 (by omega)
  refine ⟨x :: bytesOf l, isB_cons.2 ⟨⟨o.x0, by have := o.x7; omega⟩, o.yb⟩, by rw [List.length_cons, bytesOf_length], ⟨_, by rw [o.hx]⟩, ?_, ⟨_, T30.put l hb h1 hl (hz h0) x o.hx⟩, fun f c => ?_⟩
  · exact T23.put l hb h1 hl (hz h0) x o.hx
  · exact T24.named f c _ (W l) 0 (T18.ok_ f c _ (bytesOf l) l hb h1 hl (get l x z o f c) (bt l hb x z o _ _) (hz h0))
theorem orU_ge (a b : Int) (h0 : 0 ≤ a) (h1 : a < 18446744073709551616) : a ≤ T17.orU a b ∧ T17.orU a b < 18446744073709551616 := by
  obtain ⟨n, rfl⟩ := Int.eq_ofNat_of_zero_le h0
  unfold T17.orU
  rw [w_u64, BitVec.ofInt_natCast]
  have e : (BitVec.ofNat 64 n).toNat = n := by rw [BitVec.toNat_ofNat, Nat.mod_eq_of_lt (by omega)]
  have le : n ≤ (BitVec.ofNat 64 n ||| BitVec.ofInt 64 b).toNat := by
    rw [BitVec.toNat_or, e]; exact Nat.left_le_or
  have lt := (BitVec.ofNat 64 n ||| BitVec.ofInt 64 b).isLt
  omega
theorem len_mono {l m : List Int} (hb : isBit l) (hc : isBit m) (hz : l ≠ [] → l[l.length - 1]? = some 1) (h : W l ≤ W m) : l.length ≤ m.length := by
  by_cases h0 : l = []
  · subst h0; simp
  have h1 : 0 < l.length := List.length_pos_iff.2 h0
  have a := T23.W_ge l hb h1 (hz h0)
  have b := (W_lt hc).2
  have c : (2 : Int) ^ (l.length - 1) < 2 ^ m.length := by omega
  have d : (2 : Nat) ^ (l.length - 1) < 2 ^ m.length := by exact_mod_cast c
  have := (Nat.pow_lt_pow_iff_right (by decide : 1 < 2)).1 d
  omega
theorem law (w k : Int) (w0 : 0 ≤ w) (w1 : w < 18446744073709551616) (k0 : 0 ≤ k) (k1 : k < 256) : Con E 1200 9 [.int .u64 w, .int .u8 k] (.bool true) := by
  refine .of (g := []) rfl ?_
  rw [aCall_fn rfl (E_fn9) rfl (Nat.le_of_ble_eq_true rfl) rfl rfl, body_9, c9]
  obtain ⟨v, hv⟩ : ∃ v, T17.orU w (2 ^ (k % 64).toNat % 18446744073709551616) = v := ⟨_, rfl⟩
  have ge := orU_ge w (2 ^ (k % 64).toNat % 18446744073709551616) w0 w1
  rw [hv] at ge
  obtain ⟨l, lb, lw, ll, lz, _, _⟩ := bitsOf 64 w w0 (by simpa using w1)
  obtain ⟨m, mb, mw, ml, mz, _, _⟩ := bitsOf 64 v (by omega) (by simpa using ge.2)
  obtain ⟨r, hr⟩ := nm l lb ll lz
  obtain ⟨s, hs⟩ := nm m mb ml mz
  obtain ⟨rc, rr⟩ := hr.ref
  have P1 := hr.put
  have P2 := hs.put
  have N1 := hr.named
  have N2 := hs.named
  rw [lw] at P1 N1 rr
  rw [mw] at P2 N2
  have lm := len_mono lb mb lz (by rw [lw, mw]; exact ge.1)
  have sm := T10.same false false rc r 0 hr.b
  have km : k.tmod 64 = k % 64 := Int.tmod_eq_emod_of_nonneg k0
  have mk : min (k % 64).toNat 64 = (k % 64).toNat := by omega
  have kn : ¬ k % 64 < 0 := by omega
  have le : (r.length : Int) ≤ (s.length : Int) := by rw [hr.len, hs.len]; omega
  obtain ⟨p, hp⟩ : ∃ p, (8 - (l.length : Int) % 8) % 8 = p := ⟨_, rfl⟩
  obtain ⟨q, hq⟩ : ∃ q, (8 - (m.length : Int) % 8) % 8 = q := ⟨_, rfl⟩
  obtain ⟨r', er⟩ := hr.hd
  obtain ⟨s', es⟩ := hs.hd
  rw [hp] at er
  rw [hq] at es
  have i1 : ∀ f c hp, indexAddrA E 22 (.sl f (bs r) c) (.int .i64 0) hp = some (.pel [.int .u8 p]) := fun f c hp => at_ f c r 0 _ (by rw [er]; rfl) hp
  have i2 : ∀ f c hp, indexAddrA E 22 (.sl f (bs s) c) (.int .i64 0) hp = some (.pel [.int .u8 q]) := fun f c hp => at_ f c s 0 _ (by rw [es]; rfl) hp
  have le2 : r.length ≤ s.length := by omega
  have pr := bs_pure r
  have ps := bs_pure s
  by_cases lt : r.length < s.length
  · simp [↓s_seq, ↓s_reg, ↓s_regd, ↓s_cond, ↓s_block, ↓s_cons, ↓s_consG, s_nil, s_loop, s_round, s_lpn, s_lpe, s_lpr, firstReg, s_gt, s_gf, s_wb, s_wu, s_val, s_valN, s_skip, s_calls, s_callP, s_cax, lookR, flatR, pureKs, s_ret, s_rgx, s_sqn, s_sqr, s_sqe, s_cdb, s_bkn, s_bkr, s_bke, s_exit, s_ret', s_skip', s_finr, s_finn, s_fin1, s_fix, s_clean, s_gc0, o_tmp, o_int, o_bool, o_nil, o_str, o_fn, o_nil', l_hit, l_miss, l_nil, ol_nil, ol_cons, ol_some, x_move, x_assign, x_pick, pk_t, pk_f, x_bin, bn_s, x_un, x_extract, x_callF, cl_no, x_callB, x_conv, cvx, convA, frame0, binA, intOp, resL, resA, results1, sealA, sealLW, AV.pure, AV.pureL, keepT, x_alloc, x_box, bxx, x_build, bdx, x_buildSlice, bsx, x_buildSliceF, bsf, x_load, ldx, x_store, stx, x_slice, slx, x_fieldAddr, x_field, x_index, ixx, x_indexAddr, iax, x_makeSlice, msx, x_nilCheck, newK, genOf, setK, lookK, fillA, writeL, writeC, readC, conts, TyI.mk1, sliceA, boundsA, boundsB, fitsA, numA, indexAddrA, fieldAddrA, partA, fieldA, indexA, appendA, copyA, builtinA, AV.cells, AV.scal, chunk, gcH, reach, keysT, keepK, inKs, AV.keys, AV.keysL, Ty.isAgg, eq1, eqL, convA.go, ltI, w_u8, w_u32, w_u64, w_i64, w_fdiv, w_tdiv, w_tmod, IntKind.bits, unA, ↓T17.i_orU, km, mk, kn, hv, P1, P2, N1, N2, rr, sm, le, le2, lt, i1, i2, -indexAddrA, pr, ps, bs_length, lives]
  · have ge2 : q ≤ p := by
      have a := hr.len
      have b := hs.len
      omega
    simp [↓s_seq, ↓s_reg, ↓s_regd, ↓s_cond, ↓s_block, ↓s_cons, ↓s_consG, s_nil, s_loop, s_round, s_lpn, s_lpe, s_lpr, firstReg, s_gt, s_gf, s_wb, s_wu, s_val, s_valN, s_skip, s_calls, s_callP, s_cax, lookR, flatR, pureKs, s_ret, s_rgx, s_sqn, s_sqr, s_sqe, s_cdb, s_bkn, s_bkr, s_bke, s_exit, s_ret', s_skip', s_finr, s_finn, s_fin1, s_fix, s_clean, s_gc0, o_tmp, o_int, o_bool, o_nil, o_str, o_fn, o_nil', l_hit, l_miss, l_nil, ol_nil, ol_cons, ol_some, x_move, x_assign, x_pick, pk_t, pk_f, x_bin, bn_s, x_un, x_extract, x_callF, cl_no, x_callB, x_conv, cvx, convA, frame0, binA, intOp, resL, resA, results1, sealA, sealLW, AV.pure, AV.pureL, keepT, x_alloc, x_box, bxx, x_build, bdx, x_buildSlice, bsx, x_buildSliceF, bsf, x_load, ldx, x_store, stx, x_slice, slx, x_fieldAddr, x_field, x_index, ixx, x_indexAddr, iax, x_makeSlice, msx, x_nilCheck, newK, genOf, setK, lookK, fillA, writeL, writeC, readC, conts, TyI.mk1, sliceA, boundsA, boundsB, fitsA, numA, indexAddrA, fieldAddrA, partA, fieldA, indexA, appendA, copyA, builtinA, AV.cells, AV.scal, chunk, gcH, reach, keysT, keepK, inKs, AV.keys, AV.keysL, Ty.isAgg, eq1, eqL, convA.go, ltI, w_u8, w_u32, w_u64, w_i64, w_fdiv, w_tdiv, w_tmod, IntKind.bits, unA, ↓T17.i_orU, km, mk, kn, hv, P1, P2, N1, N2, rr, sm, le, le2, lt, ge2, i1, i2, -indexAddrA, pr, ps, bs_length, lives]
end T31
