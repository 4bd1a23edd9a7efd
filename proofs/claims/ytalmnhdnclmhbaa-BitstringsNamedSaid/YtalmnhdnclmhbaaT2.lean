/- The bits of octets, by the reference, at the evaluator: the outer loop. No conditions. -/
import Derived.Test.YtalmnhdnclmhbaaT1
import Derived.Test.YtalmnhdnclmhbaaB18
open Ab Go TabB T1
set_option maxRecDepth 20000
set_option linter.unusedSimpArgs false
set_option linter.unusedVariables false
set_option maxHeartbeats 8000000
namespace T2
abbrev O (f : Bool) (XS : List AV) (c : Option Nat) (i : Int) (m n : Nat) (ys : List AV) : St := ⟨[(0, .sl f XS c), (3, .ref (1, 26, m) 0 n none), (4, .int .i64 i)], [((1, 26, m), ⟨ys, true, true, false, 1, false⟩)]⟩
theorem outer (call sc) (q : Nat) (XS : List AV) (f : Bool) (c : Option Nat) (i x : Int) (m : Nat) (l : List Int) (hX : AV.pureL XS = true) (hkX : AV.keysL XS = []) (hn : l.length < 900000) (h0 : 0 ≤ i) (hi : i < (XS.length : Int)) (hm : i < 4000000) (hx : 0 ≤ x ∧ x < 256)
    (ix : ∀ h, indexAddrA E 22 (.sl f XS c) (.int .i64 i) h = some (.pel [.int .u8 x])) :
    aCode E call sc (q + 9) 1 fn45 bodyO (cleanS 1 ((firstReg bodyO).bind fn45.head) (O f XS c i m l.length (is l))) = some (.normal, O f XS c (i + 1) (m + 8) (l ++ b8 x).length (is (l ++ b8 x))) := by
  have e8 := eight call sc (q + 9) XS f c i x m l q hX hkX hn hx ix
  simp [bodyI, bodyO, c45, firstReg] at e8
  have w := w64 (i + 1) (by omega) (by omega)
  have kl := is_keys l
  have k2 := is_keys (l ++ b8 x)
  have k3 := is_keys (b8 x)
  simp [bodyO, c45, ↓s_seq, ↓s_reg, ↓s_regd, ↓s_cond, ↓s_block, ↓s_cons, ↓s_consG, s_nil, s_loop, s_round, s_lpn, s_lpe, s_lpr, firstReg, s_gt, s_gf, s_wb, s_wu, s_val, s_valN, s_skip, s_calls, s_callP, s_cax, lookR, flatR, pureKs, s_ret, s_rgx, s_sqn, s_sqr, s_sqe, s_cdb, s_bkn, s_bkr, s_bke, s_exit, s_ret', s_skip', s_finr, s_finn, s_fin1, s_fix, s_clean, s_gc0, o_tmp, o_int, o_bool, o_nil, o_str, o_fn, o_nil', l_hit, l_miss, l_nil, ol_nil, ol_cons, ol_some, x_move, x_assign, x_pick, pk_t, pk_f, x_bin, bn_s, x_un, x_extract, x_callF, cl_no, x_callB, x_conv, cvx, convA, frame0, binA, intOp, resL, resA, results1, sealA, sealLW, AV.pure, AV.pureL, keepT, x_alloc, x_box, bxx, x_build, bdx, x_buildSlice, bsx, x_buildSliceF, bsf, x_load, ldx, x_store, stx, x_slice, slx, x_fieldAddr, x_field, x_index, ixx, x_indexAddr, iax, x_makeSlice, msx, x_nilCheck, newK, genOf, setK, lookK, fillA, writeL, writeC, readC, conts, TyI.mk1, sliceA, boundsA, boundsB, fitsA, numA, indexAddrA, fieldAddrA, partA, fieldA, indexA, appendA, copyA, builtinA, AV.cells, AV.scal, chunk, gcH, reach, keysT, keepK, inKs, AV.keys, AV.keysL, Ty.isAgg, eq1, eqL, convA.go, ltI, w_u8, w_u32, w_u64, w_i64, w_fdiv, w_tdiv, w_tmod, IntKind.bits, unA, hX, hkX, hi, e8, w, kl, k2, k3, -s_round]
theorem outer0 (call sc) (q : Nat) (XS : List AV) (f : Bool) (c : Option Nat) (x : Int) (hX : AV.pureL XS = true) (hkX : AV.keysL XS = []) (hi : (0 : Int) < (XS.length : Int)) (hx : 0 ≤ x ∧ x < 256)
    (ix : ∀ h, indexAddrA E 22 (.sl f XS c) (.int .i64 0) h = some (.pel [.int .u8 x])) :
    aCode E call sc (q + 9) 1 fn45 bodyO (cleanS 1 ((firstReg bodyO).bind fn45.head) ⟨[(0, .sl f XS c), (3, .sl true [] (some 0)), (4, .int .i64 0)], []⟩) = some (.normal, O f XS c 1 7 (b8 x).length (is (b8 x))) := by
  have e8 := eight0 call sc (q + 9) XS f c 0 x q hX hkX hx ix
  simp [bodyI, bodyO, c45, firstReg] at e8
  have k3 := is_keys (b8 x)
  have hi' : XS ≠ [] := by intro e; subst e; simp at hi
  have hi2 : 0 < XS.length := by omega
  simp [bodyO, c45, ↓s_seq, ↓s_reg, ↓s_regd, ↓s_cond, ↓s_block, ↓s_cons, ↓s_consG, s_nil, s_loop, s_round, s_lpn, s_lpe, s_lpr, firstReg, s_gt, s_gf, s_wb, s_wu, s_val, s_valN, s_skip, s_calls, s_callP, s_cax, lookR, flatR, pureKs, s_ret, s_rgx, s_sqn, s_sqr, s_sqe, s_cdb, s_bkn, s_bkr, s_bke, s_exit, s_ret', s_skip', s_finr, s_finn, s_fin1, s_fix, s_clean, s_gc0, o_tmp, o_int, o_bool, o_nil, o_str, o_fn, o_nil', l_hit, l_miss, l_nil, ol_nil, ol_cons, ol_some, x_move, x_assign, x_pick, pk_t, pk_f, x_bin, bn_s, x_un, x_extract, x_callF, cl_no, x_callB, x_conv, cvx, convA, frame0, binA, intOp, resL, resA, results1, sealA, sealLW, AV.pure, AV.pureL, keepT, x_alloc, x_box, bxx, x_build, bdx, x_buildSlice, bsx, x_buildSliceF, bsf, x_load, ldx, x_store, stx, x_slice, slx, x_fieldAddr, x_field, x_index, ixx, x_indexAddr, iax, x_makeSlice, msx, x_nilCheck, newK, genOf, setK, lookK, fillA, writeL, writeC, readC, conts, TyI.mk1, sliceA, boundsA, boundsB, fitsA, numA, indexAddrA, fieldAddrA, partA, fieldA, indexA, appendA, copyA, builtinA, AV.cells, AV.scal, chunk, gcH, reach, keysT, keepK, inKs, AV.keys, AV.keysL, Ty.isAgg, eq1, eqL, convA.go, ltI, w_u8, w_u32, w_u64, w_i64, w_fdiv, w_tdiv, w_tmod, IntKind.bits, unA, hX, hkX, hi, hi', hi2, e8, k3, -s_round]
theorem last (call sc) (k1 : Nat) (XS : List AV) (f : Bool) (c : Option Nat) (m n : Nat) (l : List Int) (hX : AV.pureL XS = true) (hkX : AV.keysL XS = []) :
    aCode E call sc k1 1 fn45 bodyO (cleanS 1 ((firstReg bodyO).bind fn45.head) (O f XS c XS.length m n (is l))) = some (.exit 0, ⟨[(0, .sl f XS c), (3, .ref (1, 26, m) 0 n none), (4, .int .i64 XS.length), (9, .bool false)], [((1, 26, m), ⟨is l, true, true, false, 1, false⟩)]⟩) := by
  have kl := is_keys l
  simp [bodyO, c45, ↓s_seq, ↓s_reg, ↓s_regd, ↓s_cond, ↓s_block, ↓s_cons, ↓s_consG, s_nil, s_loop, s_round, s_lpn, s_lpe, s_lpr, firstReg, s_gt, s_gf, s_wb, s_wu, s_val, s_valN, s_skip, s_calls, s_callP, s_cax, lookR, flatR, pureKs, s_ret, s_rgx, s_sqn, s_sqr, s_sqe, s_cdb, s_bkn, s_bkr, s_bke, s_exit, s_ret', s_skip', s_finr, s_finn, s_fin1, s_fix, s_clean, s_gc0, o_tmp, o_int, o_bool, o_nil, o_str, o_fn, o_nil', l_hit, l_miss, l_nil, ol_nil, ol_cons, ol_some, x_move, x_assign, x_pick, pk_t, pk_f, x_bin, bn_s, x_un, x_extract, x_callF, cl_no, x_callB, x_conv, cvx, convA, frame0, binA, intOp, resL, resA, results1, sealA, sealLW, AV.pure, AV.pureL, keepT, x_alloc, x_box, bxx, x_build, bdx, x_buildSlice, bsx, x_buildSliceF, bsf, x_load, ldx, x_store, stx, x_slice, slx, x_fieldAddr, x_field, x_index, ixx, x_indexAddr, iax, x_makeSlice, msx, x_nilCheck, newK, genOf, setK, lookK, fillA, writeL, writeC, readC, conts, TyI.mk1, sliceA, boundsA, boundsB, fitsA, numA, indexAddrA, fieldAddrA, partA, fieldA, indexA, appendA, copyA, builtinA, AV.cells, AV.scal, chunk, gcH, reach, keysT, keepK, inKs, AV.keys, AV.keysL, Ty.isAgg, eq1, eqL, convA.go, ltI, w_u8, w_u32, w_u64, w_i64, w_fdiv, w_tdiv, w_tmod, IntKind.bits, unA, hX, hkX, kl, -s_round]
theorem at_ (f c) (xs : List Int) (i : Nat) (x : Int) (h : xs[i]? = some x) : ∀ hp, indexAddrA E 22 (.sl f (bs xs) c) (.int .i64 i) hp = some (.pel [.int .u8 x]) := by
  intro hp
  have hl : i < xs.length := (List.getElem?_eq_some_iff.1 h).1
  have e : (bs xs)[i]? = some (.int .u8 x) := by rw [bs_get, h]; rfl
  unfold indexAddrA
  simp only [E_ty22]
  rw [if_pos ⟨by omega, by rw [bs_length]; omega⟩]
  simp only [Int.toNat_natCast, e, E_ty5]
  simp [AV.cells, AV.scal]
theorem chunk_one' : ∀ (l : List AV), chunk false 1 l.length l = l
  | [] => rfl
  | x :: l => by simp [chunk, chunk_one' l]
/-- A row of plain cells is sealed. -/
theorem seal_row {n : Nat} {h : Heap} {key : Key} {ys : List AV} {len cap mt ex} (hk : lookK h key = some ⟨ys, true, mt, ex, 1, false⟩) (hl : len = ys.length) (hp : AV.pureL ys = true) : sealA (n + 2) h (.ref key 0 len cap) = some (.sl false ys cap, setK h key ⟨ys, true, false, ex, 1, false⟩) := by
  subst hl
  unfold sealA
  simp only [AV.pure, Bool.false_eq_true, if_false, hk, List.drop_zero, Nat.mul_one, List.take_length, Nat.zero_add]
  rw [if_pos ⟨trivial, Nat.le_refl _, fun _ => trivial⟩, sealL_of_pure n _ _ hp]
  simp only [chunk_one']
def bits (xs : List Int) : List Int := xs.flatMap b8
theorem b8_length (x) : (b8 x).length = 8 := rfl
theorem bits_length : ∀ xs, (bits xs).length = 8 * xs.length
  | [] => rfl
  | x :: xs => by
    show (b8 x ++ bits xs).length = _
    rw [List.length_append, bits_length xs, b8_length, List.length_cons]; omega
theorem bits_take (xs : List Int) (i : Nat) (x : Int) (h : xs[i]? = some x) : bits (xs.take (i + 1)) = bits (xs.take i) ++ b8 x := by
  have : xs.take (i + 1) = xs.take i ++ [x] := by rw [List.take_add_one, h]; rfl
  rw [this]; simp [bits]
theorem loop (call sc) (q k : Nat) (f : Bool) (c : Option Nat) (xs : List Int) (hb : isB xs) (hl : xs.length < 100000) (h0 : 0 < xs.length) (hk : xs.length < k) :
    ∃ m, aLoop (aCode E call sc (q + 9) 1 fn45 bodyO) (cleanS 1 ((firstReg bodyO).bind fn45.head)) (k + 1) ⟨[(0, .sl f (bs xs) c), (3, .sl true [] (some 0)), (4, .int .i64 0)], []⟩ = some (.exit 0, ⟨[(0, .sl f (bs xs) c), (3, .ref (1, 26, m) 0 (bits xs).length none), (4, .int .i64 xs.length), (9, .bool false)], [((1, 26, m), ⟨is (bits xs), true, true, false, 1, false⟩)]⟩) := by
  have hX := bs_pure xs
  have hkX : AV.keysL (bs xs) = [] := AV.keysL_pure _ hX
  have lx : ∀ (i : Nat) (x : Int), xs[i]? = some x → 0 ≤ x ∧ x < 256 := fun i x h => hb x (List.mem_of_getElem? h)
  obtain ⟨x0, e0⟩ : ∃ x, xs[0]? = some x := ⟨xs[0], by simp [h0]⟩
  have r0 := outer0 call sc q (bs xs) f c x0 hX hkX (by rw [bs_length]; omega) (lx 0 x0 e0) (at_ f c xs 0 x0 e0)
  have t1 : bits (xs.take 1) = b8 x0 := by have := bits_take xs 0 x0 e0; simpa [bits] using this
  rw [aLoop_succ r0]
  refine ⟨8 * xs.length - 1, ?_⟩
  refine loopR (fun j => O f (bs xs) c ((j + 1 : Nat) : Int) (8 * (j + 1) - 1) (bits (xs.take (j + 1))).length (is (bits (xs.take (j + 1))))) (xs.length - 1) ?_ ?_ ?_ (by simp) (by omega)
  · show O f (bs xs) c 1 7 (b8 x0).length (is (b8 x0)) = O f (bs xs) c ((0 + 1 : Nat) : Int) (8 * (0 + 1) - 1) (bits (xs.take (0 + 1))).length (is (bits (xs.take (0 + 1))))
    rw [Nat.zero_add, t1]; rfl
  · intro j hj
    obtain ⟨x, e⟩ : ∃ x, xs[j + 1]? = some x := ⟨xs[j + 1], by simp⟩
    have hlen : (bits (xs.take (j + 1))).length < 900000 := by rw [bits_length, List.length_take]; omega
    have r := outer call sc q (bs xs) f c ((j + 1 : Nat) : Int) x (8 * (j + 1) - 1) (bits (xs.take (j + 1))) hX hkX hlen (by omega) (by rw [bs_length]; omega) (by omega) (lx _ x e) (at_ f c xs (j + 1) x e)
    have e2 : 8 * (j + 1) - 1 + 8 = 8 * (j + 1 + 1) - 1 := by omega
    have e3 : ((j + 1 : Nat) : Int) + 1 = ((j + 1 + 1 : Nat) : Int) := by omega
    rw [e2, e3, ← bits_take xs (j + 1) x e] at r
    exact r
  · have r := last call sc (q + 9) (bs xs) f c (8 * (xs.length - 1 + 1) - 1) (bits (xs.take (xs.length - 1 + 1))).length (bits (xs.take (xs.length - 1 + 1))) hX hkX
    have e1 : xs.length - 1 + 1 = xs.length := by omega
    rw [e1, List.take_length, bs_length] at r
    simp only [e1, List.take_length]
    exact r
theorem bits_nil (f c) : Con E 20 45 [.sl f (bs []) c] (.sl true [] (some 0)) := by
  refine .of (g := []) rfl ?_
  rw [aCall_fn rfl (E_fn45) rfl (Nat.le_of_ble_eq_true rfl) rfl rfl, body_45, c45]
  simp [↓s_seq, ↓s_reg, ↓s_regd, ↓s_cond, ↓s_block, ↓s_cons, ↓s_consG, s_nil, s_loop, s_round, s_lpn, s_lpe, s_lpr, firstReg, s_gt, s_gf, s_wb, s_wu, s_val, s_valN, s_skip, s_calls, s_callP, s_cax, lookR, flatR, pureKs, s_ret, s_rgx, s_sqn, s_sqr, s_sqe, s_cdb, s_bkn, s_bkr, s_bke, s_exit, s_ret', s_skip', s_finr, s_finn, s_fin1, s_fix, s_clean, s_gc0, o_tmp, o_int, o_bool, o_nil, o_str, o_fn, o_nil', l_hit, l_miss, l_nil, ol_nil, ol_cons, ol_some, x_move, x_assign, x_pick, pk_t, pk_f, x_bin, bn_s, x_un, x_extract, x_callF, cl_no, x_callB, x_conv, cvx, convA, frame0, binA, intOp, resL, resA, results1, sealA, sealLW, AV.pure, AV.pureL, keepT, x_alloc, x_box, bxx, x_build, bdx, x_buildSlice, bsx, x_buildSliceF, bsf, x_load, ldx, x_store, stx, x_slice, slx, x_fieldAddr, x_field, x_index, ixx, x_indexAddr, iax, x_makeSlice, msx, x_nilCheck, newK, genOf, setK, lookK, fillA, writeL, writeC, readC, conts, TyI.mk1, sliceA, boundsA, boundsB, fitsA, numA, indexAddrA, fieldAddrA, partA, fieldA, indexA, appendA, copyA, builtinA, AV.cells, AV.scal, chunk, gcH, reach, keysT, keepK, inKs, AV.keys, AV.keysL, Ty.isAgg, eq1, eqL, convA.go, ltI, w_u8, w_u32, w_u64, w_i64, w_fdiv, w_tdiv, w_tmod, IntKind.bits, unA, bs_nil]
theorem bits_con (f c) (xs : List Int) (hb : isB xs) (hl : xs.length < 100000) (h0 : 0 < xs.length) (N : Nat) (hN : xs.length + 20 ≤ N) : Con E N 45 [.sl f (bs xs) c] (.sl false (is (bits xs)) none) := by
  obtain ⟨q, rfl⟩ : ∃ q, N = q + 9 + 1 := ⟨N - 10, by omega⟩
  refine .of (g := []) (by simp [AV.pureL, AV.pure, bs_pure]) ?_
  rw [aCall_fn rfl (E_fn45) (by simp [AV.pureL, AV.pure, bs_pure]) (Nat.le_of_ble_eq_true rfl) rfl rfl, body_45, c45]
  obtain ⟨m, e⟩ := loop (aCall E (q + 9)) (dcall (aRun E (q + 9))) q (q + 8) f c xs hb hl h0 (by omega)
  simp [bodyO, c45, firstReg] at e
  have k1 := is_keys (bits xs)
  have k2 := is_pure (bits xs)
  have k3 := is_length (bits xs)
  have sl : ∀ h, lookK h (1, 26, m) = some ⟨is (bits xs), true, true, false, 1, false⟩ → sealA 20 h (.ref (1, 26, m) 0 (bits xs).length none) = some (.sl false (is (bits xs)) none, setK h (1, 26, m) ⟨is (bits xs), true, false, false, 1, false⟩) := fun h hk => seal_row (n := 18) hk k3.symm k2
  simp [↓s_seq, ↓s_reg, ↓s_regd, ↓s_cond, ↓s_block, ↓s_cons, ↓s_consG, s_nil, s_loop, s_round, s_lpn, s_lpe, s_lpr, firstReg, s_gt, s_gf, s_wb, s_wu, s_val, s_valN, s_skip, s_calls, s_callP, s_cax, lookR, flatR, pureKs, s_ret, s_rgx, s_sqn, s_sqr, s_sqe, s_cdb, s_bkn, s_bkr, s_bke, s_exit, s_ret', s_skip', s_finr, s_finn, s_fin1, s_fix, s_clean, s_gc0, o_tmp, o_int, o_bool, o_nil, o_str, o_fn, o_nil', l_hit, l_miss, l_nil, ol_nil, ol_cons, ol_some, x_move, x_assign, x_pick, pk_t, pk_f, x_bin, bn_s, x_un, x_extract, x_callF, cl_no, x_callB, x_conv, cvx, convA, frame0, binA, intOp, resL, resA, results1, sealA, sealLW, AV.pure, AV.pureL, keepT, x_alloc, x_box, bxx, x_build, bdx, x_buildSlice, bsx, x_buildSliceF, bsf, x_load, ldx, x_store, stx, x_slice, slx, x_fieldAddr, x_field, x_index, ixx, x_indexAddr, iax, x_makeSlice, msx, x_nilCheck, newK, genOf, setK, lookK, fillA, writeL, writeC, readC, conts, TyI.mk1, sliceA, boundsA, boundsB, fitsA, numA, indexAddrA, fieldAddrA, partA, fieldA, indexA, appendA, copyA, builtinA, AV.cells, AV.scal, chunk, gcH, reach, keysT, keepK, inKs, AV.keys, AV.keysL, Ty.isAgg, eq1, eqL, convA.go, ltI, w_u8, w_u32, w_u64, w_i64, w_fdiv, w_tdiv, w_tmod, IntKind.bits, unA, bs_pure, e, k1, k2, k3, sl, -s_round, -sealA, -sealLW]
end T2
