/- The bits of octets, by the reference, at the evaluator. No conditions. -/
import Derived.Test.YtalmnhdnclmhbaaTabB
import Derived.Test.YtalmnhdnclmhbaaB32
open Ab Go TabB
set_option maxRecDepth 20000
set_option linter.unusedSimpArgs false
set_option linter.unusedVariables false
set_option maxHeartbeats 8000000
namespace T1
theorem w64 (n : Int) (h0 : 0 ≤ n) (h1 : n < 4294967296) : IntKind.i64.wrap n = n := Go.IntWalk.i64_in _ (by omega)
theorem kL_app : ∀ (a b : List AV), AV.keysL (a ++ b) = AV.keysL a ++ AV.keysL b
  | [], b => rfl
  | x :: a, b => by simp [AV.keysL, kL_app a b]
theorem loopR {f : St → Option (AExit × St)} {cl : St → St} {k : Nat} {s0 : St} {r : AExit × St} (S : Nat → St) (N : Nat) (h0 : s0 = S 0) (step : ∀ i, i < N → f (cl (S i)) = some (.normal, S (i + 1))) (last : f (cl (S N)) = some r) (hr : r.1 ≠ .normal) (hk : N < k) : aLoop f cl k s0 = some r := by
  subst h0
  have gen : ∀ m i k, i + m = N → m < k → aLoop f cl k (S i) = some r := by
    intro m
    induction m with
    | zero =>
      intro i k hi hk
      obtain rfl : i = N := by omega
      obtain ⟨k, rfl⟩ : ∃ j, k = j + 1 := ⟨k - 1, by omega⟩
      simp only [aLoop, last]
      obtain ⟨e, s⟩ := r
      cases e <;> first | rfl | exact absurd rfl hr
    | succ m ih =>
      intro i k hi hk
      obtain ⟨k, rfl⟩ : ∃ j, k = j + 1 := ⟨k - 1, by omega⟩
      simp only [aLoop, step i (by omega)]
      exact ih (i + 1) k (by omega) (by omega)
  exact gen N 0 k (by omega) hk
def bodyO : Code := match c45 with
  | .seq _ (.seq _ (.seq (.seq _ (.block _ (.loop b))) _)) => b
  | _ => .skip
def bodyI : Code := match bodyO with
  | .seq _ (.seq (.block _ (.seq _ (.block _ (.loop b)))) _) => b
  | _ => .skip
abbrev S (f : Bool) (XS : List AV) (c : Option Nat) (i k : Int) (m n : Nat) (ys : List AV) : St := ⟨[(0, .sl f XS c), (3, .ref (1, 26, m) 0 n none), (4, .int .i64 i), (5, .int .i64 k)], [((1, 26, m), ⟨ys, true, true, false, 1, false⟩)]⟩
theorem round (call sc) (k1 : Nat) (XS : List AV) (f : Bool) (c : Option Nat) (i k x : Int) (m n : Nat) (ys : List AV) (hX : AV.pureL XS = true) (hys : ys.length = n) (hs : ys.all AV.scal = true) (hp : AV.pureL ys = true) (hky : AV.keysL ys = []) (hkX : AV.keysL XS = []) (hn : n < 1000000) (hk : 0 < k) (hk2 : k < 256) (hx : 0 ≤ x ∧ x < 256)
    (ix : ∀ h, indexAddrA E 22 (.sl f XS c) (.int .i64 i) h = some (.pel [.int .u8 x])) :
    aCode E call sc k1 1 fn45 bodyI (cleanS 1 ((firstReg bodyI).bind fn45.head) ⟨[(0, .sl f XS c), (3, .ref (1, 26, m) 0 n none), (4, .int .i64 i), (5, .int .i64 k)], [((1, 26, m), ⟨ys, true, true, false, 1, false⟩)]⟩) =
      some (.normal, ⟨[(0, .sl f XS c), (3, .ref (1, 26, m + 1) 0 (n + 1) none), (4, .int .i64 i), (5, .int .i64 (k / 2))], [((1, 26, m + 1), ⟨ys ++ [.int .i64 (x / k % 2)], true, true, false, 1, false⟩)]⟩) := by
  have e0 : ¬ k = 0 := by omega
  have w1 := w64 x hx.1 (by omega)
  have q1 : x.tdiv k = x / k := Int.tdiv_eq_ediv_of_nonneg hx.1
  have b1 : 0 ≤ x / k := Int.ediv_nonneg hx.1 (by omega)
  have b2 : x / k ≤ x := Int.ediv_le_self k hx.1
  have w2 := w64 (x / k) b1 (by omega)
  have q2 : (x / k).tmod 2 = x / k % 2 := Int.tmod_eq_emod_of_nonneg b1
  have w3 := w64 (x / k % 2) (by omega) (by omega)
  have q3 : k.tdiv 2 = k / 2 := Int.tdiv_eq_ediv_of_nonneg (by omega)
  have w4 := w64 (k / 2) (by omega) (by omega)
  have kk : AV.keysL (ys ++ [.int .i64 (x / k % 2)]) = [] := by rw [kL_app, hky]; rfl
  have cp : (n + 1) * 8 ≤ 70368744177664 := by omega
  simp [bodyI, bodyO, c45, ↓s_seq, ↓s_reg, ↓s_regd, ↓s_cond, ↓s_block, ↓s_cons, ↓s_consG, s_nil, s_loop, s_round, s_lpn, s_lpe, s_lpr, firstReg, s_gt, s_gf, s_wb, s_wu, s_val, s_valN, s_skip, s_calls, s_callP, s_cax, lookR, flatR, pureKs, s_ret, s_rgx, s_sqn, s_sqr, s_sqe, s_cdb, s_bkn, s_bkr, s_bke, s_exit, s_ret', s_skip', s_finr, s_finn, s_fin1, s_fix, s_clean, s_gc0, o_tmp, o_int, o_bool, o_nil, o_str, o_fn, o_nil', l_hit, l_miss, l_nil, ol_nil, ol_cons, ol_some, x_move, x_assign, x_pick, pk_t, pk_f, x_bin, bn_s, x_un, x_extract, x_callF, cl_no, x_callB, x_conv, cvx, convA, frame0, binA, intOp, resL, resA, results1, sealA, sealLW, AV.pure, AV.pureL, keepT, x_alloc, x_box, bxx, x_build, bdx, x_buildSlice, bsx, x_buildSliceF, bsf, x_load, ldx, x_store, stx, x_slice, slx, x_fieldAddr, x_field, x_index, ixx, x_indexAddr, iax, x_makeSlice, msx, x_nilCheck, newK, genOf, setK, lookK, fillA, writeL, writeC, readC, conts, TyI.mk1, sliceA, boundsA, boundsB, fitsA, numA, indexAddrA, fieldAddrA, partA, fieldA, indexA, appendA, copyA, builtinA, AV.cells, AV.scal, chunk, gcH, reach, keysT, keepK, inKs, AV.keys, AV.keysL, Ty.isAgg, eq1, eqL, convA.go, ltI, w_u8, w_u32, w_u64, w_i64, w_fdiv, w_tdiv, w_tmod, IntKind.bits, unA, kk, cp, hX, hys, hs, hp, hk, hky, hkX, -indexAddrA, ix, e0, w1, q1, w2, q2, w3, q3, w4]
theorem stop (call sc) (k1 : Nat) (XS : List AV) (f : Bool) (c : Option Nat) (i : Int) (m n : Nat) (ys : List AV) (hX : AV.pureL XS = true) (hky : AV.keysL ys = []) (hkX : AV.keysL XS = []) :
    aCode E call sc k1 1 fn45 bodyI (cleanS 1 ((firstReg bodyI).bind fn45.head) (S f XS c i 0 m n ys)) = some (.exit 2, ⟨[(0, .sl f XS c), (3, .ref (1, 26, m) 0 n none), (4, .int .i64 i), (5, .int .i64 0), (13, .bool false)], [((1, 26, m), ⟨ys, true, true, false, 1, false⟩)]⟩) := by
  simp [bodyI, bodyO, c45, ↓s_seq, ↓s_reg, ↓s_regd, ↓s_cond, ↓s_block, ↓s_cons, ↓s_consG, s_nil, s_loop, s_round, s_lpn, s_lpe, s_lpr, firstReg, s_gt, s_gf, s_wb, s_wu, s_val, s_valN, s_skip, s_calls, s_callP, s_cax, lookR, flatR, pureKs, s_ret, s_rgx, s_sqn, s_sqr, s_sqe, s_cdb, s_bkn, s_bkr, s_bke, s_exit, s_ret', s_skip', s_finr, s_finn, s_fin1, s_fix, s_clean, s_gc0, o_tmp, o_int, o_bool, o_nil, o_str, o_fn, o_nil', l_hit, l_miss, l_nil, ol_nil, ol_cons, ol_some, x_move, x_assign, x_pick, pk_t, pk_f, x_bin, bn_s, x_un, x_extract, x_callF, cl_no, x_callB, x_conv, cvx, convA, frame0, binA, intOp, resL, resA, results1, sealA, sealLW, AV.pure, AV.pureL, keepT, x_alloc, x_box, bxx, x_build, bdx, x_buildSlice, bsx, x_buildSliceF, bsf, x_load, ldx, x_store, stx, x_slice, slx, x_fieldAddr, x_field, x_index, ixx, x_indexAddr, iax, x_makeSlice, msx, x_nilCheck, newK, genOf, setK, lookK, fillA, writeL, writeC, readC, conts, TyI.mk1, sliceA, boundsA, boundsB, fitsA, numA, indexAddrA, fieldAddrA, partA, fieldA, indexA, appendA, copyA, builtinA, AV.cells, AV.scal, chunk, gcH, reach, keysT, keepK, inKs, AV.keys, AV.keysL, Ty.isAgg, eq1, eqL, convA.go, ltI, w_u8, w_u32, w_u64, w_i64, w_fdiv, w_tdiv, w_tmod, IntKind.bits, unA, hX, hky, hkX]
theorem round0 (call sc) (k1 : Nat) (XS : List AV) (f : Bool) (c : Option Nat) (i k x : Int) (hX : AV.pureL XS = true) (hkX : AV.keysL XS = []) (hk : 0 < k) (hk2 : k < 256) (hx : 0 ≤ x ∧ x < 256)
    (ix : ∀ h, indexAddrA E 22 (.sl f XS c) (.int .i64 i) h = some (.pel [.int .u8 x])) :
    aCode E call sc k1 1 fn45 bodyI (cleanS 1 ((firstReg bodyI).bind fn45.head) ⟨[(0, .sl f XS c), (3, .sl true [] (some 0)), (4, .int .i64 i), (5, .int .i64 k)], []⟩) =
      some (.normal, S f XS c i (k / 2) 0 1 [.int .i64 (x / k % 2)]) := by
  have e0 : ¬ k = 0 := by omega
  have w1 := w64 x hx.1 (by omega)
  have q1 : x.tdiv k = x / k := Int.tdiv_eq_ediv_of_nonneg hx.1
  have b1 : 0 ≤ x / k := Int.ediv_nonneg hx.1 (by omega)
  have b2 : x / k ≤ x := Int.ediv_le_self k hx.1
  have w2 := w64 (x / k) b1 (by omega)
  have q2 : (x / k).tmod 2 = x / k % 2 := Int.tmod_eq_emod_of_nonneg b1
  have w3 := w64 (x / k % 2) (by omega) (by omega)
  have q3 : k.tdiv 2 = k / 2 := Int.tdiv_eq_ediv_of_nonneg (by omega)
  have w4 := w64 (k / 2) (by omega) (by omega)
  simp [bodyI, bodyO, c45, ↓s_seq, ↓s_reg, ↓s_regd, ↓s_cond, ↓s_block, ↓s_cons, ↓s_consG, s_nil, s_loop, s_round, s_lpn, s_lpe, s_lpr, firstReg, s_gt, s_gf, s_wb, s_wu, s_val, s_valN, s_skip, s_calls, s_callP, s_cax, lookR, flatR, pureKs, s_ret, s_rgx, s_sqn, s_sqr, s_sqe, s_cdb, s_bkn, s_bkr, s_bke, s_exit, s_ret', s_skip', s_finr, s_finn, s_fin1, s_fix, s_clean, s_gc0, o_tmp, o_int, o_bool, o_nil, o_str, o_fn, o_nil', l_hit, l_miss, l_nil, ol_nil, ol_cons, ol_some, x_move, x_assign, x_pick, pk_t, pk_f, x_bin, bn_s, x_un, x_extract, x_callF, cl_no, x_callB, x_conv, cvx, convA, frame0, binA, intOp, resL, resA, results1, sealA, sealLW, AV.pure, AV.pureL, keepT, x_alloc, x_box, bxx, x_build, bdx, x_buildSlice, bsx, x_buildSliceF, bsf, x_load, ldx, x_store, stx, x_slice, slx, x_fieldAddr, x_field, x_index, ixx, x_indexAddr, iax, x_makeSlice, msx, x_nilCheck, newK, genOf, setK, lookK, fillA, writeL, writeC, readC, conts, TyI.mk1, sliceA, boundsA, boundsB, fitsA, numA, indexAddrA, fieldAddrA, partA, fieldA, indexA, appendA, copyA, builtinA, AV.cells, AV.scal, chunk, gcH, reach, keysT, keepK, inKs, AV.keys, AV.keysL, Ty.isAgg, eq1, eqL, convA.go, ltI, w_u8, w_u32, w_u64, w_i64, w_fdiv, w_tdiv, w_tmod, IntKind.bits, unA, hX, hk, hkX, -indexAddrA, ix, e0, w1, q1, w2, q2, w3, q3, w4]
def is (l : List Int) : List AV := l.map (.int .i64)
theorem is_app (a b) : is (a ++ b) = is a ++ is b := List.map_append ..
theorem is_length (l) : (is l).length = l.length := List.length_map ..
theorem is_pure : ∀ l, AV.pureL (is l) = true
  | [] => rfl
  | x :: l => by have := is_pure l; simpa [is, AV.pureL, AV.pure] using this
theorem is_keys : ∀ l, AV.keysL (is l) = []
  | [] => rfl
  | x :: l => by have := is_keys l; simpa [is, AV.keysL, AV.keys] using this
theorem is_scal : ∀ l, (is l).all AV.scal = true
  | [] => rfl
  | x :: l => by have := is_scal l; simp [is, AV.scal]
def b8 (x : Int) : List Int := [x / 128 % 2, x / 64 % 2, x / 32 % 2, x / 16 % 2, x / 8 % 2, x / 4 % 2, x / 2 % 2, x / 1 % 2]
theorem aLoop_succ {f : St → Option (AExit × St)} {cl : St → St} {k : Nat} {s s' : St} (h : f (cl s) = some (.normal, s')) : aLoop f cl (k + 1) s = aLoop f cl k s' := by simp only [aLoop, h]
theorem aLoop_end {f : St → Option (AExit × St)} {cl : St → St} {k : Nat} {s s' : St} {e} (h : f (cl s) = some (e, s')) (he : e ≠ .normal) : aLoop f cl (k + 1) s = some (e, s') := by
  simp only [aLoop, h]
  cases e <;> first | rfl | exact absurd rfl he
theorem roundI (call sc) (k1 : Nat) (XS : List AV) (f : Bool) (c : Option Nat) (i k k' x : Int) (m : Nat) (l : List Int) (hX : AV.pureL XS = true) (hkX : AV.keysL XS = []) (hn : l.length < 1000000) (hk : 0 < k) (hk2 : k < 256) (hx : 0 ≤ x ∧ x < 256) (e : k / 2 = k')
    (ix : ∀ h, indexAddrA E 22 (.sl f XS c) (.int .i64 i) h = some (.pel [.int .u8 x])) :
    aCode E call sc k1 1 fn45 bodyI (cleanS 1 ((firstReg bodyI).bind fn45.head) (S f XS c i k m l.length (is l))) = some (.normal, S f XS c i k' (m + 1) (l ++ [x / k % 2]).length (is (l ++ [x / k % 2]))) := by
  subst e
  rw [is_app, List.length_append]
  exact round call sc k1 XS f c i k x m l.length (is l) hX (is_length l) (is_scal l) (is_pure l) (is_keys l) hkX hn hk hk2 hx ix
theorem eight (call sc) (k1 : Nat) (XS : List AV) (f : Bool) (c : Option Nat) (i x : Int) (m : Nat) (l : List Int) (q : Nat) (hX : AV.pureL XS = true) (hkX : AV.keysL XS = []) (hn : l.length < 900000) (hx : 0 ≤ x ∧ x < 256)
    (ix : ∀ h, indexAddrA E 22 (.sl f XS c) (.int .i64 i) h = some (.pel [.int .u8 x])) :
    aLoop (aCode E call sc k1 1 fn45 bodyI) (cleanS 1 ((firstReg bodyI).bind fn45.head)) (q + 9) (S f XS c i 128 m l.length (is l)) = some (.exit 2, ⟨[(0, .sl f XS c), (3, .ref (1, 26, m + 8) 0 (l ++ b8 x).length none), (4, .int .i64 i), (5, .int .i64 0), (13, .bool false)], [((1, 26, m + 8), ⟨is (l ++ b8 x), true, true, false, 1, false⟩)]⟩) := by
  rw [show q + 9 = (q + 8) + 1 from rfl, aLoop_succ (roundI call sc k1 XS f c i 128 64 x _ _ hX hkX (by first | omega | (simp; omega)) (by decide) (by decide) hx rfl ix)]
  rw [show q + 8 = (q + 7) + 1 from rfl, aLoop_succ (roundI call sc k1 XS f c i 64 32 x _ _ hX hkX (by first | omega | (simp; omega)) (by decide) (by decide) hx rfl ix)]
  rw [show q + 7 = (q + 6) + 1 from rfl, aLoop_succ (roundI call sc k1 XS f c i 32 16 x _ _ hX hkX (by first | omega | (simp; omega)) (by decide) (by decide) hx rfl ix)]
  rw [show q + 6 = (q + 5) + 1 from rfl, aLoop_succ (roundI call sc k1 XS f c i 16 8 x _ _ hX hkX (by first | omega | (simp; omega)) (by decide) (by decide) hx rfl ix)]
  rw [show q + 5 = (q + 4) + 1 from rfl, aLoop_succ (roundI call sc k1 XS f c i 8 4 x _ _ hX hkX (by first | omega | (simp; omega)) (by decide) (by decide) hx rfl ix)]
  rw [show q + 4 = (q + 3) + 1 from rfl, aLoop_succ (roundI call sc k1 XS f c i 4 2 x _ _ hX hkX (by first | omega | (simp; omega)) (by decide) (by decide) hx rfl ix)]
  rw [show q + 3 = (q + 2) + 1 from rfl, aLoop_succ (roundI call sc k1 XS f c i 2 1 x _ _ hX hkX (by first | omega | (simp; omega)) (by decide) (by decide) hx rfl ix)]
  rw [show q + 2 = (q + 1) + 1 from rfl, aLoop_succ (roundI call sc k1 XS f c i 1 0 x _ _ hX hkX (by first | omega | (simp; omega)) (by decide) (by decide) hx rfl ix)]
  rw [aLoop_end (stop call sc k1 XS f c i _ _ _ hX (is_keys _) hkX) (by simp)]
  simp [b8]
theorem eight0 (call sc) (k1 : Nat) (XS : List AV) (f : Bool) (c : Option Nat) (i x : Int) (q : Nat) (hX : AV.pureL XS = true) (hkX : AV.keysL XS = []) (hx : 0 ≤ x ∧ x < 256)
    (ix : ∀ h, indexAddrA E 22 (.sl f XS c) (.int .i64 i) h = some (.pel [.int .u8 x])) :
    aLoop (aCode E call sc k1 1 fn45 bodyI) (cleanS 1 ((firstReg bodyI).bind fn45.head)) (q + 9) ⟨[(0, .sl f XS c), (3, .sl true [] (some 0)), (4, .int .i64 i), (5, .int .i64 128)], []⟩ = some (.exit 2, ⟨[(0, .sl f XS c), (3, .ref (1, 26, 7) 0 (b8 x).length none), (4, .int .i64 i), (5, .int .i64 0), (13, .bool false)], [((1, 26, 7), ⟨is (b8 x), true, true, false, 1, false⟩)]⟩) := by
  have r0 : aCode E call sc k1 1 fn45 bodyI (cleanS 1 ((firstReg bodyI).bind fn45.head) ⟨[(0, .sl f XS c), (3, .sl true [] (some 0)), (4, .int .i64 i), (5, .int .i64 128)], []⟩) = some (.normal, S f XS c i 64 0 [x / 128 % 2].length (is [x / 128 % 2])) := round0 call sc k1 XS f c i 128 x hX hkX (by decide) (by decide) hx ix
  rw [show q + 9 = (q + 8) + 1 from rfl, aLoop_succ r0]
  rw [show q + 8 = (q + 7) + 1 from rfl, aLoop_succ (roundI call sc k1 XS f c i 64 32 x _ _ hX hkX (by simp) (by decide) (by decide) hx rfl ix)]
  rw [show q + 7 = (q + 6) + 1 from rfl, aLoop_succ (roundI call sc k1 XS f c i 32 16 x _ _ hX hkX (by simp) (by decide) (by decide) hx rfl ix)]
  rw [show q + 6 = (q + 5) + 1 from rfl, aLoop_succ (roundI call sc k1 XS f c i 16 8 x _ _ hX hkX (by simp) (by decide) (by decide) hx rfl ix)]
  rw [show q + 5 = (q + 4) + 1 from rfl, aLoop_succ (roundI call sc k1 XS f c i 8 4 x _ _ hX hkX (by simp) (by decide) (by decide) hx rfl ix)]
  rw [show q + 4 = (q + 3) + 1 from rfl, aLoop_succ (roundI call sc k1 XS f c i 4 2 x _ _ hX hkX (by simp) (by decide) (by decide) hx rfl ix)]
  rw [show q + 3 = (q + 2) + 1 from rfl, aLoop_succ (roundI call sc k1 XS f c i 2 1 x _ _ hX hkX (by simp) (by decide) (by decide) hx rfl ix)]
  rw [show q + 2 = (q + 1) + 1 from rfl, aLoop_succ (roundI call sc k1 XS f c i 1 0 x _ _ hX hkX (by simp) (by decide) (by decide) hx rfl ix)]
  rw [aLoop_end (stop call sc k1 XS f c i _ _ _ hX (is_keys _) hkX) (by simp)]
  simp [b8]
end T1
