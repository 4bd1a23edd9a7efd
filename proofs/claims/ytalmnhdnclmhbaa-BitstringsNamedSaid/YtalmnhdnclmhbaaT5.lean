/- The octets of bits, by the reference, at the evaluator: the loops. No conditions. -/
import Derived.Test.YtalmnhdnclmhbaaT4
open Ab Go TabB T1 T2 T3 T4
set_option maxRecDepth 20000
set_option linter.unusedSimpArgs false
set_option linter.unusedVariables false
set_option maxHeartbeats 8000000
namespace T5
def bit (l : List Int) (j : Nat) : Int := (l[j]?).getD 0
def val (l : List Int) (p : Nat) : Nat → Int
  | 0 => 0
  | k + 1 => 2 * val l p k + bit l (p + k)
theorem bit_01 {l : List Int} (hb : isBit l) (j : Nat) : bit l j = 0 ∨ bit l j = 1 := by
  unfold bit
  cases h : l[j]? with
  | none => exact .inl rfl
  | some x => exact hb x (List.mem_of_getElem? h)
theorem val_lt {l : List Int} (hb : isBit l) (p : Nat) : ∀ k, 0 ≤ val l p k ∧ val l p k < 2 ^ k
  | 0 => by simp [val]
  | k + 1 => by
    have h := val_lt hb p k
    have b := bit_01 hb (p + k)
    simp only [val]
    rw [Int.pow_succ]
    omega
theorem val_256 {l : List Int} (hb : isBit l) (p k : Nat) (h : k ≤ 8) : 0 ≤ val l p k ∧ val l p k < 256 := by
  have a := val_lt hb p k
  have hk : k = 0 ∨ k = 1 ∨ k = 2 ∨ k = 3 ∨ k = 4 ∨ k = 5 ∨ k = 6 ∨ k = 7 ∨ k = 8 := by omega
  rcases hk with rfl | rfl | rfl | rfl | rfl | rfl | rfl | rfl | rfl <;> (simp only [Int.reducePow] at a; omega)
theorem stepA (call sc) (k1 : Nat) (l : List Int) (hb : isBit l) (f : Bool) (c : Option Nat) (p k : Nat) (h1 : p < 1000000) (k8 : k < 8) :
    aCode E call sc k1 1 fn24 bI24 (cleanS 1 ((firstReg bI24).bind fn24.head) ⟨[(0, .sl f (is l) c), (3, .sl true [] (some 0)), (4, .int .i64 (p : Int)), (5, .int .i64 (val l p k)), (6, .int .i64 ((k : Int)))], []⟩) = some (.normal, ⟨[(0, .sl f (is l) c), (3, .sl true [] (some 0)), (4, .int .i64 (p : Int)), (5, .int .i64 (val l p (k + 1))), (6, .int .i64 (((k + 1 : Nat) : Int)))], []⟩) := by
  have v := val_256 hb p k (by omega)
  by_cases hi : p + k < l.length
  · obtain ⟨x, e⟩ : ∃ x, l[p + k]? = some x := ⟨l[p + k], by simp [hi]⟩
    have hx := hb x (List.mem_of_getElem? e)
    have ix := atI f c l (p + k) x e
    have r := inA call sc k1 l f c (p : Int) (k : Int) (val l p k) (by omega) (by omega) (by omega) (by omega) v.1 v.2 x hx (by omega) (by intro h; have := ix h; rwa [Int.natCast_add] at this)
    have bx : bit l (p + k) = x := by unfold bit; rw [e]; rfl
    simp only [val, bx]
    rw [show ((k + 1 : Nat) : Int) = (k : Int) + 1 by omega]
    exact r
  · have r := outA call sc k1 l f c (p : Int) (k : Int) (val l p k) (by omega) (by omega) (by omega) (by omega) v.1 v.2 (by omega)
    have bx : bit l (p + k) = 0 := by unfold bit; rw [List.getElem?_eq_none (by omega)]; rfl
    simp only [val, bx, Int.add_zero]
    rw [show ((k + 1 : Nat) : Int) = (k : Int) + 1 by omega]
    exact r
theorem stopA (call sc) (k1 : Nat) (l : List Int) (f : Bool) (c : Option Nat) (p : Nat) (v : Int) :
    aCode E call sc k1 1 fn24 bI24 (cleanS 1 ((firstReg bI24).bind fn24.head) ⟨[(0, .sl f (is l) c), (3, .sl true [] (some 0)), (4, .int .i64 (p : Int)), (5, .int .i64 (v)), (6, .int .i64 (8))], []⟩) = some (.exit 2, ⟨[(0, .sl f (is l) c), (3, .sl true [] (some 0)), (4, .int .i64 (p : Int)), (5, .int .i64 (v)), (6, .int .i64 (8)), (14, .bool false)], []⟩) := by
  have q := is_pure l
  have kk := is_keys l
  simp [bI24, bO24, c24, ↓s_seq, ↓s_reg, ↓s_regd, ↓s_cond, ↓s_block, ↓s_cons, ↓s_consG, s_nil, s_loop, s_round, s_lpn, s_lpe, s_lpr, firstReg, s_gt, s_gf, s_wb, s_wu, s_val, s_valN, s_skip, s_calls, s_callP, s_cax, lookR, flatR, pureKs, s_ret, s_rgx, s_sqn, s_sqr, s_sqe, s_cdb, s_bkn, s_bkr, s_bke, s_exit, s_ret', s_skip', s_finr, s_finn, s_fin1, s_fix, s_clean, s_gc0, o_tmp, o_int, o_bool, o_nil, o_str, o_fn, o_nil', l_hit, l_miss, l_nil, ol_nil, ol_cons, ol_some, x_move, x_assign, x_pick, pk_t, pk_f, x_bin, bn_s, x_un, x_extract, x_callF, cl_no, x_callB, x_conv, cvx, convA, frame0, binA, intOp, resL, resA, results1, sealA, sealLW, AV.pure, AV.pureL, keepT, x_alloc, x_box, bxx, x_build, bdx, x_buildSlice, bsx, x_buildSliceF, bsf, x_load, ldx, x_store, stx, x_slice, slx, x_fieldAddr, x_field, x_index, ixx, x_indexAddr, iax, x_makeSlice, msx, x_nilCheck, newK, genOf, setK, lookK, fillA, writeL, writeC, readC, conts, TyI.mk1, sliceA, boundsA, boundsB, fitsA, numA, indexAddrA, fieldAddrA, partA, fieldA, indexA, appendA, copyA, builtinA, AV.cells, AV.scal, chunk, gcH, reach, keysT, keepK, inKs, AV.keys, AV.keysL, Ty.isAgg, eq1, eqL, convA.go, ltI, w_u8, w_u32, w_u64, w_i64, w_fdiv, w_tdiv, w_tmod, IntKind.bits, unA, q, kk]
theorem eightA (call sc) (q : Nat) (l : List Int) (hb : isBit l) (f : Bool) (c : Option Nat) (p : Nat) (h1 : p < 1000000) :
    aLoop (aCode E call sc (q + 9) 1 fn24 bI24) (cleanS 1 ((firstReg bI24).bind fn24.head)) (q + 9) ⟨[(0, .sl f (is l) c), (3, .sl true [] (some 0)), (4, .int .i64 (p : Int)), (5, .int .i64 (0)), (6, .int .i64 (0))], []⟩ = some (.exit 2, ⟨[(0, .sl f (is l) c), (3, .sl true [] (some 0)), (4, .int .i64 (p : Int)), (5, .int .i64 (val l p 8)), (6, .int .i64 (8)), (14, .bool false)], []⟩) := by
  refine loopR (fun k => ⟨[(0, .sl f (is l) c), (3, .sl true [] (some 0)), (4, .int .i64 (p : Int)), (5, .int .i64 (val l p k)), (6, .int .i64 ((k : Int)))], []⟩) 8 rfl (fun k hk => stepA call sc (q + 9) l hb f c p k h1 hk) (stopA call sc (q + 9) l f c p _) (by simp) (by omega)
theorem stepB (call sc) (k1 : Nat) (l : List Int) (hb : isBit l) (f : Bool) (c : Option Nat) (p k : Nat) (m n : Nat) (ys : List AV) (hky : AV.keysL ys = []) (h1 : p < 1000000) (k8 : k < 8) :
    aCode E call sc k1 1 fn24 bI24 (cleanS 1 ((firstReg bI24).bind fn24.head) ⟨[(0, .sl f (is l) c), (3, .ref (1, 37, m) 0 n none), (4, .int .i64 (p : Int)), (5, .int .i64 (val l p k)), (6, .int .i64 ((k : Int)))], [((1, 37, m), ⟨ys, true, true, false, 1, false⟩)]⟩) = some (.normal, ⟨[(0, .sl f (is l) c), (3, .ref (1, 37, m) 0 n none), (4, .int .i64 (p : Int)), (5, .int .i64 (val l p (k + 1))), (6, .int .i64 (((k + 1 : Nat) : Int)))], [((1, 37, m), ⟨ys, true, true, false, 1, false⟩)]⟩) := by
  have v := val_256 hb p k (by omega)
  by_cases hi : p + k < l.length
  · obtain ⟨x, e⟩ : ∃ x, l[p + k]? = some x := ⟨l[p + k], by simp [hi]⟩
    have hx := hb x (List.mem_of_getElem? e)
    have ix := atI f c l (p + k) x e
    have r := inB call sc k1 l f c (p : Int) (k : Int) (val l p k) m n ys hky (by omega) (by omega) (by omega) (by omega) v.1 v.2 x hx (by omega) (by intro h; have := ix h; rwa [Int.natCast_add] at this)
    have bx : bit l (p + k) = x := by unfold bit; rw [e]; rfl
    simp only [val, bx]
    rw [show ((k + 1 : Nat) : Int) = (k : Int) + 1 by omega]
    exact r
  · have r := outB call sc k1 l f c (p : Int) (k : Int) (val l p k) m n ys hky (by omega) (by omega) (by omega) (by omega) v.1 v.2 (by omega)
    have bx : bit l (p + k) = 0 := by unfold bit; rw [List.getElem?_eq_none (by omega)]; rfl
    simp only [val, bx, Int.add_zero]
    rw [show ((k + 1 : Nat) : Int) = (k : Int) + 1 by omega]
    exact r
theorem stopB (call sc) (k1 : Nat) (l : List Int) (f : Bool) (c : Option Nat) (p : Nat) (v : Int) (m n : Nat) (ys : List AV) (hky : AV.keysL ys = []) :
    aCode E call sc k1 1 fn24 bI24 (cleanS 1 ((firstReg bI24).bind fn24.head) ⟨[(0, .sl f (is l) c), (3, .ref (1, 37, m) 0 n none), (4, .int .i64 (p : Int)), (5, .int .i64 (v)), (6, .int .i64 (8))], [((1, 37, m), ⟨ys, true, true, false, 1, false⟩)]⟩) = some (.exit 2, ⟨[(0, .sl f (is l) c), (3, .ref (1, 37, m) 0 n none), (4, .int .i64 (p : Int)), (5, .int .i64 (v)), (6, .int .i64 (8)), (14, .bool false)], [((1, 37, m), ⟨ys, true, true, false, 1, false⟩)]⟩) := by
  have q := is_pure l
  have kk := is_keys l
  simp [bI24, bO24, c24, ↓s_seq, ↓s_reg, ↓s_regd, ↓s_cond, ↓s_block, ↓s_cons, ↓s_consG, s_nil, s_loop, s_round, s_lpn, s_lpe, s_lpr, firstReg, s_gt, s_gf, s_wb, s_wu, s_val, s_valN, s_skip, s_calls, s_callP, s_cax, lookR, flatR, pureKs, s_ret, s_rgx, s_sqn, s_sqr, s_sqe, s_cdb, s_bkn, s_bkr, s_bke, s_exit, s_ret', s_skip', s_finr, s_finn, s_fin1, s_fix, s_clean, s_gc0, o_tmp, o_int, o_bool, o_nil, o_str, o_fn, o_nil', l_hit, l_miss, l_nil, ol_nil, ol_cons, ol_some, x_move, x_assign, x_pick, pk_t, pk_f, x_bin, bn_s, x_un, x_extract, x_callF, cl_no, x_callB, x_conv, cvx, convA, frame0, binA, intOp, resL, resA, results1, sealA, sealLW, AV.pure, AV.pureL, keepT, x_alloc, x_box, bxx, x_build, bdx, x_buildSlice, bsx, x_buildSliceF, bsf, x_load, ldx, x_store, stx, x_slice, slx, x_fieldAddr, x_field, x_index, ixx, x_indexAddr, iax, x_makeSlice, msx, x_nilCheck, newK, genOf, setK, lookK, fillA, writeL, writeC, readC, conts, TyI.mk1, sliceA, boundsA, boundsB, fitsA, numA, indexAddrA, fieldAddrA, partA, fieldA, indexA, appendA, copyA, builtinA, AV.cells, AV.scal, chunk, gcH, reach, keysT, keepK, inKs, AV.keys, AV.keysL, Ty.isAgg, eq1, eqL, convA.go, ltI, w_u8, w_u32, w_u64, w_i64, w_fdiv, w_tdiv, w_tmod, IntKind.bits, unA, q, kk, hky]
theorem eightB (call sc) (q : Nat) (l : List Int) (hb : isBit l) (f : Bool) (c : Option Nat) (p : Nat) (m n : Nat) (ys : List AV) (hky : AV.keysL ys = []) (h1 : p < 1000000) :
    aLoop (aCode E call sc (q + 9) 1 fn24 bI24) (cleanS 1 ((firstReg bI24).bind fn24.head)) (q + 9) ⟨[(0, .sl f (is l) c), (3, .ref (1, 37, m) 0 n none), (4, .int .i64 (p : Int)), (5, .int .i64 (0)), (6, .int .i64 (0))], [((1, 37, m), ⟨ys, true, true, false, 1, false⟩)]⟩ = some (.exit 2, ⟨[(0, .sl f (is l) c), (3, .ref (1, 37, m) 0 n none), (4, .int .i64 (p : Int)), (5, .int .i64 (val l p 8)), (6, .int .i64 (8)), (14, .bool false)], [((1, 37, m), ⟨ys, true, true, false, 1, false⟩)]⟩) := by
  refine loopR (fun k => ⟨[(0, .sl f (is l) c), (3, .ref (1, 37, m) 0 n none), (4, .int .i64 (p : Int)), (5, .int .i64 (val l p k)), (6, .int .i64 ((k : Int)))], [((1, 37, m), ⟨ys, true, true, false, 1, false⟩)]⟩) 8 rfl (fun k hk => stepB call sc (q + 9) l hb f c p k m n ys hky h1 hk) (stopB call sc (q + 9) l f c p _ m n ys hky) (by simp) (by omega)
abbrev O (f : Bool) (l : List Int) (c : Option Nat) (p m n : Nat) (ys : List AV) : St := ⟨[(0, .sl f (is l) c), (3, .ref (1, 37, m) 0 n none), (4, .int .i64 (p : Int))], [((1, 37, m), ⟨ys, true, true, false, 1, false⟩)]⟩
theorem outer (call sc) (q : Nat) (l : List Int) (hb : isBit l) (f : Bool) (c : Option Nat) (p m : Nat) (ys : List Int) (h1 : p < 900000) (hi : (p : Int) < (l.length : Int)) (hn : ys.length < 900000) :
    aCode E call sc (q + 9) 1 fn24 bO24 (cleanS 1 ((firstReg bO24).bind fn24.head) (O f l c p m ys.length (bs ys))) = some (.normal, O f l c (p + 8) (m + 1) (ys ++ [val l p 8]).length (bs (ys ++ [val l p 8]))) := by
  have e8 := eightB call sc q l hb f c p m ys.length (bs ys) (bs_keys ys) (by omega)
  simp [bI24, bO24, c24, firstReg] at e8
  have v := val_256 hb p 8 (by omega)
  have w := w64 ((p : Int) + 8) (by omega) (by omega)
  have w8 : val l p 8 % 256 = val l p 8 := Int.emod_eq_of_lt v.1 v.2
  have a1 : bs (ys ++ [val l p 8]) = bs ys ++ [.int .u8 (val l p 8)] := by simp [bs]
  have a2 : AV.keysL (bs ys ++ [.int .u8 (val l p 8)]) = [] := by rw [← a1]; exact bs_keys _
  have a3 := bs_keys ys
  have cp : ys.length + 1 ≤ 70368744177664 := by omega
  have q1 := is_pure l
  have kk := is_keys l
  have ln := is_length l
  have pp := bs_pure ys
  simp [bO24, c24, ↓s_seq, ↓s_reg, ↓s_regd, ↓s_cond, ↓s_block, ↓s_cons, ↓s_consG, s_nil, s_loop, s_round, s_lpn, s_lpe, s_lpr, firstReg, s_gt, s_gf, s_wb, s_wu, s_val, s_valN, s_skip, s_calls, s_callP, s_cax, lookR, flatR, pureKs, s_ret, s_rgx, s_sqn, s_sqr, s_sqe, s_cdb, s_bkn, s_bkr, s_bke, s_exit, s_ret', s_skip', s_finr, s_finn, s_fin1, s_fix, s_clean, s_gc0, o_tmp, o_int, o_bool, o_nil, o_str, o_fn, o_nil', l_hit, l_miss, l_nil, ol_nil, ol_cons, ol_some, x_move, x_assign, x_pick, pk_t, pk_f, x_bin, bn_s, x_un, x_extract, x_callF, cl_no, x_callB, x_conv, cvx, convA, frame0, binA, intOp, resL, resA, results1, sealA, sealLW, AV.pure, AV.pureL, keepT, x_alloc, x_box, bxx, x_build, bdx, x_buildSlice, bsx, x_buildSliceF, bsf, x_load, ldx, x_store, stx, x_slice, slx, x_fieldAddr, x_field, x_index, ixx, x_indexAddr, iax, x_makeSlice, msx, x_nilCheck, newK, genOf, setK, lookK, fillA, writeL, writeC, readC, conts, TyI.mk1, sliceA, boundsA, boundsB, fitsA, numA, indexAddrA, fieldAddrA, partA, fieldA, indexA, appendA, copyA, builtinA, AV.cells, AV.scal, chunk, gcH, reach, keysT, keepK, inKs, AV.keys, AV.keysL, Ty.isAgg, eq1, eqL, convA.go, ltI, w_u8, w_u32, w_u64, w_i64, w_fdiv, w_tdiv, w_tmod, IntKind.bits, unA, q1, kk, ln, hi, e8, w, w8, a1, a2, a3, cp, pp, bs_length, -s_round]
theorem outer0 (call sc) (q : Nat) (l : List Int) (hb : isBit l) (f : Bool) (c : Option Nat) (hi : (0 : Int) < (l.length : Int)) :
    aCode E call sc (q + 9) 1 fn24 bO24 (cleanS 1 ((firstReg bO24).bind fn24.head) ⟨[(0, .sl f (is l) c), (3, .sl true [] (some 0)), (4, .int .i64 0)], []⟩) = some (.normal, O f l c 8 0 1 (bs [val l 0 8])) := by
  have e8 := eightA call sc q l hb f c 0 (by omega)
  simp [bI24, bO24, c24, firstReg] at e8
  have v := val_256 hb 0 8 (by omega)
  have w8 : val l 0 8 % 256 = val l 0 8 := Int.emod_eq_of_lt v.1 v.2
  have a1 : bs [val l 0 8] = [.int .u8 (val l 0 8)] := rfl
  have q1 := is_pure l
  have kk := is_keys l
  have ln := is_length l
  have hi2 : 0 < l.length := by omega
  have hi3 : l ≠ [] := by intro e; subst e; simp at hi2
  simp [bO24, c24, ↓s_seq, ↓s_reg, ↓s_regd, ↓s_cond, ↓s_block, ↓s_cons, ↓s_consG, s_nil, s_loop, s_round, s_lpn, s_lpe, s_lpr, firstReg, s_gt, s_gf, s_wb, s_wu, s_val, s_valN, s_skip, s_calls, s_callP, s_cax, lookR, flatR, pureKs, s_ret, s_rgx, s_sqn, s_sqr, s_sqe, s_cdb, s_bkn, s_bkr, s_bke, s_exit, s_ret', s_skip', s_finr, s_finn, s_fin1, s_fix, s_clean, s_gc0, o_tmp, o_int, o_bool, o_nil, o_str, o_fn, o_nil', l_hit, l_miss, l_nil, ol_nil, ol_cons, ol_some, x_move, x_assign, x_pick, pk_t, pk_f, x_bin, bn_s, x_un, x_extract, x_callF, cl_no, x_callB, x_conv, cvx, convA, frame0, binA, intOp, resL, resA, results1, sealA, sealLW, AV.pure, AV.pureL, keepT, x_alloc, x_box, bxx, x_build, bdx, x_buildSlice, bsx, x_buildSliceF, bsf, x_load, ldx, x_store, stx, x_slice, slx, x_fieldAddr, x_field, x_index, ixx, x_indexAddr, iax, x_makeSlice, msx, x_nilCheck, newK, genOf, setK, lookK, fillA, writeL, writeC, readC, conts, TyI.mk1, sliceA, boundsA, boundsB, fitsA, numA, indexAddrA, fieldAddrA, partA, fieldA, indexA, appendA, copyA, builtinA, AV.cells, AV.scal, chunk, gcH, reach, keysT, keepK, inKs, AV.keys, AV.keysL, Ty.isAgg, eq1, eqL, convA.go, ltI, w_u8, w_u32, w_u64, w_i64, w_fdiv, w_tdiv, w_tmod, IntKind.bits, unA, q1, kk, ln, hi, hi2, hi3, e8, w8, a1, -s_round]
theorem last (call sc) (k1 : Nat) (l : List Int) (f : Bool) (c : Option Nat) (p m n : Nat) (ys : List Int) (hi : ¬ (p : Int) < (l.length : Int)) :
    aCode E call sc k1 1 fn24 bO24 (cleanS 1 ((firstReg bO24).bind fn24.head) (O f l c p m n (bs ys))) = some (.exit 0, ⟨[(0, .sl f (is l) c), (3, .ref (1, 37, m) 0 n none), (4, .int .i64 (p : Int)), (10, .bool false)], [((1, 37, m), ⟨bs ys, true, true, false, 1, false⟩)]⟩) := by
  have a3 := bs_keys ys
  have q1 := is_pure l
  have kk := is_keys l
  have ln := is_length l
  simp [bO24, c24, ↓s_seq, ↓s_reg, ↓s_regd, ↓s_cond, ↓s_block, ↓s_cons, ↓s_consG, s_nil, s_loop, s_round, s_lpn, s_lpe, s_lpr, firstReg, s_gt, s_gf, s_wb, s_wu, s_val, s_valN, s_skip, s_calls, s_callP, s_cax, lookR, flatR, pureKs, s_ret, s_rgx, s_sqn, s_sqr, s_sqe, s_cdb, s_bkn, s_bkr, s_bke, s_exit, s_ret', s_skip', s_finr, s_finn, s_fin1, s_fix, s_clean, s_gc0, o_tmp, o_int, o_bool, o_nil, o_str, o_fn, o_nil', l_hit, l_miss, l_nil, ol_nil, ol_cons, ol_some, x_move, x_assign, x_pick, pk_t, pk_f, x_bin, bn_s, x_un, x_extract, x_callF, cl_no, x_callB, x_conv, cvx, convA, frame0, binA, intOp, resL, resA, results1, sealA, sealLW, AV.pure, AV.pureL, keepT, x_alloc, x_box, bxx, x_build, bdx, x_buildSlice, bsx, x_buildSliceF, bsf, x_load, ldx, x_store, stx, x_slice, slx, x_fieldAddr, x_field, x_index, ixx, x_indexAddr, iax, x_makeSlice, msx, x_nilCheck, newK, genOf, setK, lookK, fillA, writeL, writeC, readC, conts, TyI.mk1, sliceA, boundsA, boundsB, fitsA, numA, indexAddrA, fieldAddrA, partA, fieldA, indexA, appendA, copyA, builtinA, AV.cells, AV.scal, chunk, gcH, reach, keysT, keepK, inKs, AV.keys, AV.keysL, Ty.isAgg, eq1, eqL, convA.go, ltI, w_u8, w_u32, w_u64, w_i64, w_fdiv, w_tdiv, w_tmod, IntKind.bits, unA, q1, kk, ln, hi, a3, -s_round]
end T5
