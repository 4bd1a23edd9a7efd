/- elements.walk and measure at the evaluator: what they answer. No conditions. -/
import Derived.Test.YtbiildmljbcmeaaE3
open Ab Go TabE Sp E2 E3
set_option maxRecDepth 20000
set_option linter.unusedSimpArgs false
set_option linter.unusedVariables false
set_option maxHeartbeats 8000000
namespace E4
theorem bad (q k1 : Nat) (d : Int) (f s c) (i : Nat) (m l r m' l' : Int) (x : El) (hx : s[i]? = some x) (ls : s.length ≤ 9223372036854775807) (d0 : 0 ≤ d) (d1 : d < 1000) (hr : r ≠ 0)
    (R : ∀ own slot, opened [false, false, true, true] true (aRun E q) slot 113 [.agg (ec x), .int .i64 (d + 1), .ptr (0, 0, 0) 0, .ptr (0, 0, 1) 0] (H m l ++ own) = some (.ret (.int .i64 r), H m' l' ++ own)) :
    rndO fn113 b113 q k1 (S d f s c i m l) = some (.ret, ⟨[(6, .int .i64 r)], H m' l'⟩) := by
  have hi : i < s.length := (List.getElem?_eq_some_iff.1 hx).1
  have ix := El.at_ f c s i x hx
  have w2 := w64' (d + 1) (by omega) (by omega)
  have R' := R [((1, 9, 0), bx (ec x))] 29
  simp [H] at R'
  simp [b113, lp, lps, c113, ↓s_seq, ↓s_reg, ↓s_regd, ↓s_cond, ↓s_block, ↓s_cons, ↓s_consG, s_nil, s_loop, s_round, s_lpn, s_lpe, s_lpr, firstReg, s_gt, s_gf, s_wb, s_wu, s_val, s_valN, s_skip, s_calls, s_callP, s_cax, lookR, flatR, pureKs, s_ret, s_rgx, s_sqn, s_sqr, s_sqe, s_cdb, s_bkn, s_bkr, s_bke, s_exit, s_ret', s_skip', s_finr, s_finn, s_fin1, s_fix, s_clean, s_gc0, o_tmp, o_int, o_bool, o_nil, o_str, o_fn, o_nil', l_hit, l_miss, l_nil, ol_nil, ol_cons, ol_some, x_move, x_assign, x_pick, pk_t, pk_f, x_bin, bn_s, x_un, x_extract, x_callF, cl_no, x_callB, x_callBF, frzV, x_conv, cvx, convA, frame0, binA, intOp, resL, resA, results1, sealLW, AV.pure, AV.pureL, keepT, x_alloc, x_box, bxx, x_build, bdx, x_buildSlice, bsx, x_buildSliceF, bsf, x_load, ldx, x_store, stx, x_slice, slx, x_fieldAddr, x_field, x_index, ixx, x_indexAddr, iax, x_makeSlice, msx, x_nilCheck, newK, genOf, setK, lookK, fillA, writeL, writeC, readC, conts, TyI.mk1, sliceA, boundsA, boundsB, fitsA, numA, indexAddrA, fieldAddrA, partA, fieldA, indexA, appendA, copyA, builtinA, AV.cells, chunk, gcH, reach, keysT, keepK, inKs, AV.keys, AV.keysL, Ty.isAgg, eq1, eqL, convA.go, ltI, w_u8, w_u32, w_u64, w_i64, w_fdiv, w_tdiv, w_tmod, IntKind.bits, unA, sc_int, sc_bool, sc_str, sc_sl, sc_ref, sc_ptr, sc_pel, sc_nilp, sc_fn, sc_nilf, sc_if, sc_nili, sc_agg, sc_tup, sc_mem, bs_pure, bs_kl, bs_length, bs_cells, bs_all, sl_row, sealRow, sealY, sl_int, sl_bool, sl_str, sl_sl, sl_nilp, sl_nilf, sl_nili, sl_pel, sl_agg, sl_tup, sl_fn, sl_if, nat_1, bs_cons, bs_nil, i_beq, i_bne, x_mkF, x_mkI, x_tassert, x_panic, s_pan, s_sqp, s_bkp, s_finp, s_fixp, s_lpp, s_rgp, s_retp, s_site, s_stxN, s_stxO, x_callT, clx, -indexAddrA, ix, w2, hi, R', hr]
theorem last (q k1 : Nat) (d : Int) (f s c) (m l : Int) :
    rndO fn113 b113 q k1 (S d f s c s.length m l) = some (.exit 0, ⟨[(1, .int .i64 d), (3, .ptr (0, 0, 1) 0), (19, .sl f (El.avs s) c), (20, .int .i64 (s.length : Int)), (21, .int .i64 (s.length : Int)), (22, .bool false)], H m l⟩) := by
  simp [b113, lp, lps, c113, ↓s_seq, ↓s_reg, ↓s_regd, ↓s_cond, ↓s_block, ↓s_cons, ↓s_consG, s_nil, s_loop, s_round, s_lpn, s_lpe, s_lpr, firstReg, s_gt, s_gf, s_wb, s_wu, s_val, s_valN, s_skip, s_calls, s_callP, s_cax, lookR, flatR, pureKs, s_ret, s_rgx, s_sqn, s_sqr, s_sqe, s_cdb, s_bkn, s_bkr, s_bke, s_exit, s_ret', s_skip', s_finr, s_finn, s_fin1, s_fix, s_clean, s_gc0, o_tmp, o_int, o_bool, o_nil, o_str, o_fn, o_nil', l_hit, l_miss, l_nil, ol_nil, ol_cons, ol_some, x_move, x_assign, x_pick, pk_t, pk_f, x_bin, bn_s, x_un, x_extract, x_callF, cl_no, x_callB, x_callBF, frzV, x_conv, cvx, convA, frame0, binA, intOp, resL, resA, results1, sealLW, AV.pure, AV.pureL, keepT, x_alloc, x_box, bxx, x_build, bdx, x_buildSlice, bsx, x_buildSliceF, bsf, x_load, ldx, x_store, stx, x_slice, slx, x_fieldAddr, x_field, x_index, ixx, x_indexAddr, iax, x_makeSlice, msx, x_nilCheck, newK, genOf, setK, lookK, fillA, writeL, writeC, readC, conts, TyI.mk1, sliceA, boundsA, boundsB, fitsA, numA, indexAddrA, fieldAddrA, partA, fieldA, indexA, appendA, copyA, builtinA, AV.cells, chunk, gcH, reach, keysT, keepK, inKs, AV.keys, AV.keysL, Ty.isAgg, eq1, eqL, convA.go, ltI, w_u8, w_u32, w_u64, w_i64, w_fdiv, w_tdiv, w_tmod, IntKind.bits, unA, sc_int, sc_bool, sc_str, sc_sl, sc_ref, sc_ptr, sc_pel, sc_nilp, sc_fn, sc_nilf, sc_if, sc_nili, sc_agg, sc_tup, sc_mem, bs_pure, bs_kl, bs_length, bs_cells, bs_all, sl_row, sealRow, sealY, sl_int, sl_bool, sl_str, sl_sl, sl_nilp, sl_nilf, sl_nili, sl_pel, sl_agg, sl_tup, sl_fn, sl_if, nat_1, bs_cons, bs_nil, i_beq, i_bne, x_mkF, x_mkI, x_tassert, x_panic, s_pan, s_sqp, s_bkp, s_finp, s_fixp, s_lpp, s_rgp, s_retp, s_site, s_stxN, s_stxO, x_callT, clx]
/-- What a loop comes to. -/
def outc (d : Int) (f : Bool) (s : List El) (c : Option Nat) (p : Int × Int × Int) : AExit × St :=
  if p.1 = 0 then (.exit 0, ⟨[(1, .int .i64 d), (3, .ptr (0, 0, 1) 0), (19, .sl f (El.avs s) c), (20, .int .i64 (s.length : Int)), (21, .int .i64 (s.length : Int)), (22, .bool false)], H p.2.1 p.2.2⟩)
  else (.ret, ⟨[(6, .int .i64 p.1)], H p.2.1 p.2.2⟩)
mutual
theorem chk_bd : ∀ (c : Cr) (d m l : Int), 0 ≤ m → m ≤ 8192 → 0 ≤ l → l ≤ 16 → 0 ≤ (chk c d m l).2.1 ∧ (chk c d m l).2.1 ≤ 8192 ∧ 0 ≤ (chk c d m l).2.2 ∧ (chk c d m l).2.2 ≤ 16
  | .mk c k n b s, d, m, l, h0, h1, h2, h3 => by
    unfold chk
    split
    · exact ⟨h0, h1, h2, h3⟩
    split
    · exact ⟨h0, h1, h2, h3⟩
    split
    · exact ⟨h0, h1, h2, h3⟩
    split
    · exact ⟨h0, h1, h2, h3⟩
    · exact chks_bd s (d + 1) (m + 1) (max l d) (by omega) (by omega) (by omega) (by omega)
theorem chks_bd : ∀ (s : List Cr) (d m l : Int), 0 ≤ m → m ≤ 8192 → 0 ≤ l → l ≤ 16 → 0 ≤ (chks s d m l).2.1 ∧ (chks s d m l).2.1 ≤ 8192 ∧ 0 ≤ (chks s d m l).2.2 ∧ (chks s d m l).2.2 ≤ 16
  | [], d, m, l, h0, h1, h2, h3 => ⟨h0, h1, h2, h3⟩
  | x :: r, d, m, l, h0, h1, h2, h3 => by
    obtain ⟨a, b, c, e⟩ := chk_bd x d m l h0 h1 h2 h3
    unfold chks
    split
    · exact ⟨a, b, c, e⟩
    · exact chks_bd r d _ _ a b c e
end
/-- The contract of a child. -/
def Walks (N : Nat) (x : El) : Prop := ∀ k, N ≤ k → ∀ d m l : Int, 0 ≤ d → d ≤ 17 → 0 ≤ m → m ≤ 8192 → 0 ≤ l → l ≤ 16 →
  aRun E k 113 [.agg (ec x), .int .i64 d, .ptr (0, 0, 0) 0, .ptr (0, 0, 1) 0] (H m l) = some (.ret (.int .i64 (chk x.core d m l).1), H (chk x.core d m l).2.1 (chk x.core d m l).2.2)
theorem loop (K : Nat) (d : Int) (f s c) (ls : s.length ≤ 9223372036854775807) (d0 : 0 ≤ d) (d1 : d ≤ 16) (W : ∀ x ∈ s, Walks K x) :
    ∀ (rest : List El) (i : Nat) (m l : Int) (k : Nat), s.drop i = rest → i + rest.length = s.length → 0 ≤ m → m ≤ 8192 → 0 ≤ l → l ≤ 16 → rest.length < k →
      aLoop (aCode E (site fn113 (aRun E K)) (dcall (aRun E K)) K 1 fn113 b113) (cleanS 1 ((firstReg b113).bind fn113.head)) k (S d f s c i m l) = some (outc d f s c (chks (El.cores rest) (d + 1) m l))
  | [], i, m, l, k, h1, h2, m0, m1, l0, l1, hk => by
    obtain ⟨k, rfl⟩ : ∃ j, k = j + 1 := ⟨k - 1, by simp at hk; omega⟩
    obtain rfl : i = s.length := by simpa using h2
    have := aLoop_end (k := k) (last K K d f s c m l) (by simp)
    rw [this]
    simp [El.cores, chks, outc]
  | x :: rest, i, m, l, k, h1, h2, m0, m1, l0, l1, hk => by
    obtain ⟨k, rfl⟩ : ∃ j, k = j + 1 := ⟨k - 1, by simp at hk; omega⟩
    have hx : s[i]? = some x := by
      have := congrArg (fun l => l[0]?) h1
      simpa [List.getElem?_drop] using this
    have hd : s.drop (i + 1) = rest := by
      have := congrArg List.tail h1
      simpa [List.tail_drop] using this
    have w := W x (List.mem_of_getElem? hx) K (Nat.le_refl _) (d + 1) m l (by omega) (by omega) m0 m1 l0 l1
    obtain ⟨a, b, c2, e⟩ := chk_bd x.core (d + 1) m l m0 m1 l0 l1
    have R : ∀ own slot, opened [false, false, true, true] true (aRun E K) slot 113 [.agg (ec x), .int .i64 (d + 1), .ptr (0, 0, 0) 0, .ptr (0, 0, 1) 0] (H m l ++ own) = some (.ret (.int .i64 (chk x.core (d + 1) m l).1), H (chk x.core (d + 1) m l).2.1 (chk x.core (d + 1) m l).2.2 ++ own) := fun own slot => op_self (by rfl) w
    rw [El.cores, chks]
    by_cases hr : (chk x.core (d + 1) m l).1 = 0
    · rw [if_neg (by simp [hr])]
      rw [hr] at R
      rw [aLoop_succ (go K K d f s c i m l _ _ x hx ls d0 (by omega) R)]
      exact loop K d f s c ls d0 d1 W rest (i + 1) _ _ k hd (by simp at h2; omega) a b c2 e (by simp at hk; omega)
    · rw [if_pos hr]
      rw [aLoop_end (bad K K d f s c i m l _ _ _ x hx ls d0 (by omega) hr R) (by simp)]
      simp [outc, hr]
theorem walks : ∀ e : El, e.ok → ∃ N, Walks N e := by
  refine El.ind fun e ih he => ?_
  obtain ⟨N, hN⟩ := unif (P := fun (x : El) (n : Nat) => Walks n x) (fun x n m h hm k hk => h k (by omega)) e.s (fun x hx => ih x hx (he.sub x hx))
  refine ⟨N + e.s.length + 40, fun k hk d m l d0 d1 m0 m1 l0 l1 => ?_⟩
  obtain ⟨K, rfl⟩ : ∃ K, k = K + 1 := ⟨k - 1, by omega⟩
  rw [aRun_fn rfl E_fn113 rfl (Nat.le_of_ble_eq_true rfl), body_113, c113]
  have V : ∀ own slot, opened [false, false, true, true] true (aRun E K) slot 101 [.agg (ec e), .int .i64 d, .ptr (0, 0, 2) 0, .ptr (0, 0, 3) 0] (H m l ++ own) = some (.ret (.int .i64 (vis e.c e.k e.n e.b.isEmpty e.s.isEmpty d m l).1), H (vis e.c e.k e.n e.b.isEmpty e.s.isEmpty d m l).2.1 (vis e.c e.k e.n e.b.isEmpty e.s.isEmpty d m l).2.2 ++ own) :=
    fun own slot => op_visit rfl (aRun_le E 20 K (by omega) _ _ _ _ (visit e.c e.k e.n e.fb e.b e.cb e.fs e.s e.cs d m l m0 m1 l0 he.bl he.sl))
  have V' := V [((1, 4, 0), bx (ec e))] 14
  simp [H] at V'
  have ln := El.avs_len e.s
  by_cases hv : (vis e.c e.k e.n e.b.isEmpty e.s.isEmpty d m l).1 = 0
  · have q : (vis e.c e.k e.n e.b.isEmpty e.s.isEmpty d m l) = (0, m + 1, max l d) ∧ d ≤ 16 ∧ m ≠ 8192 ∧ chk e.core d m l = chks (El.cores e.s) (d + 1) (m + 1) (max l d) := by
      rw [chk_eq]
      unfold vis at hv ⊢
      by_cases h1 : tagE e.c e.k e.n = 0
      case neg => rw [if_pos h1] at hv; exact absurd hv h1
      rw [if_neg (by simp [h1])] at hv ⊢
      by_cases h2 : (e.k = true ∧ e.b.isEmpty = false) ∨ (e.k = false ∧ e.s.isEmpty = false)
      · rw [if_pos h2] at hv; cases hv
      rw [if_neg h2] at hv ⊢
      by_cases h3 : 16 < d
      · rw [if_pos h3] at hv; cases hv
      rw [if_neg h3] at hv ⊢
      by_cases h4 : m = 8192
      · rw [if_pos h4] at hv; cases hv
      have h2' : ¬ ((e.k = true ∧ e.b ≠ []) ∨ (e.k = false ∧ e.s ≠ [])) := by simpa using h2
      exact ⟨by rw [if_neg h4], by omega, h4, by rw [if_neg (by simp [h1]), if_neg h2', if_neg h3, if_neg h4]⟩
    obtain ⟨q1, q2, q3, q4⟩ := q
    rw [q1] at V'
    have L := loop K d e.fs e.s e.cs he.sl d0 q2 (fun x hx => fun k hk => hN x hx k (by omega)) e.s 0 (m + 1) (max l d) K (by simp) (by simp) (by omega) (by omega) (by omega) (by omega) (by omega)
    rw [← q4] at L
    obtain ⟨p, hp⟩ : ∃ p, chk e.core d m l = p := ⟨_, rfl⟩
    rw [hp] at L ⊢
    simp [b113, lp, lps, c113, firstReg, S, H] at L
    by_cases hp1 : p.1 = 0
    · simp [outc, hp1, H] at L
      simp [↓s_seq, ↓s_reg, ↓s_regd, ↓s_cond, ↓s_block, ↓s_cons, ↓s_consG, s_nil, s_loop, s_round, s_lpn, s_lpe, s_lpr, firstReg, s_gt, s_gf, s_wb, s_wu, s_val, s_valN, s_skip, s_calls, s_callP, s_cax, lookR, flatR, pureKs, s_ret, s_rgx, s_sqn, s_sqr, s_sqe, s_cdb, s_bkn, s_bkr, s_bke, s_exit, s_ret', s_skip', s_finr, s_finn, s_fin1, s_fix, s_clean, s_gc0, o_tmp, o_int, o_bool, o_nil, o_str, o_fn, o_nil', l_hit, l_miss, l_nil, ol_nil, ol_cons, ol_some, x_move, x_assign, x_pick, pk_t, pk_f, x_bin, bn_s, x_un, x_extract, x_callF, cl_no, x_callB, x_callBF, frzV, x_conv, cvx, convA, frame0, binA, intOp, resL, resA, results1, sealLW, AV.pure, AV.pureL, keepT, x_alloc, x_box, bxx, x_build, bdx, x_buildSlice, bsx, x_buildSliceF, bsf, x_load, ldx, x_store, stx, x_slice, slx, x_fieldAddr, x_field, x_index, ixx, x_indexAddr, iax, x_makeSlice, msx, x_nilCheck, newK, genOf, setK, lookK, fillA, writeL, writeC, readC, conts, TyI.mk1, sliceA, boundsA, boundsB, fitsA, numA, indexAddrA, fieldAddrA, partA, fieldA, indexA, appendA, copyA, builtinA, AV.cells, chunk, gcH, reach, keysT, keepK, inKs, AV.keys, AV.keysL, Ty.isAgg, eq1, eqL, convA.go, ltI, w_u8, w_u32, w_u64, w_i64, w_fdiv, w_tdiv, w_tmod, IntKind.bits, unA, sc_int, sc_bool, sc_str, sc_sl, sc_ref, sc_ptr, sc_pel, sc_nilp, sc_fn, sc_nilf, sc_if, sc_nili, sc_agg, sc_tup, sc_mem, bs_pure, bs_kl, bs_length, bs_cells, bs_all, sl_row, sealRow, sealY, sl_int, sl_bool, sl_str, sl_sl, sl_nilp, sl_nilf, sl_nili, sl_pel, sl_agg, sl_tup, sl_fn, sl_if, nat_1, bs_cons, bs_nil, i_beq, i_bne, x_mkF, x_mkI, x_tassert, x_panic, s_pan, s_sqp, s_bkp, s_finp, s_fixp, s_lpp, s_rgp, s_retp, s_site, s_stxN, s_stxO, x_callT, clx, V', ln, L, hp1, H, -s_round]
    · simp [outc, hp1, H] at L
      simp [↓s_seq, ↓s_reg, ↓s_regd, ↓s_cond, ↓s_block, ↓s_cons, ↓s_consG, s_nil, s_loop, s_round, s_lpn, s_lpe, s_lpr, firstReg, s_gt, s_gf, s_wb, s_wu, s_val, s_valN, s_skip, s_calls, s_callP, s_cax, lookR, flatR, pureKs, s_ret, s_rgx, s_sqn, s_sqr, s_sqe, s_cdb, s_bkn, s_bkr, s_bke, s_exit, s_ret', s_skip', s_finr, s_finn, s_fin1, s_fix, s_clean, s_gc0, o_tmp, o_int, o_bool, o_nil, o_str, o_fn, o_nil', l_hit, l_miss, l_nil, ol_nil, ol_cons, ol_some, x_move, x_assign, x_pick, pk_t, pk_f, x_bin, bn_s, x_un, x_extract, x_callF, cl_no, x_callB, x_callBF, frzV, x_conv, cvx, convA, frame0, binA, intOp, resL, resA, results1, sealLW, AV.pure, AV.pureL, keepT, x_alloc, x_box, bxx, x_build, bdx, x_buildSlice, bsx, x_buildSliceF, bsf, x_load, ldx, x_store, stx, x_slice, slx, x_fieldAddr, x_field, x_index, ixx, x_indexAddr, iax, x_makeSlice, msx, x_nilCheck, newK, genOf, setK, lookK, fillA, writeL, writeC, readC, conts, TyI.mk1, sliceA, boundsA, boundsB, fitsA, numA, indexAddrA, fieldAddrA, partA, fieldA, indexA, appendA, copyA, builtinA, AV.cells, chunk, gcH, reach, keysT, keepK, inKs, AV.keys, AV.keysL, Ty.isAgg, eq1, eqL, convA.go, ltI, w_u8, w_u32, w_u64, w_i64, w_fdiv, w_tdiv, w_tmod, IntKind.bits, unA, sc_int, sc_bool, sc_str, sc_sl, sc_ref, sc_ptr, sc_pel, sc_nilp, sc_fn, sc_nilf, sc_if, sc_nili, sc_agg, sc_tup, sc_mem, bs_pure, bs_kl, bs_length, bs_cells, bs_all, sl_row, sealRow, sealY, sl_int, sl_bool, sl_str, sl_sl, sl_nilp, sl_nilf, sl_nili, sl_pel, sl_agg, sl_tup, sl_fn, sl_if, nat_1, bs_cons, bs_nil, i_beq, i_bne, x_mkF, x_mkI, x_tassert, x_panic, s_pan, s_sqp, s_bkp, s_finp, s_fixp, s_lpp, s_rgp, s_retp, s_site, s_stxN, s_stxO, x_callT, clx, V', ln, L, hp1, H, -s_round]
  · have q : vis e.c e.k e.n e.b.isEmpty e.s.isEmpty d m l = chk e.core d m l := by
      rw [chk_eq]
      unfold vis at hv ⊢
      have iff2 : ((e.k = true ∧ e.b.isEmpty = false) ∨ (e.k = false ∧ e.s.isEmpty = false)) ↔ ((e.k = true ∧ e.b ≠ []) ∨ (e.k = false ∧ e.s ≠ [])) := by simp
      simp only [iff2] at hv ⊢
      split
      · rfl
      rename_i h1; rw [if_neg h1] at hv
      split
      · rfl
      rename_i h2; rw [if_neg h2] at hv
      split
      · rfl
      rename_i h3; rw [if_neg h3] at hv
      split
      · rfl
      rename_i h4; rw [if_neg h4] at hv; exact absurd rfl hv
    rw [q] at V' hv
    obtain ⟨p, hp⟩ : ∃ p, chk e.core d m l = p := ⟨_, rfl⟩
    rw [hp] at V' hv ⊢
    simp [↓s_seq, ↓s_reg, ↓s_regd, ↓s_cond, ↓s_block, ↓s_cons, ↓s_consG, s_nil, s_loop, s_round, s_lpn, s_lpe, s_lpr, firstReg, s_gt, s_gf, s_wb, s_wu, s_val, s_valN, s_skip, s_calls, s_callP, s_cax, lookR, flatR, pureKs, s_ret, s_rgx, s_sqn, s_sqr, s_sqe, s_cdb, s_bkn, s_bkr, s_bke, s_exit, s_ret', s_skip', s_finr, s_finn, s_fin1, s_fix, s_clean, s_gc0, o_tmp, o_int, o_bool, o_nil, o_str, o_fn, o_nil', l_hit, l_miss, l_nil, ol_nil, ol_cons, ol_some, x_move, x_assign, x_pick, pk_t, pk_f, x_bin, bn_s, x_un, x_extract, x_callF, cl_no, x_callB, x_callBF, frzV, x_conv, cvx, convA, frame0, binA, intOp, resL, resA, results1, sealLW, AV.pure, AV.pureL, keepT, x_alloc, x_box, bxx, x_build, bdx, x_buildSlice, bsx, x_buildSliceF, bsf, x_load, ldx, x_store, stx, x_slice, slx, x_fieldAddr, x_field, x_index, ixx, x_indexAddr, iax, x_makeSlice, msx, x_nilCheck, newK, genOf, setK, lookK, fillA, writeL, writeC, readC, conts, TyI.mk1, sliceA, boundsA, boundsB, fitsA, numA, indexAddrA, fieldAddrA, partA, fieldA, indexA, appendA, copyA, builtinA, AV.cells, chunk, gcH, reach, keysT, keepK, inKs, AV.keys, AV.keysL, Ty.isAgg, eq1, eqL, convA.go, ltI, w_u8, w_u32, w_u64, w_i64, w_fdiv, w_tdiv, w_tmod, IntKind.bits, unA, sc_int, sc_bool, sc_str, sc_sl, sc_ref, sc_ptr, sc_pel, sc_nilp, sc_fn, sc_nilf, sc_if, sc_nili, sc_agg, sc_tup, sc_mem, bs_pure, bs_kl, bs_length, bs_cells, bs_all, sl_row, sealRow, sealY, sl_int, sl_bool, sl_str, sl_sl, sl_nilp, sl_nilf, sl_nili, sl_pel, sl_agg, sl_tup, sl_fn, sl_if, nat_1, bs_cons, bs_nil, i_beq, i_bne, x_mkF, x_mkI, x_tassert, x_panic, s_pan, s_sqp, s_bkp, s_finp, s_fixp, s_lpp, s_rgp, s_retp, s_site, s_stxN, s_stxO, x_callT, clx, V', ln, hv, H]
end E4
