/- Own work, no conditions. -/
import Derived.Test.YtbiildmljbcmeaaF19
import Derived.Test.YtbiildmljbcmeaaF28
section
/- The reference's Encode at the evaluator: what it answers. No conditions. -/
open Ab Go TabE Sp E34 F1 F4 F5 F17 F18
set_option maxRecDepth 20000
set_option linter.unusedSimpArgs false
set_option linter.unusedVariables false
set_option maxHeartbeats 8000000
namespace F19
theorem pA (e : El) (he : e.ok) (hv : vld e.core) (hl : (enc e.core).length ≤ 60000) (N : Nat) (hN : ∀ x ∈ e.s, Con E N 84 [x.av] (.sl false (bs (enc x.core)) none)) (hs : e.s = []) (hb : e.b = []) : ∃ N, Con E N 84 [e.av] (.sl false (bs (enc e.core)) none) := by
  obtain ⟨v1, v2, v3, v4⟩ := (vld_eq e).1 hv
  obtain ⟨t3, n3⟩ : e.c ≤ 3 ∧ e.n ≤ 268435455 := by
    have := v1; unfold tagE at this
    split at this
    · cases this
    · omega
  have tl := tagO_len e.c e.k e.n
  have el := enc_eq e
  obtain ⟨ct, hct⟩ : ∃ ct, e.b ++ encs (El.cores e.s) = ct := ⟨_, rfl⟩
  rw [hct] at el
  have lel : (enc e.core).length = (TG.tagO e.c e.k e.n).length + ((lenO (ct.length : Int)).length + ct.length) := by rw [el, List.length_append, List.length_append]
  have lct : ct.length = e.b.length + (encs (El.cores e.s)).length := by rw [← hct, List.length_append]
  obtain ⟨K, hK⟩ : ∃ K, N + e.s.length + 60 = K := ⟨_, rfl⟩
  obtain ⟨gc, G⟩ := dig e.n he.nb.1 (by omega)
  have G' := G K (by omega) 0
  refine ⟨K + 1, con_ofO E_fn84 (by simp [AV.pureL, El.av_pure]) (Nat.le_of_ble_eq_true rfl) rfl (g := []) ?_⟩
  rw [body_84, c84, el]
  have cc0 := he.cb.1
  have n0 := he.nb.1
  obtain ⟨K', rfl⟩ : ∃ K', K = K' + 4 := ⟨K - 4, by omega⟩
  have tgl : e.n < 31 → TG.tagO e.c e.k e.n = [64 * e.c + (if e.k then 32 else 0) + e.n] := fun h => by unfold TG.tagO; rw [if_pos h]
  have tgh : ¬ e.n < 31 → TG.tagO e.c e.k e.n = (64 * e.c + (if e.k then 32 else 0) + 31) :: TG.grp e.n := fun h => by unfold TG.tagO; rw [if_neg h]
  have gl := tagO_len e.c e.k e.n
  have m0 : 31 ≤ e.n → (if 31 < e.n then (31 : Int) else e.n) = 31 := fun h => by split <;> omega
  have m1 : e.n < 31 → (e.c * 64 + e.n) % 256 = 64 * e.c + e.n := fun h => by omega
  have m2 : e.n < 31 → (e.c * 64 + 32 + e.n) % 256 = 64 * e.c + 32 + e.n := fun h => by omega
  have m3 : (e.c * 64 + 31) % 256 = 64 * e.c + 31 := by omega
  have m4 : (e.c * 64 + 32 + 31) % 256 = 64 * e.c + 32 + 31 := by omega
  have b0 : ¬ 31 ≤ e.n → ¬ 31 < e.n := fun h => by omega
  have b1 : ¬ 31 ≤ e.n → ¬ 30 < e.n := fun h => by omega
  have b2 : 31 ≤ e.n → 30 < e.n := fun h => by omega
  have g0 : TG.grp e.n ≠ [] ∧ (TG.grp e.n).length ≤ 4 := by unfold TG.grp; split <;> simp
  obtain ⟨gr, hgr⟩ : ∃ gr, TG.grp e.n = gr := ⟨_, rfl⟩
  rw [hgr] at G' tgh g0
  obtain ⟨g0, g4⟩ := g0
  have g1 : 0 < gr.length := List.length_pos_iff.2 g0
  have e0 : gr.length ≤ 70368744177664 := by omega
  have d0 : ct.length ≤ 70368744177664 := by omega
  have gc0 : gr.length + ct.length ≤ 70368744177664 := by omega
  have e1 : gr.length ≤ 70368744177663 := by omega
  have c1 : ct.length ≤ 70368744177663 := by omega
  have gc1 : gr.length + ct.length ≤ 70368744177663 := by omega
  have e2 : gr.length ≤ 70368744177662 := by omega
  have c2 : ct.length ≤ 70368744177662 := by omega
  have gc2 : gr.length + ct.length ≤ 70368744177662 := by omega
  have e3 : gr.length ≤ 70368744177661 := by omega
  have c3 : ct.length ≤ 70368744177661 := by omega
  have gc3 : gr.length + ct.length ≤ 70368744177661 := by omega
  have e4 : gr.length ≤ 70368744177660 := by omega
  have c4 : ct.length ≤ 70368744177660 := by omega
  have gc4 : gr.length + ct.length ≤ 70368744177660 := by omega
  have e5 : gr.length ≤ 70368744177659 := by omega
  have c5 : ct.length ≤ 70368744177659 := by omega
  have gc5 : gr.length + ct.length ≤ 70368744177659 := by omega
  have e6 : gr.length ≤ 70368744177658 := by omega
  have c6 : ct.length ≤ 70368744177658 := by omega
  have gc6 : gr.length + ct.length ≤ 70368744177658 := by omega
  have f1 : ¬ (1 + gr.length ≤ 1) := by omega
  have f2 : 1 + gr.length ≤ 70368744177664 := by omega
  have f3 : 1 + (gr.length + 1) ≤ 70368744177664 := by omega
  have f4 : 1 + (gr.length + (1 + ct.length)) ≤ 70368744177664 := by omega
  have f5 : 2 + ct.length ≤ 70368744177664 := by omega
  have f6 : e.b.length ≤ 70368744177664 := by omega
  have f7 : ct.length ≤ 70368744177664 := by omega
  have pl : ∀ (l : List Int) (x : Int), AV.pureL (bs l ++ [AV.int .u8 x]) = true := fun l x => by rw [show bs l ++ [AV.int .u8 x] = bs (l ++ [x]) from (bs_append l [x]).symm]; exact bs_pure _
  have h1_ : 1 + ct.length ≤ 70368744177664 := by omega
  have hg1_ : gr.length + 1 + ct.length ≤ 70368744177664 := by omega
  have h2_ : 2 + ct.length ≤ 70368744177664 := by omega
  have hg2_ : gr.length + 2 + ct.length ≤ 70368744177664 := by omega
  have h3_ : 3 + ct.length ≤ 70368744177664 := by omega
  have hg3_ : gr.length + 3 + ct.length ≤ 70368744177664 := by omega
  have h4_ : 4 + ct.length ≤ 70368744177664 := by omega
  have hg4_ : gr.length + 4 + ct.length ≤ 70368744177664 := by omega
  have h5_ : 5 + ct.length ≤ 70368744177664 := by omega
  have hg5_ : gr.length + 5 + ct.length ≤ 70368744177664 := by omega
  have hh2_ : gr.length + 1 + 1 + ct.length ≤ 70368744177664 := by omega
  have hh3_ : gr.length + 1 + 1 + 1 + ct.length ≤ 70368744177664 := by omega
  have hh4_ : gr.length + 1 + 1 + 1 + 1 + ct.length ≤ 70368744177664 := by omega
  have hh5_ : gr.length + 1 + 1 + 1 + 1 + 1 + ct.length ≤ 70368744177664 := by omega
  have j2_ : (ct.length + 1 + 1 = 2 + ct.length) = True := eq_true (by omega)
  have j3_ : (ct.length + 1 + 1 + 1 = 3 + ct.length) = True := eq_true (by omega)
  have j4_ : (ct.length + 1 + 1 + 1 + 1 = 4 + ct.length) = True := eq_true (by omega)
  have k1_ : (gr.length + (ct.length + 1) + 1 = gr.length + 1 + 1 + ct.length) = True := eq_true (by omega)
  have k2_ : (gr.length + (ct.length + 1 + 1) + 1 = gr.length + 1 + 1 + 1 + ct.length) = True := eq_true (by omega)
  have k3_ : (gr.length + (ct.length + 1 + 1 + 1) + 1 = gr.length + 1 + 1 + 2 + ct.length) = True := eq_true (by omega)
  have k4_ : (gr.length + (ct.length + 1 + 1 + 1) + 1 = gr.length + 1 + 1 + 1 + 1 + ct.length) = True := eq_true (by omega)
  have k5_ : gr.length + 1 + 1 + 2 + ct.length ≤ 70368744177664 := by omega
  have k6_ : gr.length + 1 + 1 + 3 + ct.length ≤ 70368744177664 := by omega
  have k7_ : (gr.length + 1 + 1 + 2 ≤ 70368744177664) = True := eq_true (by omega)
  have y0 : (0 : Int) ≤ ct.length := by omega
  have le1 : ct.length < 128 → lenO (ct.length : Int) = [(ct.length : Int)] := fun h => by unfold lenO; rw [if_pos (by omega)]
  have le2 : ¬ ct.length < 128 → ct.length < 256 → lenO (ct.length : Int) = [129, (ct.length : Int)] := fun h h' => by unfold lenO; rw [if_neg (by omega), if_pos (by omega)]
  have le3 : ¬ ct.length < 256 → lenO (ct.length : Int) = [130, (ct.length : Int) / 256, (ct.length : Int) % 256] := fun h => by unfold lenO; rw [if_neg (by omega), if_neg (by omega), if_pos (by omega)]
  have n1 : ct.length < 128 → ((ct.length : Int) < 128) = True := fun h => eq_true (by omega)
  have n2 : ¬ ct.length < 128 → ((ct.length : Int) < 128) = False := fun h => eq_false (by omega)
  have n3 : ct.length < 256 → (ct.length : Int) % 256 = ct.length := fun h => by omega
  have n4 : (ct.length : Int).tmod 256 = (ct.length : Int) % 256 := Int.tmod_eq_emod_of_nonneg (by omega)
  have n5 : (ct.length : Int).tdiv 256 = (ct.length : Int) / 256 := Int.tdiv_eq_ediv_of_nonneg (by omega)
  have n6 : (ct.length : Int) % 256 % 256 = (ct.length : Int) % 256 := by omega
  have n7 : ct.length < 256 → (ct.length : Int) / 256 = 0 := fun h => by omega
  have n8 : ¬ ct.length < 256 → (0 < (ct.length : Int) / 256) = True := fun h => eq_true (by omega)
  have n9 : ((ct.length : Int) / 256).tmod 256 = (ct.length : Int) / 256 := by rw [Int.tmod_eq_emod_of_nonneg (by omega)]; omega
  have n10 : ((ct.length : Int) / 256).tdiv 256 = 0 := by rw [Int.tdiv_eq_ediv_of_nonneg (by omega)]; omega
  have n11 : (ct.length : Int) / 256 % 256 = (ct.length : Int) / 256 := by omega
  have n12 := w64' ((ct.length : Int) / 256) (by omega) (by omega)
  have n13 := w64' ((ct.length : Int) % 256) (by omega) (by omega)
  have n14 : ct ≠ [] → (0 < ct.length) = True := fun h => eq_true (List.length_pos_iff.2 h)
  have L := emp (K' + 4) (by omega) e hs
  have cte : ct = [] := by rw [← hct, hb, hs]; rfl
  subst cte
  have lo : lenO (([] : List Int).length : Int) = [0] := rfl
  rw [lo]
  by_cases h31 : e.n < 31
  · have h31' : ¬ 31 ≤ e.n := by omega
    rw [tgl h31]
    cases hk : e.k
    all_goals
      simp [LpE, bE, lp, lps, c84, firstReg, S0, SR, ec, hb, bs_nil, hk] at L
      simp [El.av_eq, ↓s_seq, ↓s_reg, ↓s_regd, ↓s_cond, ↓s_block, ↓s_cons, ↓s_consG, s_nil, s_loop, s_round, s_lpn, s_lpe, s_lpr, firstReg, s_gt, s_gf, s_wb, s_wu, s_val, s_valN, s_skip, s_calls, s_callP, s_cax, lookR, flatR, pureKs, s_ret, s_rgx, s_sqn, s_sqr, s_sqe, s_cdb, s_bkn, s_bkr, s_bke, s_exit, s_ret', s_skip', s_finr, s_finn, s_fin1, s_fix, s_clean, s_gc0, o_tmp, o_int, o_bool, o_nil, o_str, o_fn, o_nil', l_hit, l_miss, l_nil, ol_nil, ol_cons, ol_some, x_move, x_assign, x_pick, pk_t, pk_f, x_bin, bn_s, x_un, x_extract, x_callF, cl_no, x_callB, x_callBF, frzV, x_conv, cvx, convA, frame0, binA, intOp, resL, resA, results1, sealLW, AV.pure, AV.pureL, keepT, x_alloc, x_box, bxx, x_build, bdx, x_buildSlice, bsx, x_buildSliceF, bsf, x_load, ldx, x_store, stx, x_slice, slx, x_fieldAddr, x_field, x_index, ixx, x_indexAddr, iax, x_makeSlice, msx, x_makeSliceF, msf, x_nilCheck, newK, genOf, setK, lookK, fillA, writeL, writeC, readC, conts, TyI.mk1, sliceA, boundsA, boundsB, fitsA, numA, indexAddrA, fieldAddrA, partA, fieldA, indexA, appendA, copyA, builtinA, AV.cells, chunk, gcH, reach, keysT, keepK, inKs, AV.keys, AV.keysL, Ty.isAgg, eq1, eqL, convA.go, ltI, w_u8, w_u32, w_u64, w_i64, w_fdiv, w_tdiv, w_tmod, IntKind.bits, unA, sc_int, sc_bool, sc_str, sc_sl, sc_ref, sc_ptr, sc_pel, sc_nilp, sc_fn, sc_nilf, sc_if, sc_nili, sc_agg, sc_tup, sc_mem, bs_pure, bs_kl, bs_length, bs_cells, bs_all, sl_row, sealRow, sealY, sl_int, sl_bool, sl_str, sl_sl, sl_nilp, sl_nilf, sl_nili, sl_pel, sl_agg, sl_tup, sl_fn, sl_if, nat_1, bs_cons, bs_nil, i_beq, i_bne, x_mkF, x_mkI, x_tassert, x_panic, s_pan, s_sqp, s_bkp, s_finp, s_fixp, s_lpp, s_rgp, s_retp, s_site, s_stxN, s_stxO, x_callT, clx, El.avs_len, -s_round, hb, hk, L, b0, b1, m1, m2, h31, h31']
  · have h31' : 31 ≤ e.n := by omega
    rw [tgh h31]
    cases hk : e.k
    all_goals
      simp [LpE, bE, lp, lps, c84, firstReg, S0, SR, ec, hb, bs_nil, hk] at L
      simp [El.av_eq, ↓s_seq, ↓s_reg, ↓s_regd, ↓s_cond, ↓s_block, ↓s_cons, ↓s_consG, s_nil, s_loop, s_round, s_lpn, s_lpe, s_lpr, firstReg, s_gt, s_gf, s_wb, s_wu, s_val, s_valN, s_skip, s_calls, s_callP, s_cax, lookR, flatR, pureKs, s_ret, s_rgx, s_sqn, s_sqr, s_sqe, s_cdb, s_bkn, s_bkr, s_bke, s_exit, s_ret', s_skip', s_finr, s_finn, s_fin1, s_fix, s_clean, s_gc0, o_tmp, o_int, o_bool, o_nil, o_str, o_fn, o_nil', l_hit, l_miss, l_nil, ol_nil, ol_cons, ol_some, x_move, x_assign, x_pick, pk_t, pk_f, x_bin, bn_s, x_un, x_extract, x_callF, cl_no, x_callB, x_callBF, frzV, x_conv, cvx, convA, frame0, binA, intOp, resL, resA, results1, sealLW, AV.pure, AV.pureL, keepT, x_alloc, x_box, bxx, x_build, bdx, x_buildSlice, bsx, x_buildSliceF, bsf, x_load, ldx, x_store, stx, x_slice, slx, x_fieldAddr, x_field, x_index, ixx, x_indexAddr, iax, x_makeSlice, msx, x_makeSliceF, msf, x_nilCheck, newK, genOf, setK, lookK, fillA, writeL, writeC, readC, conts, TyI.mk1, sliceA, boundsA, boundsB, fitsA, numA, indexAddrA, fieldAddrA, partA, fieldA, indexA, appendA, copyA, builtinA, AV.cells, chunk, gcH, reach, keysT, keepK, inKs, AV.keys, AV.keysL, Ty.isAgg, eq1, eqL, convA.go, ltI, w_u8, w_u32, w_u64, w_i64, w_fdiv, w_tdiv, w_tmod, IntKind.bits, unA, sc_int, sc_bool, sc_str, sc_sl, sc_ref, sc_ptr, sc_pel, sc_nilp, sc_fn, sc_nilf, sc_if, sc_nili, sc_agg, sc_tup, sc_mem, bs_pure, bs_kl, bs_length, bs_cells, bs_all, sl_row, sealRow, sealY, sl_int, sl_bool, sl_str, sl_sl, sl_nilp, sl_nilf, sl_nili, sl_pel, sl_agg, sl_tup, sl_fn, sl_if, nat_1, bs_cons, bs_nil, i_beq, i_bne, x_mkF, x_mkI, x_tassert, x_panic, s_pan, s_sqp, s_bkp, s_finp, s_fixp, s_lpp, s_rgp, s_retp, s_site, s_stxN, s_stxO, x_callT, clx, El.avs_len, -s_round, hb, hk, L, m0, b2, m3, m4, h31', G', e0, e1, e2, e3, e4, e5, e6, g0, El.keysL_app, bs_kl, bs_append, pl]
end F19

end
section
/- The reference's Encode at the evaluator: what it answers. No conditions. -/
open Ab Go TabE Sp E34 F1 F4 F5 F17 F18
set_option maxRecDepth 20000
set_option linter.unusedSimpArgs false
set_option linter.unusedVariables false
set_option maxHeartbeats 8000000
namespace F19
theorem renc : ∀ e : El, e.ok → vld e.core → (enc e.core).length ≤ 60000 → ∃ N, Con E N 84 [e.av] (.sl false (bs (enc e.core)) none) := by
  refine El.ind fun e ih he hv hl => ?_
  obtain ⟨v1, v2, v3, v4⟩ := (vld_eq e).1 hv
  obtain ⟨t3, n3⟩ : e.c ≤ 3 ∧ e.n ≤ 268435455 := by
    have := v1; unfold tagE at this
    split at this
    · cases this
    · omega
  have tl := tagO_len e.c e.k e.n
  have el := enc_eq e
  obtain ⟨ct, hct⟩ : ∃ ct, e.b ++ encs (El.cores e.s) = ct := ⟨_, rfl⟩
  rw [hct] at el
  have lel : (enc e.core).length = (TG.tagO e.c e.k e.n).length + ((lenO (ct.length : Int)).length + ct.length) := by rw [el, List.length_append, List.length_append]
  have lct : ct.length = e.b.length + (encs (El.cores e.s)).length := by rw [← hct, List.length_append]
  have sub_le : ∀ l : List El, ∀ x ∈ l, (enc x.core).length ≤ (encs (El.cores l)).length := by
    intro l
    induction l with
    | nil => intro x hx; cases hx
    | cons y l ih =>
      intro x hx
      rw [El.cores, encs, List.length_append]
      rcases List.mem_cons.1 hx with rfl | hx
      · omega
      · have := ih x hx; omega
  obtain ⟨N, hN⟩ := unif (P := fun (x : El) (n : Nat) => Con E n 84 [x.av] (.sl false (bs (enc x.core)) none)) (fun x n m h hm => h.mono hm) e.s (fun x hx => ih x hx (he.sub x hx) (vlds_all.1 v4 x hx) (by have := sub_le _ x hx; omega))
  by_cases hs : e.s = []
  · by_cases hb : e.b = []
    · exact pA e he hv hl N hN hs hb
    · by_cases h31 : e.n < 31
      · exact pClo e he hv hl N hN hs hb h31
      · exact pChi e he hv hl N hN hs hb h31
  · by_cases h31 : e.n < 31
    · exact pBlo e he hv hl N hN hs h31
    · exact pBhi e he hv hl N hN hs h31
end F19

end
