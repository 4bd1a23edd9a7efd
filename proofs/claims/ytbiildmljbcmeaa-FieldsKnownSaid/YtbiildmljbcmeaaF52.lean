/- Own work, no conditions. -/
import Derived.Test.YtbiildmljbcmeaaF26
import Derived.Test.YtbiildmljbcmeaaF33
import Derived.Test.YtbiildmljbcmeaaLW
set_option maxRecDepth 20000
set_option linter.unusedSimpArgs false
set_option linter.unusedVariables false
set_option maxHeartbeats 16000000
section
open Ab Go TabE Sp E34 F1 F4 F5 F17 F18
namespace F19
theorem pClo (e : El) (he : e.ok) (hv : vld e.core) (hl : (enc e.core).length ≤ 60000) (N : Nat) (hN : ∀ x ∈ e.s, Con E N 84 [x.av] (.sl false (bs (enc x.core)) none)) (hs : e.s = []) (hb : ¬ e.b = []) (h31 : e.n < 31) : ∃ N, Con E N 84 [e.av] (.sl false (bs (enc e.core)) none) := by
  obtain ⟨v1, v2, v3, v4⟩ := (vld_eq e).1 hv
  obtain ⟨t3, n3⟩ : e.c ≤ 3 ∧ e.n ≤ 268435455 := by
    have := v1; unfold tagE at this
    split at this
    · cases this
    · omega
  have tl := tagO_len e.c e.k e.n
  have el := enc_eq e
  obtain ⟨ct, hct⟩ : ∃ ct, e.b ++ encs (El.cores e.s) = ct := ⟨_, rfl⟩
  rw [hct] at el
  have lel : (enc e.core).length = (TG.tagO e.c e.k e.n).length + ((lenO (ct.length : Int)).length + ct.length) := by rw [el, List.length_append, List.length_append]
  have lct : ct.length = e.b.length + (encs (El.cores e.s)).length := by rw [← hct, List.length_append]
  obtain ⟨K, hK⟩ : ∃ K, N + e.s.length + 60 = K := ⟨_, rfl⟩
  obtain ⟨gc, G⟩ := dig e.n he.nb.1 (by omega)
  have G' := G K (by omega) 0
  refine ⟨K + 1, con_ofO E_fn84 (by simp [AV.pureL, El.av_pure]) (Nat.le_of_ble_eq_true rfl) rfl (g := []) ?_⟩
  rw [body_84, c84, el]
  have cc0 := he.cb.1
  have n0 := he.nb.1
  obtain ⟨K', rfl⟩ : ∃ K', K = K' + 4 := ⟨K - 4, by omega⟩
  have tgl : e.n < 31 → TG.tagO e.c e.k e.n = [64 * e.c + (if e.k then 32 else 0) + e.n] := fun h => by unfold TG.tagO; rw [if_pos h]
  have tgh : ¬ e.n < 31 → TG.tagO e.c e.k e.n = (64 * e.c + (if e.k then 32 else 0) + 31) :: TG.grp e.n := fun h => by unfold TG.tagO; rw [if_neg h]
  have gl := tagO_len e.c e.k e.n
  have m0 : 31 ≤ e.n → (if 31 < e.n then (31 : Int) else e.n) = 31 := fun h => by split <;> omega
  have m1 : e.n < 31 → (e.c * 64 + e.n) % 256 = 64 * e.c + e.n := fun h => by omega
  have m2 : e.n < 31 → (e.c * 64 + 32 + e.n) % 256 = 64 * e.c + 32 + e.n := fun h => by omega
  have m3 : (e.c * 64 + 31) % 256 = 64 * e.c + 31 := by omega
  have m4 : (e.c * 64 + 32 + 31) % 256 = 64 * e.c + 32 + 31 := by omega
  have b0 : ¬ 31 ≤ e.n → ¬ 31 < e.n := fun h => by omega
  have b1 : ¬ 31 ≤ e.n → ¬ 30 < e.n := fun h => by omega
  have b2 : 31 ≤ e.n → 30 < e.n := fun h => by omega
  have g0 : TG.grp e.n ≠ [] ∧ (TG.grp e.n).length ≤ 4 := by unfold TG.grp; split <;> simp
  obtain ⟨gr, hgr⟩ : ∃ gr, TG.grp e.n = gr := ⟨_, rfl⟩
  rw [hgr] at G' tgh g0
  obtain ⟨g0, g4⟩ := g0
  have g1 : 0 < gr.length := List.length_pos_iff.2 g0
  have e0 : gr.length ≤ 70368744177664 := by omega
  have d0 : ct.length ≤ 70368744177664 := by omega
  have gc0 : gr.length + ct.length ≤ 70368744177664 := by omega
  have e1 : gr.length ≤ 70368744177663 := by omega
  have c1 : ct.length ≤ 70368744177663 := by omega
  have gc1 : gr.length + ct.length ≤ 70368744177663 := by omega
  have e2 : gr.length ≤ 70368744177662 := by omega
  have c2 : ct.length ≤ 70368744177662 := by omega
  have gc2 : gr.length + ct.length ≤ 70368744177662 := by omega
  have e3 : gr.length ≤ 70368744177661 := by omega
  have c3 : ct.length ≤ 70368744177661 := by omega
  have gc3 : gr.length + ct.length ≤ 70368744177661 := by omega
  have e4 : gr.length ≤ 70368744177660 := by omega
  have c4 : ct.length ≤ 70368744177660 := by omega
  have gc4 : gr.length + ct.length ≤ 70368744177660 := by omega
  have e5 : gr.length ≤ 70368744177659 := by omega
  have c5 : ct.length ≤ 70368744177659 := by omega
  have gc5 : gr.length + ct.length ≤ 70368744177659 := by omega
  have e6 : gr.length ≤ 70368744177658 := by omega
  have c6 : ct.length ≤ 70368744177658 := by omega
  have gc6 : gr.length + ct.length ≤ 70368744177658 := by omega
  have f1 : ¬ (1 + gr.length ≤ 1) := by omega
  have f2 : 1 + gr.length ≤ 70368744177664 := by omega
  have f3 : 1 + (gr.length + 1) ≤ 70368744177664 := by omega
  have f4 : 1 + (gr.length + (1 + ct.length)) ≤ 70368744177664 := by omega
  have f5 : 2 + ct.length ≤ 70368744177664 := by omega
  have f6 : e.b.length ≤ 70368744177664 := by omega
  have f7 : ct.length ≤ 70368744177664 := by omega
  have pl : ∀ (l : List Int) (x : Int), AV.pureL (bs l ++ [AV.int .u8 x]) = true := fun l x => by rw [show bs l ++ [AV.int .u8 x] = bs (l ++ [x]) from (bs_append l [x]).symm]; exact bs_pure _
  have h1_ : 1 + ct.length ≤ 70368744177664 := by omega
  have hg1_ : gr.length + 1 + ct.length ≤ 70368744177664 := by omega
  have h2_ : 2 + ct.length ≤ 70368744177664 := by omega
  have hg2_ : gr.length + 2 + ct.length ≤ 70368744177664 := by omega
  have h3_ : 3 + ct.length ≤ 70368744177664 := by omega
  have hg3_ : gr.length + 3 + ct.length ≤ 70368744177664 := by omega
  have h4_ : 4 + ct.length ≤ 70368744177664 := by omega
  have hg4_ : gr.length + 4 + ct.length ≤ 70368744177664 := by omega
  have h5_ : 5 + ct.length ≤ 70368744177664 := by omega
  have hg5_ : gr.length + 5 + ct.length ≤ 70368744177664 := by omega
  have hh2_ : gr.length + 1 + 1 + ct.length ≤ 70368744177664 := by omega
  have hh3_ : gr.length + 1 + 1 + 1 + ct.length ≤ 70368744177664 := by omega
  have hh4_ : gr.length + 1 + 1 + 1 + 1 + ct.length ≤ 70368744177664 := by omega
  have hh5_ : gr.length + 1 + 1 + 1 + 1 + 1 + ct.length ≤ 70368744177664 := by omega
  have j2_ : (ct.length + 1 + 1 = 2 + ct.length) = True := eq_true (by omega)
  have j3_ : (ct.length + 1 + 1 + 1 = 3 + ct.length) = True := eq_true (by omega)
  have j4_ : (ct.length + 1 + 1 + 1 + 1 = 4 + ct.length) = True := eq_true (by omega)
  have k1_ : (gr.length + (ct.length + 1) + 1 = gr.length + 1 + 1 + ct.length) = True := eq_true (by omega)
  have k2_ : (gr.length + (ct.length + 1 + 1) + 1 = gr.length + 1 + 1 + 1 + ct.length) = True := eq_true (by omega)
  have k3_ : (gr.length + (ct.length + 1 + 1 + 1) + 1 = gr.length + 1 + 1 + 2 + ct.length) = True := eq_true (by omega)
  have k4_ : (gr.length + (ct.length + 1 + 1 + 1) + 1 = gr.length + 1 + 1 + 1 + 1 + ct.length) = True := eq_true (by omega)
  have k5_ : gr.length + 1 + 1 + 2 + ct.length ≤ 70368744177664 := by omega
  have k6_ : gr.length + 1 + 1 + 3 + ct.length ≤ 70368744177664 := by omega
  have k7_ : (gr.length + 1 + 1 + 2 ≤ 70368744177664) = True := eq_true (by omega)
  have y0 : (0 : Int) ≤ ct.length := by omega
  have le1 : ct.length < 128 → lenO (ct.length : Int) = [(ct.length : Int)] := fun h => by unfold lenO; rw [if_pos (by omega)]
  have le2 : ¬ ct.length < 128 → ct.length < 256 → lenO (ct.length : Int) = [129, (ct.length : Int)] := fun h h' => by unfold lenO; rw [if_neg (by omega), if_pos (by omega)]
  have le3 : ¬ ct.length < 256 → lenO (ct.length : Int) = [130, (ct.length : Int) / 256, (ct.length : Int) % 256] := fun h => by unfold lenO; rw [if_neg (by omega), if_neg (by omega), if_pos (by omega)]
  have n1 : ct.length < 128 → ((ct.length : Int) < 128) = True := fun h => eq_true (by omega)
  have n2 : ¬ ct.length < 128 → ((ct.length : Int) < 128) = False := fun h => eq_false (by omega)
  have n3 : ct.length < 256 → (ct.length : Int) % 256 = ct.length := fun h => by omega
  have n4 : (ct.length : Int).tmod 256 = (ct.length : Int) % 256 := Int.tmod_eq_emod_of_nonneg (by omega)
  have n5 : (ct.length : Int).tdiv 256 = (ct.length : Int) / 256 := Int.tdiv_eq_ediv_of_nonneg (by omega)
  have n6 : (ct.length : Int) % 256 % 256 = (ct.length : Int) % 256 := by omega
  have n7 : ct.length < 256 → (ct.length : Int) / 256 = 0 := fun h => by omega
  have n8 : ¬ ct.length < 256 → (0 < (ct.length : Int) / 256) = True := fun h => eq_true (by omega)
  have n9 : ((ct.length : Int) / 256).tmod 256 = (ct.length : Int) / 256 := by rw [Int.tmod_eq_emod_of_nonneg (by omega)]; omega
  have n10 : ((ct.length : Int) / 256).tdiv 256 = 0 := by rw [Int.tdiv_eq_ediv_of_nonneg (by omega)]; omega
  have n11 : (ct.length : Int) / 256 % 256 = (ct.length : Int) / 256 := by omega
  have n12 := w64' ((ct.length : Int) / 256) (by omega) (by omega)
  have n13 := w64' ((ct.length : Int) % 256) (by omega) (by omega)
  have n14 : ct ≠ [] → (0 < ct.length) = True := fun h => eq_true (List.length_pos_iff.2 h)
  have hk : e.k = false := by cases q : e.k; rfl; exact absurd (v2 q) hb
  have cte : e.b = ct := by rw [← hct, hs]; simp [El.cores, encs]
  have L := byt (K' + 4) (by omega) e hs
  rw [cte] at L
  have hc : ct ≠ [] := fun q => hb (by rw [cte, q])
  simp [LpE, bE, lp, lps, c84, firstReg, SR, ec, cte, hk] at L
  have h31' : ¬ 31 ≤ e.n := by omega
  rw [tgl h31, hk]
  by_cases h1 : ct.length < 128
  · rw [le1 h1]
    simp [El.av_eq, ↓s_seq, ↓s_reg, ↓s_cond, ↓s_block, ↓s_cons, s_nil, s_loop, firstReg, s_val, s_rgx, s_sqn, s_cdb, s_bke, s_ret', s_skip', s_finr, s_fin1, s_fix, s_clean, o_tmp, o_int, o_nil, l_hit, l_miss, ol_nil, ol_cons, ol_some, x_move, x_assign, x_bin, bn_s, x_callB, x_conv, cvx, convA, frame0, binA, intOp, resL, resA, results1, AV.pure, AV.pureL, keepT, x_box, bxx, x_buildSlice, bsx, x_load, ldx, x_fieldAddr, newK, genOf, setK, lookK, fillA, writeL, writeC, readC, conts, TyI.mk1, fieldAddrA, appendA, copyA, builtinA, AV.cells, gcH, reach, keysT, keepK, inKs, AV.keys, AV.keysL, Ty.isAgg, w_u8, sc_int, sc_bool, sc_sl, sc_mem, bs_pure, bs_kl, bs_length, bs_cells, bs_all, sl_row, sealRow, sealY, bs_cons, cte, hk, L, b0, b1, m1, h31, h31', h1, n1, n3 (by omega), bs_kl, bs_pure, hc, d0, h2_, j2_]
  by_cases h2 : ct.length < 256
  · rw [le2 h1 h2]
    simp [El.av_eq, ↓s_seq, ↓s_reg, ↓s_cond, ↓s_block, ↓s_cons, s_nil, s_loop, firstReg, s_val, s_rgx, s_sqn, s_cdb, s_bke, s_skip', s_clean, o_tmp, o_int, o_nil, l_hit, l_miss, ol_nil, ol_cons, ol_some, x_move, x_assign, x_bin, bn_s, x_callB, x_conv, cvx, convA, frame0, binA, intOp, keepT, x_box, bxx, x_buildSlice, bsx, x_load, ldx, x_fieldAddr, newK, genOf, setK, lookK, fillA, writeL, writeC, readC, conts, TyI.mk1, fieldAddrA, appendA, copyA, builtinA, AV.cells, gcH, reach, keysT, keepK, inKs, AV.keys, AV.keysL, Ty.isAgg, w_u8, sc_int, sc_bool, sc_sl, sc_mem, bs_kl, bs_length, bs_cells, bs_cons, cte, hk, L, b0, b1, m1, h31, h31', h1, n2, bs_kl, hc, d0]
    simp [↓s_seq, ↓s_reg, ↓s_cond, ↓s_block, ↓s_cons, s_nil, s_round, s_lpn, s_lpe, s_val, s_rgx, s_sqn, s_sqe, s_cdb, s_bkn, s_bke, s_exit, s_ret', s_skip', s_finr, s_fin1, s_fix, s_clean, o_tmp, o_int, l_hit, l_miss, ol_nil, ol_cons, ol_some, x_move, x_assign, x_bin, bn_s, x_callB, x_conv, cvx, convA, binA, intOp, resL, resA, results1, AV.pure, AV.pureL, keepT, x_buildSlice, bsx, newK, genOf, setK, lookK, fillA, writeL, writeC, conts, appendA, copyA, builtinA, AV.cells, gcH, reach, keysT, keepK, inKs, AV.keys, AV.keysL, Ty.isAgg, w_u8, w_i64, w_tdiv, w_tmod, sc_int, sc_mem, bs_pure, bs_kl, bs_length, bs_all, sl_row, sealRow, sealY, n3 h2, n7 h2, n14, bs_kl, bs_pure, hc, h3_, j3_, w_i64]
  · rw [le3 h2]
    simp [El.av_eq, ↓s_seq, ↓s_reg, ↓s_cond, ↓s_block, ↓s_cons, s_nil, s_loop, firstReg, s_val, s_rgx, s_sqn, s_cdb, s_bke, s_skip', s_clean, o_tmp, o_int, o_nil, l_hit, l_miss, ol_nil, ol_cons, ol_some, x_move, x_assign, x_bin, bn_s, x_callB, x_conv, cvx, convA, frame0, binA, intOp, keepT, x_box, bxx, x_buildSlice, bsx, x_load, ldx, x_fieldAddr, newK, genOf, setK, lookK, fillA, writeL, writeC, readC, conts, TyI.mk1, fieldAddrA, appendA, copyA, builtinA, AV.cells, gcH, reach, keysT, keepK, inKs, AV.keys, AV.keysL, Ty.isAgg, w_u8, sc_int, sc_bool, sc_sl, sc_mem, bs_kl, bs_length, bs_cells, bs_cons, cte, hk, L, b0, b1, m1, h31, h31', h1, n2, bs_kl, hc, d0]
    simp [↓s_seq, ↓s_reg, ↓s_cond, ↓s_block, ↓s_cons, s_nil, s_round, s_lpn, s_lpe, s_val, s_rgx, s_sqn, s_sqe, s_cdb, s_bkn, s_bke, s_exit, s_ret', s_skip', s_finr, s_fin1, s_fix, s_clean, o_tmp, o_int, l_hit, l_miss, ol_nil, ol_cons, ol_some, x_move, x_assign, x_bin, bn_s, x_callB, x_conv, cvx, convA, binA, intOp, resL, resA, results1, AV.pure, AV.pureL, keepT, x_buildSlice, bsx, newK, genOf, setK, lookK, fillA, writeL, writeC, conts, appendA, copyA, builtinA, AV.cells, gcH, reach, keysT, keepK, inKs, AV.keys, AV.keysL, Ty.isAgg, w_u8, w_i64, w_tdiv, w_tmod, sc_int, sc_mem, bs_pure, bs_kl, bs_length, bs_all, sl_row, sealRow, sealY, h2, n6, n8, n9, n10, n11, n12, n14, bs_kl, bs_pure, hc, h4_, j4_, w_i64]
end F19
end
section
open Ab Go TabE Sp E34 F1 F4 F5 F17 F18
namespace F19
theorem pChi (e : El) (he : e.ok) (hv : vld e.core) (hl : (enc e.core).length ≤ 60000) (N : Nat) (hN : ∀ x ∈ e.s, Con E N 84 [x.av] (.sl false (bs (enc x.core)) none)) (hs : e.s = []) (hb : ¬ e.b = []) (h31 : ¬ e.n < 31) : ∃ N, Con E N 84 [e.av] (.sl false (bs (enc e.core)) none) := by
  obtain ⟨v1, v2, v3, v4⟩ := (vld_eq e).1 hv
  obtain ⟨t3, n3⟩ : e.c ≤ 3 ∧ e.n ≤ 268435455 := by
    have := v1; unfold tagE at this
    split at this
    · cases this
    · omega
  have tl := tagO_len e.c e.k e.n
  have el := enc_eq e
  obtain ⟨ct, hct⟩ : ∃ ct, e.b ++ encs (El.cores e.s) = ct := ⟨_, rfl⟩
  rw [hct] at el
  have lel : (enc e.core).length = (TG.tagO e.c e.k e.n).length + ((lenO (ct.length : Int)).length + ct.length) := by rw [el, List.length_append, List.length_append]
  have lct : ct.length = e.b.length + (encs (El.cores e.s)).length := by rw [← hct, List.length_append]
  obtain ⟨K, hK⟩ : ∃ K, N + e.s.length + 60 = K := ⟨_, rfl⟩
  obtain ⟨gc, G⟩ := dig e.n he.nb.1 (by omega)
  have G' := G K (by omega) 0
  refine ⟨K + 1, con_ofO E_fn84 (by simp [AV.pureL, El.av_pure]) (Nat.le_of_ble_eq_true rfl) rfl (g := []) ?_⟩
  rw [body_84, c84, el]
  have cc0 := he.cb.1
  have n0 := he.nb.1
  obtain ⟨K', rfl⟩ : ∃ K', K = K' + 4 := ⟨K - 4, by omega⟩
  have tgl : e.n < 31 → TG.tagO e.c e.k e.n = [64 * e.c + (if e.k then 32 else 0) + e.n] := fun h => by unfold TG.tagO; rw [if_pos h]
  have tgh : ¬ e.n < 31 → TG.tagO e.c e.k e.n = (64 * e.c + (if e.k then 32 else 0) + 31) :: TG.grp e.n := fun h => by unfold TG.tagO; rw [if_neg h]
  have gl := tagO_len e.c e.k e.n
  have m0 : 31 ≤ e.n → (if 31 < e.n then (31 : Int) else e.n) = 31 := fun h => by split <;> omega
  have m1 : e.n < 31 → (e.c * 64 + e.n) % 256 = 64 * e.c + e.n := fun h => by omega
  have m2 : e.n < 31 → (e.c * 64 + 32 + e.n) % 256 = 64 * e.c + 32 + e.n := fun h => by omega
  have m3 : (e.c * 64 + 31) % 256 = 64 * e.c + 31 := by omega
  have m4 : (e.c * 64 + 32 + 31) % 256 = 64 * e.c + 32 + 31 := by omega
  have b0 : ¬ 31 ≤ e.n → ¬ 31 < e.n := fun h => by omega
  have b1 : ¬ 31 ≤ e.n → ¬ 30 < e.n := fun h => by omega
  have b2 : 31 ≤ e.n → 30 < e.n := fun h => by omega
  have g0 : TG.grp e.n ≠ [] ∧ (TG.grp e.n).length ≤ 4 := by unfold TG.grp; split <;> simp
  obtain ⟨gr, hgr⟩ : ∃ gr, TG.grp e.n = gr := ⟨_, rfl⟩
  rw [hgr] at G' tgh g0
  obtain ⟨g0, g4⟩ := g0
  have g1 : 0 < gr.length := List.length_pos_iff.2 g0
  have e0 : gr.length ≤ 70368744177664 := by omega
  have d0 : ct.length ≤ 70368744177664 := by omega
  have gc0 : gr.length + ct.length ≤ 70368744177664 := by omega
  have e1 : gr.length ≤ 70368744177663 := by omega
  have c1 : ct.length ≤ 70368744177663 := by omega
  have gc1 : gr.length + ct.length ≤ 70368744177663 := by omega
  have e2 : gr.length ≤ 70368744177662 := by omega
  have c2 : ct.length ≤ 70368744177662 := by omega
  have gc2 : gr.length + ct.length ≤ 70368744177662 := by omega
  have e3 : gr.length ≤ 70368744177661 := by omega
  have c3 : ct.length ≤ 70368744177661 := by omega
  have gc3 : gr.length + ct.length ≤ 70368744177661 := by omega
  have e4 : gr.length ≤ 70368744177660 := by omega
  have c4 : ct.length ≤ 70368744177660 := by omega
  have gc4 : gr.length + ct.length ≤ 70368744177660 := by omega
  have e5 : gr.length ≤ 70368744177659 := by omega
  have c5 : ct.length ≤ 70368744177659 := by omega
  have gc5 : gr.length + ct.length ≤ 70368744177659 := by omega
  have e6 : gr.length ≤ 70368744177658 := by omega
  have c6 : ct.length ≤ 70368744177658 := by omega
  have gc6 : gr.length + ct.length ≤ 70368744177658 := by omega
  have f1 : ¬ (1 + gr.length ≤ 1) := by omega
  have f2 : 1 + gr.length ≤ 70368744177664 := by omega
  have f3 : 1 + (gr.length + 1) ≤ 70368744177664 := by omega
  have f4 : 1 + (gr.length + (1 + ct.length)) ≤ 70368744177664 := by omega
  have f5 : 2 + ct.length ≤ 70368744177664 := by omega
  have f6 : e.b.length ≤ 70368744177664 := by omega
  have f7 : ct.length ≤ 70368744177664 := by omega
  have pl : ∀ (l : List Int) (x : Int), AV.pureL (bs l ++ [AV.int .u8 x]) = true := fun l x => by rw [show bs l ++ [AV.int .u8 x] = bs (l ++ [x]) from (bs_append l [x]).symm]; exact bs_pure _
  have h1_ : 1 + ct.length ≤ 70368744177664 := by omega
  have hg1_ : gr.length + 1 + ct.length ≤ 70368744177664 := by omega
  have h2_ : 2 + ct.length ≤ 70368744177664 := by omega
  have hg2_ : gr.length + 2 + ct.length ≤ 70368744177664 := by omega
  have h3_ : 3 + ct.length ≤ 70368744177664 := by omega
  have hg3_ : gr.length + 3 + ct.length ≤ 70368744177664 := by omega
  have h4_ : 4 + ct.length ≤ 70368744177664 := by omega
  have hg4_ : gr.length + 4 + ct.length ≤ 70368744177664 := by omega
  have h5_ : 5 + ct.length ≤ 70368744177664 := by omega
  have hg5_ : gr.length + 5 + ct.length ≤ 70368744177664 := by omega
  have hh2_ : gr.length + 1 + 1 + ct.length ≤ 70368744177664 := by omega
  have hh3_ : gr.length + 1 + 1 + 1 + ct.length ≤ 70368744177664 := by omega
  have hh4_ : gr.length + 1 + 1 + 1 + 1 + ct.length ≤ 70368744177664 := by omega
  have hh5_ : gr.length + 1 + 1 + 1 + 1 + 1 + ct.length ≤ 70368744177664 := by omega
  have j2_ : (ct.length + 1 + 1 = 2 + ct.length) = True := eq_true (by omega)
  have j3_ : (ct.length + 1 + 1 + 1 = 3 + ct.length) = True := eq_true (by omega)
  have j4_ : (ct.length + 1 + 1 + 1 + 1 = 4 + ct.length) = True := eq_true (by omega)
  have k1_ : (gr.length + (ct.length + 1) + 1 = gr.length + 1 + 1 + ct.length) = True := eq_true (by omega)
  have k2_ : (gr.length + (ct.length + 1 + 1) + 1 = gr.length + 1 + 1 + 1 + ct.length) = True := eq_true (by omega)
  have k3_ : (gr.length + (ct.length + 1 + 1 + 1) + 1 = gr.length + 1 + 1 + 2 + ct.length) = True := eq_true (by omega)
  have k4_ : (gr.length + (ct.length + 1 + 1 + 1) + 1 = gr.length + 1 + 1 + 1 + 1 + ct.length) = True := eq_true (by omega)
  have k5_ : gr.length + 1 + 1 + 2 + ct.length ≤ 70368744177664 := by omega
  have k6_ : gr.length + 1 + 1 + 3 + ct.length ≤ 70368744177664 := by omega
  have k7_ : (gr.length + 1 + 1 + 2 ≤ 70368744177664) = True := eq_true (by omega)
  have y0 : (0 : Int) ≤ ct.length := by omega
  have le1 : ct.length < 128 → lenO (ct.length : Int) = [(ct.length : Int)] := fun h => by unfold lenO; rw [if_pos (by omega)]
  have le2 : ¬ ct.length < 128 → ct.length < 256 → lenO (ct.length : Int) = [129, (ct.length : Int)] := fun h h' => by unfold lenO; rw [if_neg (by omega), if_pos (by omega)]
  have le3 : ¬ ct.length < 256 → lenO (ct.length : Int) = [130, (ct.length : Int) / 256, (ct.length : Int) % 256] := fun h => by unfold lenO; rw [if_neg (by omega), if_neg (by omega), if_pos (by omega)]
  have n1 : ct.length < 128 → ((ct.length : Int) < 128) = True := fun h => eq_true (by omega)
  have n2 : ¬ ct.length < 128 → ((ct.length : Int) < 128) = False := fun h => eq_false (by omega)
  have n3 : ct.length < 256 → (ct.length : Int) % 256 = ct.length := fun h => by omega
  have n4 : (ct.length : Int).tmod 256 = (ct.length : Int) % 256 := Int.tmod_eq_emod_of_nonneg (by omega)
  have n5 : (ct.length : Int).tdiv 256 = (ct.length : Int) / 256 := Int.tdiv_eq_ediv_of_nonneg (by omega)
  have n6 : (ct.length : Int) % 256 % 256 = (ct.length : Int) % 256 := by omega
  have n7 : ct.length < 256 → (ct.length : Int) / 256 = 0 := fun h => by omega
  have n8 : ¬ ct.length < 256 → (0 < (ct.length : Int) / 256) = True := fun h => eq_true (by omega)
  have n9 : ((ct.length : Int) / 256).tmod 256 = (ct.length : Int) / 256 := by rw [Int.tmod_eq_emod_of_nonneg (by omega)]; omega
  have n10 : ((ct.length : Int) / 256).tdiv 256 = 0 := by rw [Int.tdiv_eq_ediv_of_nonneg (by omega)]; omega
  have n11 : (ct.length : Int) / 256 % 256 = (ct.length : Int) / 256 := by omega
  have n12 := w64' ((ct.length : Int) / 256) (by omega) (by omega)
  have n13 := w64' ((ct.length : Int) % 256) (by omega) (by omega)
  have n14 : ct ≠ [] → (0 < ct.length) = True := fun h => eq_true (List.length_pos_iff.2 h)
  have hk : e.k = false := by cases q : e.k; rfl; exact absurd (v2 q) hb
  have cte : e.b = ct := by rw [← hct, hs]; simp [El.cores, encs]
  have L := byt (K' + 4) (by omega) e hs
  rw [cte] at L
  have hc : ct ≠ [] := fun q => hb (by rw [cte, q])
  simp [LpE, bE, lp, lps, c84, firstReg, SR, ec, cte, hk] at L
  have h31' : 31 ≤ e.n := by omega
  rw [tgh h31, hk]
  by_cases h1 : ct.length < 128
  · rw [le1 h1]
    simp [El.av_eq, ↓s_seq, ↓s_reg, ↓s_cond, ↓s_block, ↓s_cons, s_nil, s_loop, firstReg, s_val, s_cax, s_ret, s_rgx, s_sqn, s_cdb, s_bke, s_ret', s_skip', s_finr, s_fin1, s_fix, s_clean, o_tmp, o_int, o_nil, l_hit, l_miss, ol_nil, ol_cons, ol_some, x_move, x_assign, x_bin, bn_s, x_callF, cl_no, x_callB, x_conv, cvx, convA, frame0, binA, intOp, resL, resA, results1, sealLW, AV.pure, AV.pureL, keepT, x_box, bxx, x_buildSlice, bsx, x_load, ldx, x_fieldAddr, newK, genOf, setK, lookK, fillA, writeL, writeC, readC, conts, TyI.mk1, fieldAddrA, appendA, copyA, builtinA, AV.cells, gcH, reach, keysT, keepK, inKs, AV.keys, AV.keysL, Ty.isAgg, w_u8, sc_int, sc_bool, sc_sl, sc_mem, bs_pure, bs_kl, bs_length, bs_cells, bs_all, sl_row, sealRow, sealY, sl_int, nat_1, bs_cons, s_site, s_stxN, cte, hk, L, m0, b2, m3, h31', G', g0, e1, e2, h1, n1, n3 (by omega), El.keysL_app, bs_kl, bs_append, Rw.pureL_app, bs_pure, hc, d0, hg2_, k1_]
  by_cases h2 : ct.length < 256
  · rw [le2 h1 h2]
    simp [El.av_eq, ↓s_seq, ↓s_reg, ↓s_cond, ↓s_block, ↓s_cons, s_nil, s_loop, firstReg, s_val, s_cax, s_ret, s_rgx, s_sqn, s_cdb, s_bke, s_skip', s_clean, o_tmp, o_int, o_nil, l_hit, l_miss, ol_nil, ol_cons, ol_some, x_move, x_assign, x_bin, bn_s, x_callF, cl_no, x_callB, x_conv, cvx, convA, frame0, binA, intOp, sealLW, AV.pure, AV.pureL, keepT, x_box, bxx, x_buildSlice, bsx, x_load, ldx, x_fieldAddr, newK, genOf, setK, lookK, fillA, writeL, writeC, readC, conts, TyI.mk1, fieldAddrA, appendA, copyA, builtinA, AV.cells, gcH, reach, keysT, keepK, inKs, AV.keys, AV.keysL, Ty.isAgg, w_u8, sc_int, sc_bool, sc_sl, sc_mem, bs_kl, bs_length, bs_cells, sl_int, nat_1, bs_cons, s_site, s_stxN, cte, hk, L, m0, b2, m3, h31', G', g0, e1, h1, n2, bs_kl, bs_append, hc, d0]
    simp [↓s_seq, ↓s_reg, ↓s_cond, ↓s_block, ↓s_cons, s_nil, s_round, s_lpn, s_lpe, s_val, s_rgx, s_sqn, s_sqe, s_cdb, s_bkn, s_bke, s_exit, s_ret', s_skip', s_finr, s_fin1, s_fix, s_clean, o_tmp, o_int, l_hit, l_miss, ol_nil, ol_cons, ol_some, x_move, x_assign, x_bin, bn_s, x_callB, x_conv, cvx, convA, binA, intOp, resL, resA, results1, AV.pure, AV.pureL, keepT, x_buildSlice, bsx, newK, genOf, setK, lookK, fillA, writeL, writeC, conts, appendA, copyA, builtinA, AV.cells, gcH, reach, keysT, keepK, inKs, AV.keys, AV.keysL, Ty.isAgg, w_u8, w_i64, w_tdiv, w_tmod, sc_int, sc_mem, bs_pure, bs_kl, bs_length, bs_all, sl_row, sealRow, sealY, e2, e3, n3 h2, n7 h2, n14, El.keysL_app, bs_kl, Rw.pureL_app, bs_pure, hc, hg3_, k2_, w_i64]
  · rw [le3 h2]
    simp [El.av_eq, ↓s_seq, ↓s_reg, ↓s_cond, ↓s_block, ↓s_cons, s_nil, s_loop, firstReg, s_val, s_cax, s_ret, s_rgx, s_sqn, s_cdb, s_bke, s_skip', s_clean, o_tmp, o_int, o_nil, l_hit, l_miss, ol_nil, ol_cons, ol_some, x_move, x_assign, x_bin, bn_s, x_callF, cl_no, x_callB, x_conv, cvx, convA, frame0, binA, intOp, sealLW, AV.pure, AV.pureL, keepT, x_box, bxx, x_buildSlice, bsx, x_load, ldx, x_fieldAddr, newK, genOf, setK, lookK, fillA, writeL, writeC, readC, conts, TyI.mk1, fieldAddrA, appendA, copyA, builtinA, AV.cells, gcH, reach, keysT, keepK, inKs, AV.keys, AV.keysL, Ty.isAgg, w_u8, sc_int, sc_bool, sc_sl, sc_mem, bs_kl, bs_length, bs_cells, sl_int, nat_1, bs_cons, s_site, s_stxN, cte, hk, L, m0, b2, m3, h31', G', g0, e1, h1, n2, bs_kl, bs_append, hc, d0]
    simp [↓s_seq, ↓s_reg, ↓s_cond, ↓s_block, ↓s_cons, s_nil, s_round, s_lpn, s_lpe, s_val, s_rgx, s_sqn, s_sqe, s_cdb, s_bkn, s_bke, s_exit, s_ret', s_skip', s_finr, s_fin1, s_fix, s_clean, o_tmp, o_int, l_hit, l_miss, ol_nil, ol_cons, ol_some, x_move, x_assign, x_bin, bn_s, x_callB, x_conv, cvx, convA, binA, intOp, resL, resA, results1, AV.pure, AV.pureL, keepT, x_buildSlice, bsx, newK, genOf, setK, lookK, fillA, writeL, writeC, conts, appendA, copyA, builtinA, AV.cells, gcH, reach, keysT, keepK, inKs, AV.keys, AV.keysL, Ty.isAgg, w_u8, w_i64, w_tdiv, w_tmod, sc_int, sc_mem, bs_pure, bs_kl, bs_length, bs_all, sl_row, sealRow, sealY, e2, e4, h2, n6, n8, n9, n10, n11, n12, n14, El.keysL_app, bs_kl, Rw.pureL_app, bs_pure, hc, hg4_, k3_, w_i64]
end F19
end
section
open Ab Go TabE Sp E34 F1 F4 F5 F17 F18
namespace F19
theorem pA (e : El) (he : e.ok) (hv : vld e.core) (hl : (enc e.core).length ≤ 60000) (N : Nat) (hN : ∀ x ∈ e.s, Con E N 84 [x.av] (.sl false (bs (enc x.core)) none)) (hs : e.s = []) (hb : e.b = []) : ∃ N, Con E N 84 [e.av] (.sl false (bs (enc e.core)) none) := by
  obtain ⟨v1, v2, v3, v4⟩ := (vld_eq e).1 hv
  obtain ⟨t3, n3⟩ : e.c ≤ 3 ∧ e.n ≤ 268435455 := by
    have := v1; unfold tagE at this
    split at this
    · cases this
    · omega
  have tl := tagO_len e.c e.k e.n
  have el := enc_eq e
  obtain ⟨ct, hct⟩ : ∃ ct, e.b ++ encs (El.cores e.s) = ct := ⟨_, rfl⟩
  rw [hct] at el
  have lel : (enc e.core).length = (TG.tagO e.c e.k e.n).length + ((lenO (ct.length : Int)).length + ct.length) := by rw [el, List.length_append, List.length_append]
  have lct : ct.length = e.b.length + (encs (El.cores e.s)).length := by rw [← hct, List.length_append]
  obtain ⟨K, hK⟩ : ∃ K, N + e.s.length + 60 = K := ⟨_, rfl⟩
  obtain ⟨gc, G⟩ := dig e.n he.nb.1 (by omega)
  have G' := G K (by omega) 0
  refine ⟨K + 1, con_ofO E_fn84 (by simp [AV.pureL, El.av_pure]) (Nat.le_of_ble_eq_true rfl) rfl (g := []) ?_⟩
  rw [body_84, c84, el]
  have cc0 := he.cb.1
  have n0 := he.nb.1
  obtain ⟨K', rfl⟩ : ∃ K', K = K' + 4 := ⟨K - 4, by omega⟩
  have tgl : e.n < 31 → TG.tagO e.c e.k e.n = [64 * e.c + (if e.k then 32 else 0) + e.n] := fun h => by unfold TG.tagO; rw [if_pos h]
  have tgh : ¬ e.n < 31 → TG.tagO e.c e.k e.n = (64 * e.c + (if e.k then 32 else 0) + 31) :: TG.grp e.n := fun h => by unfold TG.tagO; rw [if_neg h]
  have gl := tagO_len e.c e.k e.n
  have m0 : 31 ≤ e.n → (if 31 < e.n then (31 : Int) else e.n) = 31 := fun h => by split <;> omega
  have m1 : e.n < 31 → (e.c * 64 + e.n) % 256 = 64 * e.c + e.n := fun h => by omega
  have m2 : e.n < 31 → (e.c * 64 + 32 + e.n) % 256 = 64 * e.c + 32 + e.n := fun h => by omega
  have m3 : (e.c * 64 + 31) % 256 = 64 * e.c + 31 := by omega
  have m4 : (e.c * 64 + 32 + 31) % 256 = 64 * e.c + 32 + 31 := by omega
  have b0 : ¬ 31 ≤ e.n → ¬ 31 < e.n := fun h => by omega
  have b1 : ¬ 31 ≤ e.n → ¬ 30 < e.n := fun h => by omega
  have b2 : 31 ≤ e.n → 30 < e.n := fun h => by omega
  have g0 : TG.grp e.n ≠ [] ∧ (TG.grp e.n).length ≤ 4 := by unfold TG.grp; split <;> simp
  obtain ⟨gr, hgr⟩ : ∃ gr, TG.grp e.n = gr := ⟨_, rfl⟩
  rw [hgr] at G' tgh g0
  obtain ⟨g0, g4⟩ := g0
  have g1 : 0 < gr.length := List.length_pos_iff.2 g0
  have e0 : gr.length ≤ 70368744177664 := by omega
  have d0 : ct.length ≤ 70368744177664 := by omega
  have gc0 : gr.length + ct.length ≤ 70368744177664 := by omega
  have e1 : gr.length ≤ 70368744177663 := by omega
  have c1 : ct.length ≤ 70368744177663 := by omega
  have gc1 : gr.length + ct.length ≤ 70368744177663 := by omega
  have e2 : gr.length ≤ 70368744177662 := by omega
  have c2 : ct.length ≤ 70368744177662 := by omega
  have gc2 : gr.length + ct.length ≤ 70368744177662 := by omega
  have e3 : gr.length ≤ 70368744177661 := by omega
  have c3 : ct.length ≤ 70368744177661 := by omega
  have gc3 : gr.length + ct.length ≤ 70368744177661 := by omega
  have e4 : gr.length ≤ 70368744177660 := by omega
  have c4 : ct.length ≤ 70368744177660 := by omega
  have gc4 : gr.length + ct.length ≤ 70368744177660 := by omega
  have e5 : gr.length ≤ 70368744177659 := by omega
  have c5 : ct.length ≤ 70368744177659 := by omega
  have gc5 : gr.length + ct.length ≤ 70368744177659 := by omega
  have e6 : gr.length ≤ 70368744177658 := by omega
  have c6 : ct.length ≤ 70368744177658 := by omega
  have gc6 : gr.length + ct.length ≤ 70368744177658 := by omega
  have f1 : ¬ (1 + gr.length ≤ 1) := by omega
  have f2 : 1 + gr.length ≤ 70368744177664 := by omega
  have f3 : 1 + (gr.length + 1) ≤ 70368744177664 := by omega
  have f4 : 1 + (gr.length + (1 + ct.length)) ≤ 70368744177664 := by omega
  have f5 : 2 + ct.length ≤ 70368744177664 := by omega
  have f6 : e.b.length ≤ 70368744177664 := by omega
  have f7 : ct.length ≤ 70368744177664 := by omega
  have pl : ∀ (l : List Int) (x : Int), AV.pureL (bs l ++ [AV.int .u8 x]) = true := fun l x => by rw [show bs l ++ [AV.int .u8 x] = bs (l ++ [x]) from (bs_append l [x]).symm]; exact bs_pure _
  have h1_ : 1 + ct.length ≤ 70368744177664 := by omega
  have hg1_ : gr.length + 1 + ct.length ≤ 70368744177664 := by omega
  have h2_ : 2 + ct.length ≤ 70368744177664 := by omega
  have hg2_ : gr.length + 2 + ct.length ≤ 70368744177664 := by omega
  have h3_ : 3 + ct.length ≤ 70368744177664 := by omega
  have hg3_ : gr.length + 3 + ct.length ≤ 70368744177664 := by omega
  have h4_ : 4 + ct.length ≤ 70368744177664 := by omega
  have hg4_ : gr.length + 4 + ct.length ≤ 70368744177664 := by omega
  have h5_ : 5 + ct.length ≤ 70368744177664 := by omega
  have hg5_ : gr.length + 5 + ct.length ≤ 70368744177664 := by omega
  have hh2_ : gr.length + 1 + 1 + ct.length ≤ 70368744177664 := by omega
  have hh3_ : gr.length + 1 + 1 + 1 + ct.length ≤ 70368744177664 := by omega
  have hh4_ : gr.length + 1 + 1 + 1 + 1 + ct.length ≤ 70368744177664 := by omega
  have hh5_ : gr.length + 1 + 1 + 1 + 1 + 1 + ct.length ≤ 70368744177664 := by omega
  have j2_ : (ct.length + 1 + 1 = 2 + ct.length) = True := eq_true (by omega)
  have j3_ : (ct.length + 1 + 1 + 1 = 3 + ct.length) = True := eq_true (by omega)
  have j4_ : (ct.length + 1 + 1 + 1 + 1 = 4 + ct.length) = True := eq_true (by omega)
  have k1_ : (gr.length + (ct.length + 1) + 1 = gr.length + 1 + 1 + ct.length) = True := eq_true (by omega)
  have k2_ : (gr.length + (ct.length + 1 + 1) + 1 = gr.length + 1 + 1 + 1 + ct.length) = True := eq_true (by omega)
  have k3_ : (gr.length + (ct.length + 1 + 1 + 1) + 1 = gr.length + 1 + 1 + 2 + ct.length) = True := eq_true (by omega)
  have k4_ : (gr.length + (ct.length + 1 + 1 + 1) + 1 = gr.length + 1 + 1 + 1 + 1 + ct.length) = True := eq_true (by omega)
  have k5_ : gr.length + 1 + 1 + 2 + ct.length ≤ 70368744177664 := by omega
  have k6_ : gr.length + 1 + 1 + 3 + ct.length ≤ 70368744177664 := by omega
  have k7_ : (gr.length + 1 + 1 + 2 ≤ 70368744177664) = True := eq_true (by omega)
  have y0 : (0 : Int) ≤ ct.length := by omega
  have le1 : ct.length < 128 → lenO (ct.length : Int) = [(ct.length : Int)] := fun h => by unfold lenO; rw [if_pos (by omega)]
  have le2 : ¬ ct.length < 128 → ct.length < 256 → lenO (ct.length : Int) = [129, (ct.length : Int)] := fun h h' => by unfold lenO; rw [if_neg (by omega), if_pos (by omega)]
  have le3 : ¬ ct.length < 256 → lenO (ct.length : Int) = [130, (ct.length : Int) / 256, (ct.length : Int) % 256] := fun h => by unfold lenO; rw [if_neg (by omega), if_neg (by omega), if_pos (by omega)]
  have n1 : ct.length < 128 → ((ct.length : Int) < 128) = True := fun h => eq_true (by omega)
  have n2 : ¬ ct.length < 128 → ((ct.length : Int) < 128) = False := fun h => eq_false (by omega)
  have n3 : ct.length < 256 → (ct.length : Int) % 256 = ct.length := fun h => by omega
  have n4 : (ct.length : Int).tmod 256 = (ct.length : Int) % 256 := Int.tmod_eq_emod_of_nonneg (by omega)
  have n5 : (ct.length : Int).tdiv 256 = (ct.length : Int) / 256 := Int.tdiv_eq_ediv_of_nonneg (by omega)
  have n6 : (ct.length : Int) % 256 % 256 = (ct.length : Int) % 256 := by omega
  have n7 : ct.length < 256 → (ct.length : Int) / 256 = 0 := fun h => by omega
  have n8 : ¬ ct.length < 256 → (0 < (ct.length : Int) / 256) = True := fun h => eq_true (by omega)
  have n9 : ((ct.length : Int) / 256).tmod 256 = (ct.length : Int) / 256 := by rw [Int.tmod_eq_emod_of_nonneg (by omega)]; omega
  have n10 : ((ct.length : Int) / 256).tdiv 256 = 0 := by rw [Int.tdiv_eq_ediv_of_nonneg (by omega)]; omega
  have n11 : (ct.length : Int) / 256 % 256 = (ct.length : Int) / 256 := by omega
  have n12 := w64' ((ct.length : Int) / 256) (by omega) (by omega)
  have n13 := w64' ((ct.length : Int) % 256) (by omega) (by omega)
  have n14 : ct ≠ [] → (0 < ct.length) = True := fun h => eq_true (List.length_pos_iff.2 h)
  have L := emp (K' + 4) (by omega) e hs
  have cte : ct = [] := by rw [← hct, hb, hs]; rfl
  subst cte
  have lo : lenO (([] : List Int).length : Int) = [0] := rfl
  rw [lo]
  by_cases h31 : e.n < 31
  · have h31' : ¬ 31 ≤ e.n := by omega
    rw [tgl h31]
    cases hk : e.k
    all_goals
      simp [LpE, bE, lp, lps, c84, firstReg, S0, ec, hb, bs_nil, hk] at L
      simp [El.av_eq, ↓s_seq, ↓s_reg, ↓s_cond, ↓s_block, ↓s_cons, s_nil, s_loop, firstReg, s_val, s_rgx, s_sqn, s_cdb, s_bke, s_ret', s_skip', s_finr, s_fin1, s_fix, s_clean, o_tmp, o_int, o_nil, l_hit, l_miss, ol_nil, ol_cons, ol_some, x_move, x_assign, x_bin, bn_s, x_callB, x_conv, cvx, convA, frame0, binA, intOp, resL, resA, results1, AV.pure, AV.pureL, keepT, x_box, bxx, x_buildSlice, bsx, x_load, ldx, x_fieldAddr, newK, genOf, setK, lookK, fillA, writeL, writeC, readC, conts, TyI.mk1, fieldAddrA, appendA, copyA, builtinA, AV.cells, gcH, reach, keysT, keepK, inKs, AV.keys, AV.keysL, Ty.isAgg, w_u8, sc_int, sc_bool, sc_sl, sl_row, sealRow, sealY, bs_cons, bs_nil, hb, hk, L, b0, b1, m1, m2, h31, h31']
  · have h31' : 31 ≤ e.n := by omega
    rw [tgh h31]
    cases hk : e.k
    all_goals
      simp [LpE, bE, lp, lps, c84, firstReg, S0, ec, hb, bs_nil, hk] at L
      simp [El.av_eq, ↓s_seq, ↓s_reg, ↓s_cond, ↓s_block, ↓s_cons, s_nil, s_loop, firstReg, s_val, s_cax, s_ret, s_rgx, s_sqn, s_cdb, s_bke, s_ret', s_skip', s_finr, s_fin1, s_fix, s_clean, o_tmp, o_int, o_nil, l_hit, l_miss, ol_nil, ol_cons, ol_some, x_move, x_assign, x_bin, bn_s, x_callF, cl_no, x_callB, x_conv, cvx, convA, frame0, binA, intOp, resL, resA, results1, sealLW, AV.pure, AV.pureL, keepT, x_box, bxx, x_buildSlice, bsx, x_load, ldx, x_fieldAddr, newK, genOf, setK, lookK, fillA, writeL, writeC, readC, conts, TyI.mk1, fieldAddrA, appendA, copyA, builtinA, AV.cells, gcH, reach, keysT, keepK, inKs, AV.keys, AV.keysL, Ty.isAgg, w_u8, sc_int, sc_bool, sc_sl, sc_mem, bs_kl, bs_length, bs_cells, sl_row, sealRow, sealY, sl_int, nat_1, bs_cons, bs_nil, s_site, s_stxN, hb, hk, L, m0, b2, m3, m4, h31', G', e1, e2, g0, El.keysL_app, bs_kl, bs_append, pl]
end F19
end
section
open Ab Go TabE Sp E34 F1 F4 F5 F17 F18
namespace F19
theorem renc : ∀ e : El, e.ok → vld e.core → (enc e.core).length ≤ 60000 → ∃ N, Con E N 84 [e.av] (.sl false (bs (enc e.core)) none) := by
  refine El.ind fun e ih he hv hl => ?_
  obtain ⟨v1, v2, v3, v4⟩ := (vld_eq e).1 hv
  obtain ⟨t3, n3⟩ : e.c ≤ 3 ∧ e.n ≤ 268435455 := by
    have := v1; unfold tagE at this
    split at this
    · cases this
    · omega
  have tl := tagO_len e.c e.k e.n
  have el := enc_eq e
  obtain ⟨ct, hct⟩ : ∃ ct, e.b ++ encs (El.cores e.s) = ct := ⟨_, rfl⟩
  rw [hct] at el
  have lel : (enc e.core).length = (TG.tagO e.c e.k e.n).length + ((lenO (ct.length : Int)).length + ct.length) := by rw [el, List.length_append, List.length_append]
  have lct : ct.length = e.b.length + (encs (El.cores e.s)).length := by rw [← hct, List.length_append]
  have sub_le : ∀ l : List El, ∀ x ∈ l, (enc x.core).length ≤ (encs (El.cores l)).length := by
    intro l
    induction l with
    | nil => intro x hx; cases hx
    | cons y l ih =>
      intro x hx
      rw [El.cores, encs, List.length_append]
      rcases List.mem_cons.1 hx with rfl | hx
      · omega
      · have := ih x hx; omega
  obtain ⟨N, hN⟩ := unif (P := fun (x : El) (n : Nat) => Con E n 84 [x.av] (.sl false (bs (enc x.core)) none)) (fun x n m h hm => h.mono hm) e.s (fun x hx => ih x hx (he.sub x hx) (vlds_all.1 v4 x hx) (by have := sub_le _ x hx; omega))
  by_cases hs : e.s = []
  · by_cases hb : e.b = []
    · exact pA e he hv hl N hN hs hb
    · by_cases h31 : e.n < 31
      · exact pClo e he hv hl N hN hs hb h31
      · exact pChi e he hv hl N hN hs hb h31
  · by_cases h31 : e.n < 31
    · exact pBlo e he hv hl N hN hs h31
    · exact pBhi e he hv hl N hN hs h31
end F19
end
section
open Ab Go TabE
attribute [local simp ↓] s_seq s_reg s_regd s_cond s_block s_cons s_consG s_regD
attribute [local simp] s_nil s_loop s_round s_lpn s_lpe s_lpr firstReg s_gt s_gf s_wb s_wu s_val s_valN s_skip s_calls s_callP s_cax lookR flatR pureKs s_ret s_rgx s_sqn s_sqr s_sqe s_cdb s_bkn s_bkr s_bke s_exit s_ret' s_skip' s_finr s_finn s_fin1 s_fix s_clean s_gc0 o_tmp o_int o_bool o_nil o_str o_fn o_nil' l_hit l_miss l_nil ol_nil ol_cons ol_some x_move x_assign x_pick pk_t pk_f x_bin bn_s x_un x_extract x_callF cl_no x_callB x_callBF frzV x_conv cvx convA frame0 binA intOp resL resA results1 sealLW AV.pure AV.pureL keepT x_alloc x_box bxx x_build bdx x_buildSlice bsx x_buildSliceF bsf x_load ldx x_store stx x_slice slx x_fieldAddr x_field x_index ixx x_indexAddr iax x_makeSlice msx x_makeSliceF msf x_nilCheck newK genOf setK lookK fillA writeL writeC readC conts TyI.mk1 sliceA boundsA boundsB fitsA numA indexAddrA fieldAddrA partA fieldA indexA appendA copyA builtinA AV.cells chunk gcH reach keysT keepK inKs AV.keys AV.keysL Ty.isAgg eq1 eqL convA.go ltI w_u8 w_u32 w_u64 w_i64 w_fdiv w_tdiv w_tmod IntKind.bits unA sc_int sc_bool sc_str sc_sl sc_ref sc_ptr sc_pel sc_nilp sc_fn sc_nilf sc_if sc_nili sc_agg sc_tup sc_mem bs_pure bs_kl bs_length bs_cells bs_all sl_row sealRow sealY sl_int sl_bool sl_str sl_sl sl_nilp sl_nilf sl_nili sl_pel sl_agg sl_tup sl_fn sl_if nat_1 bs_cons bs_nil i_beq i_bne x_mkF x_mkI x_tassert x_panic s_pan s_sqp s_bkp s_finp s_fixp s_lpp s_rgp s_retp s_site s_stxN s_stxO x_callT clx El.avs_len s_dyn0 s_rgy barOf dynChk footL dynOK disjK keysOp opVals Op.operands
section
open Ab Go TabE Sp E34 F1 F4 F5 F23 F31 F36 F38 F39
namespace F40
abbrev LpR (K : Nat) := aLoop (aCode E (aCall E K) (dcall (aRun E K)) K 1 fn64 bR) (cleanS 1 ((firstReg bR).bind fn64.head))
abbrev OutR (f : Bool) (ps : List Int) (c : Option Nat) (n : Int) (e : El) : AExit × St := (.exit 0, ⟨[(1, .sl f (ns ps) c), (2, .ptr (1, 2, 0) 0), (5, .int .i64 n), (6, .int .i64 (ps.length : Int)), (12, .bool false)], [((1, 2, 0), bx (ec e))]⟩)
theorem last (q k1 : Nat) (f ps c) (n : Int) (e : El) : rnd fn64 bR q k1 (F39.SR f ps c ps.length n e) = some (OutR f ps c n e) := by
  have ln := ns_len ps
  simp [bR, lp, lps, c64, ln]
theorem encs (e : El) (g : Gd e) : ∃ N, ∀ K, N ≤ K → (∃ c, ∀ h, aCall E K 0 84 [e.av] h = some (.ret (.sl false (bs (enc e.core)) c), h)) ∧ ∀ x ∈ e.s, ∃ c, ∀ h, aCall E K 0 84 [x.av] h = some (.ret (.sl false (bs (enc x.core)) c), h) := by
  obtain ⟨N1, h1⟩ := F19.renc e g.ok g.vld g.len
  obtain ⟨N2, h2⟩ := unif (P := fun (x : El) (n : Nat) => Con E n 84 [x.av] (.sl false (bs (enc x.core)) none)) (fun x n m h hm => h.mono hm) e.s (fun x hx => F19.renc x (g.sub hx).ok (g.sub hx).vld (g.sub hx).len)
  exact ⟨N1 + N2, fun K hK => ⟨⟨none, fun h => h1 K (by omega) 0 h⟩, fun x hx => ⟨none, fun h => h2 x hx K (by omega) 0 h⟩⟩⟩
theorem loop : ∀ (r : List Int) (e x : El), Gd e → E34.walk e r = some x → ∃ N, ∀ K, N ≤ K → ∀ (f : Bool) (ps : List Int) (c : Option Nat) (i k : Nat) (n : Int), ps.length ≤ 30 → ps.drop i = r → i ≤ ps.length → 0 ≤ n → n ≤ 60000 * i → r.length < k →
    LpR K k (F39.SR f ps c i n e) = some (OutR f ps c (n + ofs e r) x)
  | [], e, y, g, hw => ⟨0, fun K hK f ps c i k n lp' h1 hi n0 n1 hk => by
    obtain ⟨k, rfl⟩ : ∃ j, k = j + 1 := ⟨k - 1, by omega⟩
    have q := congrArg List.length h1
    rw [List.length_drop, List.length_nil] at q
    obtain rfl : i = ps.length := by omega
    have h := aLoop_end (k := k) (last K K f ps c n e) (fun h => by cases h)
    unfold E34.walk at hw
    cases hw
    unfold ofs
    simpa using h⟩
  | p :: r, e, y, g, hw => by
    have sl := g.sl
    unfold E34.walk at hw
    split at hw
    · cases hw
    rename_i p0
    split at hw
    case h_2 => cases hw
    rename_i x hx
    have hm : p.toNat < e.s.length := (List.getElem?_eq_some_iff.1 hx).1
    have gx := g.sub (List.mem_of_getElem? hx)
    obtain ⟨N1, h1⟩ := encs e g
    obtain ⟨N2, h2⟩ := loop r x y gx hw
    refine ⟨N1 + N2 + e.s.length + 20, fun K hK f ps c i k n lp' h1' hi n0 n1 hk => ?_⟩
    obtain ⟨k, rfl⟩ : ∃ j, k = j + 1 := ⟨k - 1, by omega⟩
    have hp : ps[i]? = some p := by
      have := congrArg (fun l => l[0]?) h1'
      simpa [List.getElem?_drop] using this
    have hd : ps.drop (i + 1) = r := by
      have := congrArg List.tail h1'
      simpa [List.tail_drop] using this
    have q := congrArg List.length h1'
    rw [List.length_drop, List.length_cons] at q
    have l1 := g.len
    have l2 := drop_le e.s p.toNat
    have l3 := encs_le e
    obtain ⟨⟨ca, c1⟩, c2⟩ := h1 K (by omega)
    have I := iloop K f ps c n i e (by omega) c2 (e.s.drop p.toNat) p.toNat K 0 rfl (by omega) (by omega) (by omega) (by rw [List.length_drop]; omega)
    rw [Int.zero_add] at I
    have pp : ((p.toNat : Nat) : Int) = p := Int.toNat_of_nonneg (by omega)
    have s := F39.go K f ps c i n e x p.toNat (by rw [pp]; exact hp) (by omega) (by omega) hx n0 (by omega) _ ca _ (by omega) (by omega) (by omega) c1 I
    unfold LpR
    rw [aLoop_succ s]
    have h := h2 K (by omega) f ps c (i + 1) k (n + (((enc e.core).length : Int) - (Sp.encs (El.cores (e.s.drop p.toNat))).length)) lp' hd (by omega) (by omega) (by push_cast; omega) (by simp at hk; omega)
    unfold LpR at h
    rw [h]
    have ho : ofs e (p :: r) = (((enc e.core).length : Int) - (Sp.encs (El.cores (e.s.drop p.toNat))).length) + ofs x r := by
      conv => lhs; unfold ofs
      rw [hx]
    rw [ho, Int.add_assoc]
theorem offset (e x : El) (g : Gd e) (f : Bool) (ps : List Int) (c : Option Nat) (lp' : ps.length ≤ 30) (hw : E34.walk e ps = some x) : ∃ N, Con E N 64 [e.av, .sl f (ns ps) c] (.int .i64 (ofs e ps)) := by
  obtain ⟨N1, h1⟩ := loop ps e x g hw
  obtain ⟨K, hK⟩ : ∃ K, N1 + 60 = K := ⟨_, rfl⟩
  have L := h1 K (by omega) f ps c 0 K 0 lp' rfl (by omega) (by omega) (by omega) (by omega)
  rw [Int.zero_add] at L
  have pn := ns_pure ps
  refine ⟨K + 1, con_of E_fn64 (by simp [AV.pureL, AV.pure, El.av_pure, pn]) (Nat.le_of_ble_eq_true rfl) rfl rfl (g := []) ?_⟩
  rw [body_64, c64]
  simp [LpR, bR, lp, lps, c64, firstReg, F39.SR, ec] at L
  simp [El.av_eq, -s_round, L]
end F40
end
section
open Ab Go TabE Sp E34 F1 F4 F5 F23 F36
namespace F41
theorem report (e : El) (f : Bool) (ps : List Int) (c : Option Nat) (o er w : Int) (hw : w ≠ 0) (N : Nat) (C : Con E N 63 [e.av, .sl f (ns ps) c] (.tup [.int .i64 o, .int .i64 er])) : Con E (N + 20) 54 [e.av, .agg [.sl f (ns ps) c, .int .i64 w]] (.tup [.int .i64 o, .int .i64 w]) := by
  obtain ⟨K, hK⟩ : ∃ K, N + 19 = K := ⟨_, rfl⟩
  rw [show N + 20 = K + 1 from by omega]
  have c1 := C K (by omega) 0
  have pn := ns_pure ps
  rw [El.av_eq] at c1
  refine con_of E_fn54 (by simp [AV.pureL, AV.pure, El.av_pure, pn]) (Nat.le_of_ble_eq_true rfl) rfl rfl (g := []) ?_
  rw [body_54, c54]
  simp [El.av_eq, c1, hw]
end F41
end
end
section
open Ab Go TabE Sp E34 F23 F36
namespace F42
theorem encs_split (l : List El) (p : Nat) (x : El) (hx : l[p]? = some x) : encs (El.cores l) = encs (El.cores (l.take p)) ++ (enc x.core ++ encs (El.cores (l.drop (p + 1)))) ∧ encs (El.cores (l.drop p)) = enc x.core ++ encs (El.cores (l.drop (p + 1))) := by
  induction l generalizing p with
  | nil => simp at hx
  | cons y r ih =>
    cases p with
    | zero =>
      obtain rfl : y = x := by simpa using hx
      simp [El.cores, encs]
    | succ p =>
      have h := ih p (by simpa using hx)
      refine ⟨?_, by simpa using h.2⟩
      rw [List.take_succ_cons, List.drop_succ_cons, El.cores, encs, El.cores, encs, h.1, List.append_assoc]
theorem stands : ∀ (ps : List Int) (e x : El), Gd e → E34.walk e ps = some x → ∃ pre post, enc e.core = pre ++ (enc x.core ++ post) ∧ (pre.length : Int) = ofs e ps
  | [], e, x, g, hw => by
    unfold E34.walk at hw; cases hw
    exact ⟨[], [], by simp, by simp [ofs]⟩
  | p :: r, e, x, g, hw => by
    unfold E34.walk at hw
    split at hw
    · cases hw
    rename_i p0
    split at hw
    case h_2 => cases hw
    rename_i y hy
    obtain ⟨pre, post, h1, h2⟩ := stands r y x (g.sub (List.mem_of_getElem? hy)) hw
    obtain ⟨s1, s2⟩ := encs_split e.s p.toNat y hy
    have he := enc_eq e
    obtain ⟨hd, hh⟩ : ∃ hd, enc e.core = hd ++ encs (El.cores e.s) := ⟨TG.tagO e.c e.k e.n ++ (lenO ((e.b ++ encs (El.cores e.s)).length : Int) ++ e.b), by rw [he]; simp [List.append_assoc]⟩
    refine ⟨hd ++ (encs (El.cores (e.s.take p.toNat)) ++ pre), post ++ encs (El.cores (e.s.drop (p.toNat + 1))), by rw [hh, s1, h1]; simp [List.append_assoc], ?_⟩
    unfold ofs
    rw [hy]
    simp only
    rw [← h2, s2, hh, s1]
    simp only [List.length_append]
    omega
end F42
end
section
open Ab Go TabE
attribute [local simp ↓] s_seq s_reg s_regd s_cond s_block s_cons s_consG s_regD
attribute [local simp] s_nil s_loop s_round s_lpn s_lpe s_lpr firstReg s_gt s_gf s_wb s_wu s_val s_valN s_skip s_calls s_callP s_cax lookR flatR pureKs s_ret s_rgx s_sqn s_sqr s_sqe s_cdb s_bkn s_bkr s_bke s_exit s_ret' s_skip' s_finr s_finn s_fin1 s_fix s_clean s_gc0 o_tmp o_int o_bool o_nil o_str o_fn o_nil' l_hit l_miss l_nil ol_nil ol_cons ol_some x_move x_assign x_pick pk_t pk_f x_bin bn_s x_un x_extract x_callF cl_no x_callB x_callBF frzV x_conv cvx convA frame0 binA intOp resL resA results1 sealLW AV.pure AV.pureL keepT x_alloc x_box bxx x_build bdx x_buildSlice bsx x_buildSliceF bsf x_load ldx x_store stx x_slice slx x_fieldAddr x_field x_index ixx x_indexAddr iax x_makeSlice msx x_makeSliceF msf x_nilCheck newK genOf setK lookK fillA writeL writeC readC conts TyI.mk1 sliceA boundsA boundsB fitsA numA indexAddrA fieldAddrA partA fieldA indexA appendA copyA builtinA AV.cells chunk gcH reach keysT keepK inKs AV.keys AV.keysL Ty.isAgg eq1 eqL convA.go ltI w_u8 w_u32 w_u64 w_i64 w_fdiv w_tdiv w_tmod IntKind.bits unA sc_int sc_bool sc_str sc_sl sc_ref sc_ptr sc_pel sc_nilp sc_fn sc_nilf sc_if sc_nili sc_agg sc_tup sc_mem bs_pure bs_kl bs_length bs_cells bs_all sl_row sealRow sealY sl_int sl_bool sl_str sl_sl sl_nilp sl_nilf sl_nili sl_pel sl_agg sl_tup sl_fn sl_if nat_1 bs_cons bs_nil i_beq i_bne x_mkF x_mkI x_tassert x_panic s_pan s_sqp s_bkp s_finp s_fixp s_lpp s_rgp s_retp s_site s_stxN s_stxO x_callT clx El.avs_len s_dyn0 s_rgy barOf dynChk footL dynOK disjK keysOp opVals Op.operands
section
open Ab Go TabE Sp E34 F1 F4 F5 F11 F23 F31 F32 F36 F43 F44 F45 F47 F48
namespace F49
theorem pth_len : ∀ (l : List Int) (e : El), (pth l e).length ≤ l.length
  | [], e => by simp [pth]
  | b :: r, e => by
    unfold pth
    split
    · simp
    · rename_i x hx
      have := pth_len r x
      simp; omega
theorem gd_wd : ∀ e : El, Gd e → Wd e := by
  refine El.ind fun e ih g => ?_
  have := g.sl
  exact .mk e (by omega) fun x hx => ih x hx (g.sub hx)
theorem gd_sh : ∀ e : El, Gd e → E33.Sh e := by
  refine El.ind fun e ih g => ?_
  have := g.sl
  have f := g.fw
  obtain ⟨_, h1, _⟩ := f
  exact .mk e (by omega) (by omega) fun x hx => ih x hx (g.sub hx)
theorem none_law (f : Bool) (c : Option Nat) (cs : List Int) (hb : isB cs) (f2 : Bool) (c2 : Option Nat) (ls : List Int) (hl : isB ls) (hw : E34.walk (ofT cs) (pth (ls.take 6) (ofT cs)) = none) (g : Gd (ofT cs)) : ∃ N, Con E N 15 [.agg [.sl f (bs cs) c], .sl f2 (bs ls) c2] (.bool true) := by
  have C1 := ofT_con f cs c hb
  generalize ofT cs = e at C1 hw g
  have pl := pth_len (ls.take 6) e
  rw [List.length_take] at pl
  obtain ⟨N1, C2⟩ := F33.path f2 ls c2 hl e g
  generalize pth (ls.take 6) e = p at C2 hw pl
  obtain ⟨pf, hpf⟩ : ∃ pf, p.isEmpty = pf := ⟨_, rfl⟩
  rw [hpf] at C2
  obtain ⟨pc, hpc⟩ : ∃ pc, (if pf = true then some 0 else none) = (pc : Option Nat) := ⟨_, rfl⟩
  rw [hpc] at C2
  obtain ⟨N2, C3⟩ := F31.rat e pf p pc (by omega)
  obtain ⟨N3, R4⟩ := at_none e (gd_wd e g) pf p pc (by omega) hw
  obtain ⟨N4, C5⟩ := F37.offset e g pf p pc (by omega)
  rw [hw] at C3 C5
  have C6 := F41.report e pf p pc 0 19 11 (by omega) N4 C5
  obtain ⟨K, hK⟩ : ∃ K, N1 + N2 + N3 + N4 + 600 = K := ⟨_, rfl⟩
  have w1 := C1 K (by omega) 0
  have w2 := C2 K (by omega) 0
  have w3 := C3 K (by omega) 0
  have w5 := C5 K (by omega) 0
  have w6 := C6 K (by omega) 0
  have pn := ns_pure p
  have o4 : ∀ m slot h, opened m false (aRun E K) slot 62 [e.av, .sl pf (ns p) pc] h = some (.ret (.tup [.agg z5, .int .i64 19]), h) := fun m slot h => by
    rw [FO.op_fresh (m := m) (slot := slot) (h := h) [] (by simp [AV.pureL, El.av_pure, AV.pure, pn]) (R4 K (by omega)) (by rfl) (by rfl) (by simp) (by rfl)]
    rfl
  have lv := LW.l12 K (by omega) 0
  rw [El.av_eq] at w1 w2 w3 w5 w6 o4
  refine ⟨K + 1, con_ofO E_fn15 (by simp [AV.pureL, AV.pure]) (Nat.le_of_ble_eq_true rfl) rfl (g := []) ?_⟩
  rw [body_15, c15]
  simp [w1, w2, w3, w5, w6, o4, lv, fitZ]
end F49
end
section
open Ab Go TabE Sp E34 F1 F4 F5 F11 F23 F31 F32 F36 F43 F44 F45 F47 F48 F49
namespace F50
theorem op_atN {e x : El} {K : Nat} {h' : Heap} {pf : Bool} {p : List Int} {pc : Option Nat} (hr : aRun E K 62 [e.av, .sl pf (ns p) pc] [] = some (.ret (.tup [CV x (.sl x.fb [] (some 0)) (1, 26, 0), .int .i64 0]), h')) (h2 : lookK h' (1, 26, 0) = some (er (x.s.map clo))) (m : List Bool) (slot : Nat) (h : Heap) :
    opened m false (aRun E K) slot 62 [e.av, .sl pf (ns p) pc] h = some (.ret (.tup [CV x (.sl x.fb [] (some 0)) (1, slot, genOf h 1 slot), .int .i64 0]), setK h (1, slot, genOf h 1 slot) (er (x.s.map clo))) := by
  have k2 := El.fl_keys (x.s.map clo)
  have pn := ns_pure p
  have r2 : ∀ φ, AV.rnL φ (El.fl (x.s.map clo)) = El.fl (x.s.map clo) := fun φ => rnL_pure _ (El.fl_pure _)
  rw [FO.op_fresh (m := m) (slot := slot) (h := h) [(1, 26, 0)] (by simp [AV.pureL, El.av_pure, AV.pure, pn]) hr (by simp [reach, h2, AV.keysL, AV.keys, dd, k2]) (by simp [closedH, h2, AV.keysL, AV.keys, k2]) (by simp) (by simp [AV.keysL, AV.keys, inKs])]
  simp [AV.rn, AV.rnL, outK, posK, putAll, h2, r2]
theorem op_atR {e x : El} {K : Nat} {h' : Heap} {pf : Bool} {p : List Int} {pc : Option Nat} {ex : Bool} (hr : aRun E K 62 [e.av, .sl pf (ns p) pc] [] = some (.ret (.tup [CV x (.ref (1, 26, 0) 0 x.b.length (some x.b.length)) (1, 26, 1), .int .i64 0]), h')) (h1 : lookK h' (1, 26, 0) = some (br x.b ex)) (h2 : lookK h' (1, 26, 1) = some (er (x.s.map clo))) (m : List Bool) (slot : Nat) (h : Heap) :
    opened m false (aRun E K) slot 62 [e.av, .sl pf (ns p) pc] h = some (.ret (.tup [CV x (.ref (1, slot, genOf h 1 slot) 0 x.b.length (some x.b.length)) (1, slot, genOf h 1 slot + 1), .int .i64 0]), setK (setK h (1, slot, genOf h 1 slot) (br x.b ex)) (1, slot, genOf h 1 slot + 1) (er (x.s.map clo))) := by
  have k1 := bs_kl x.b
  have k2 := El.fl_keys (x.s.map clo)
  have pn := ns_pure p
  have r1 : ∀ φ, AV.rnL φ (bs x.b) = bs x.b := fun φ => rnL_pure _ (bs_pure _)
  have r2 : ∀ φ, AV.rnL φ (El.fl (x.s.map clo)) = El.fl (x.s.map clo) := fun φ => rnL_pure _ (El.fl_pure _)
  rw [FO.op_fresh (m := m) (slot := slot) (h := h) [(1, 26, 0), (1, 26, 1)] (by simp [AV.pureL, El.av_pure, AV.pure, pn]) hr (by simp [reach, h1, h2, AV.keysL, AV.keys, dd, k1, k2]) (by simp [closedH, h1, h2, AV.keysL, AV.keys, k1, k2]) (by simp) (by simp [AV.keysL, AV.keys, inKs])]
  simp [AV.rn, AV.rnL, outK, posK, putAll, h1, h2, r1, r2]
theorem plain (e x : El) (p : List Int) (g : Gd e) (hw : E34.walk e p = some x) : ∃ o : Nat, ofs e p = o ∧ o + (enc x.core).length ≤ (enc e.core).length ∧ ((enc e.core).take (o + (enc x.core).length)).drop o = enc x.core := by
  obtain ⟨pre, post, h1, h2⟩ := F42.stands p e x g hw
  refine ⟨pre.length, h2.symm, by rw [h1]; simp [List.length_append], ?_⟩
  rw [h1, List.take_append, List.drop_append]
  simp
theorem some_N (f : Bool) (c : Option Nat) (cs : List Int) (hb : isB cs) (f2 : Bool) (c2 : Option Nat) (ls : List Int) (hl : isB ls) (x : El) (hw : E34.walk (ofT cs) (pth (ls.take 6) (ofT cs)) = some x) (g : Gd (ofT cs)) (nn : E31.Nn x) (xb : x.b = []) : ∃ N, Con E N 15 [.agg [.sl f (bs cs) c], .sl f2 (bs ls) c2] (.bool true) := by
  have C1 := ofT_con f cs c hb
  generalize ofT cs = e at C1 hw g
  have pl := pth_len (ls.take 6) e
  rw [List.length_take] at pl
  obtain ⟨N1, C2⟩ := F33.path f2 ls c2 hl e g
  generalize pth (ls.take 6) e = p at C2 hw pl
  obtain ⟨pf, hpf⟩ : ∃ pf, p.isEmpty = pf := ⟨_, rfl⟩
  rw [hpf] at C2
  obtain ⟨pc, hpc⟩ : ∃ pc, (if pf = true then some 0 else none) = (pc : Option Nat) := ⟨_, rfl⟩
  rw [hpc] at C2
  have gx : Gd x := walk_P (P := Gd) (fun e h y hy => h.sub hy) p e x g hw
  have shx := gd_sh x gx
  have slen := gx.sl
  obtain ⟨N2, C3⟩ := F31.rat e pf p pc (by omega)
  obtain ⟨N3, h3, R4, z2⟩ := at_N e x (gd_wd e g) nn shx xb pf p pc (by omega) hw
  obtain ⟨N4, C5⟩ := F37.offset e g pf p pc (by omega)
  obtain ⟨N5, C7⟩ := F40.offset e x g pf p pc (by omega) hw
  rw [hw] at C3 C5
  have C6 := F41.report e pf p pc (ofs e p) 0 11 (by omega) N4 C5
  obtain ⟨N6, C8⟩ := F36.put e g
  obtain ⟨N7, C9⟩ := F36.put x gx
  obtain ⟨N8, h8, S1, S2⟩ := sameN x xb gx.ok (by omega)
  obtain ⟨N9, CS⟩ := F1.same e e g.ok rfl
  obtain ⟨o, ho, hle, hsub⟩ := plain e x p g hw
  rw [ho] at C5 C6 C7
  have eB : isB (enc x.core) := E18.enc_B x gx.ok gx.vld (by have := gx.len; omega)
  have l1 := g.len
  have gb := bs_go eB
  obtain ⟨K, hK⟩ : ∃ K, N1 + N2 + N3 + N4 + N5 + N6 + N7 + N8 + N9 + 600 = K := ⟨_, rfl⟩
  have cut := E53.cutR false (some (enc e.core).length) (enc e.core) o (o + (enc x.core).length) (by omega) hle
  rw [hsub] at cut
  push_cast at cut
  have w := w64' ((o : Int) + (enc x.core).length) (by omega) (by omega)
  have w' := w64' (((enc e.core).length : Int) - (enc x.core).length) (by omega) (by omega)
  have q1 : ¬ ((o : Int) < 0) := by omega
  have q2 : ¬ (((enc e.core).length : Int) - (enc x.core).length < o) := by omega
  have w1 := C1 K (by omega) 0
  have w2 := C2 K (by omega) 0
  have w3 := C3 K (by omega) 0
  have w5 := C5 K (by omega) 0
  have w6 := C6 K (by omega) 0
  have w7 := C7 K (by omega) 0
  have w8 := C8 K (by omega) 0
  have w9 := C9 K (by omega) 0
  have o4 := op_atN (R4 K (by omega)) z2
  have oS := fun slot h hk => op_sameN (slot := slot) (h := h) (k := (1, 33, 0)) (S1 K (by omega)) S2 hk
  have oE := op_pure (by simp [AV.pureL, El.av_pure]) CS K (by omega)
  have lv := LW.l12 K (by omega) 0
  have f1 := El.fl_len (x.s.map clo)
  have f2' := El.fl_keys (x.s.map clo)
  have f3 : (El.fl (x.s.map clo)).drop 5 = El.fl ((x.s.map clo).drop 1) := by have := El.fl_drop 1 (x.s.map clo); simpa using this
  have f4 := El.fl_keys ((x.s.map clo).drop 1)
  have f5 := El.fl_keys ((x.s.map clo).tail)
  simp only [FV, CV] at o4 oS
  rw [El.av_eq] at w1 w2 w3 w5 w6 w7 w8 w9 o4 oS oE
  simp only [El.av_eq] at w3 oE
  rw [xb] at oS w3 w9
  simp only [bs_nil] at oS w3 w9
  generalize enc e.core = EA at *
  generalize enc x.core = XB at *
  refine ⟨K + 1, con_ofO E_fn15 (by simp [AV.pureL, AV.pure]) (Nat.le_of_ble_eq_true rfl) rfl (g := []) ?_⟩
  rw [body_15, c15]
  by_cases xs : x.s = []
  · have p0 : ¬ 0 < x.s.length := by rw [xs]; decide
    have p1 : ¬ (0 : Int) < x.s.length := by omega
    simp [-sliceA, s_regB, barX, bindS, w1, w2, w3, w5, w6, w7, w8, w9, o4, oS, oE, lv, cut, w, w', q1, q2, gb, p0, p1, f2']
  · have p0 : 0 < x.s.length := List.length_pos_iff.2 xs
    have p1 : 5 ≤ x.s.length * 5 := by omega
    simp [-sliceA, s_regB, barX, bindS, w1, w2, w3, w5, w6, w7, w8, w9, o4, oS, oE, lv, cut, w, w', q1, q2, gb, p0, p1, f1, f2', f3, f4, f5]
end F50
end
section
open Ab Go TabE Sp E34 F1 F4 F5 F11 F23 F31 F32 F36 F43 F44 F45 F47 F48 F49
namespace F51
theorem some_R (f : Bool) (c : Option Nat) (cs : List Int) (hb : isB cs) (f2 : Bool) (c2 : Option Nat) (ls : List Int) (hl : isB ls) (x : El) (hw : E34.walk (ofT cs) (pth (ls.take 6) (ofT cs)) = some x) (g : Gd (ofT cs)) (nn : E31.Nn x) (xb : x.b ≠ []) : ∃ N, Con E N 15 [.agg [.sl f (bs cs) c], .sl f2 (bs ls) c2] (.bool true) := by
  have C1 := ofT_con f cs c hb
  generalize ofT cs = e at C1 hw g
  have pl := pth_len (ls.take 6) e
  rw [List.length_take] at pl
  obtain ⟨N1, C2⟩ := F33.path f2 ls c2 hl e g
  generalize pth (ls.take 6) e = p at C2 hw pl
  obtain ⟨pf, hpf⟩ : ∃ pf, p.isEmpty = pf := ⟨_, rfl⟩
  rw [hpf] at C2
  obtain ⟨pc, hpc⟩ : ∃ pc, (if pf = true then some 0 else none) = (pc : Option Nat) := ⟨_, rfl⟩
  rw [hpc] at C2
  have gx : Gd x := walk_P (P := Gd) (fun e h y hy => h.sub hy) p e x g hw
  have shx := gd_sh x gx
  have slen := gx.sl
  have hf : x.fb = false := by
    obtain ⟨_, n1, _, _⟩ := nn
    cases q : x.fb
    · rfl
    · exact absurd (n1 q) xb
  have xs : x.s = [] := by
    obtain ⟨v1, v2, v3, v4⟩ := (vld_eq x).1 gx.vld
    cases q : x.k
    · exact v3 q
    · exact absurd (v2 q) xb
  obtain ⟨N2, C3⟩ := F31.rat e pf p pc (by omega)
  obtain ⟨N3, h3, R4, z1, z2⟩ := at_R e x (gd_wd e g) nn shx hf xb pf p pc (by omega) hw
  obtain ⟨N4, C5⟩ := F37.offset e g pf p pc (by omega)
  obtain ⟨N5, C7⟩ := F40.offset e x g pf p pc (by omega) hw
  rw [hw] at C3 C5
  have C6 := F41.report e pf p pc (ofs e p) 0 11 (by omega) N4 C5
  obtain ⟨N6, C8⟩ := F36.put e g
  obtain ⟨N7, C9⟩ := F36.put x gx
  obtain ⟨N8, h8, S1, S0, S2⟩ := sameR x false gx.ok (by omega)
  obtain ⟨N9, CS⟩ := F1.same e e g.ok rfl
  obtain ⟨o, ho, hle, hsub⟩ := F50.plain e x p g hw
  rw [ho] at C5 C6 C7
  have eB : isB (enc x.core) := E18.enc_B x gx.ok gx.vld (by have := gx.len; omega)
  have l1 := g.len
  have gb := bs_go eB
  obtain ⟨K, hK⟩ : ∃ K, N1 + N2 + N3 + N4 + N5 + N6 + N7 + N8 + N9 + 600 = K := ⟨_, rfl⟩
  have cut := E53.cutR false (some (enc e.core).length) (enc e.core) o (o + (enc x.core).length) (by omega) hle
  rw [hsub] at cut
  push_cast at cut
  have w := w64' ((o : Int) + (enc x.core).length) (by omega) (by omega)
  have w' := w64' (((enc e.core).length : Int) - (enc x.core).length) (by omega) (by omega)
  have q1 : ¬ ((o : Int) < 0) := by omega
  have q2 : ¬ (((enc e.core).length : Int) - (enc x.core).length < o) := by omega
  have w1 := C1 K (by omega) 0
  have w2 := C2 K (by omega) 0
  have w3 := C3 K (by omega) 0
  have w5 := C5 K (by omega) 0
  have w6 := C6 K (by omega) 0
  have w7 := C7 K (by omega) 0
  have w8 := C8 K (by omega) 0
  have w9 := C9 K (by omega) 0
  have o4 := F50.op_atR (R4 K (by omega)) z1 z2
  have oS := fun slot h hj hk => op_sameR (slot := slot) (h := h) (k := (1, 33, 0)) (l := (1, 33, 1)) (by simp) (S1 K (by omega)) S0 S2 hj hk
  have oE := op_pure (by simp [AV.pureL, El.av_pure]) CS K (by omega)
  have lv := LW.l12 K (by omega) 0
  have f1 := El.fl_len (x.s.map clo)
  have f2' := El.fl_keys (x.s.map clo)
  have f3 : (El.fl (x.s.map clo)).drop 5 = El.fl ((x.s.map clo).drop 1) := by have := El.fl_drop 1 (x.s.map clo); simpa using this
  have f4 := El.fl_keys ((x.s.map clo).drop 1)
  have f5 := El.fl_keys ((x.s.map clo).tail)
  simp only [FV, CV] at o4 oS
  rw [El.av_eq] at w1 w2 w3 w5 w6 w7 w8 w9 o4 oS oE
  simp only [El.av_eq] at w3 oE
  rw [hf] at oS w3 w9
  generalize enc e.core = EA at *
  generalize enc x.core = XB at *
  refine ⟨K + 1, con_ofO E_fn15 (by simp [AV.pureL, AV.pure]) (Nat.le_of_ble_eq_true rfl) rfl (g := []) ?_⟩
  rw [body_15, c15]
  have p0 : ¬ 0 < x.s.length := by rw [xs]; decide
  have p1 : ¬ (0 : Int) < x.s.length := by omega
  obtain ⟨b0, bt, hbx⟩ : ∃ b0 bt, x.b = b0 :: bt := by cases q : x.b with
    | nil => exact absurd q xb
    | cons a l => exact ⟨a, l, rfl⟩
  have b1 : 0 < x.b.length := List.length_pos_iff.2 xb
  have b1' : (0 : Int) < x.b.length := by omega
  have b2 : (bs x.b).take 1 = [.int .u8 b0] := by rw [hbx]; rfl
  have b3 : (bs x.b).tail = bs x.b.tail := by rw [hbx]; rfl
  have b4 := bs_kl x.b
  have b5 := bs_kl x.b.tail
  have b6 : 1 ≤ x.b.length := b1
  simp [-sliceA, s_regB, barX, bindS, w1, w2, w3, w5, w6, w7, w8, w9, o4, oS, oE, lv, cut, w, w', q1, q2, gb, p0, p1, f1, f2', hf, b1, b1', b2, b3, b4, b5, b6]
end F51
end
end
section
open Ab Go TabE Sp E34 F1 F4 F5 F11 F23 F49
namespace F52
theorem law (f : Bool) (c : Option Nat) (cs : List Int) (hb : isB cs) (f2 : Bool) (c2 : Option Nat) (ls : List Int) (hl : isB ls) : ∃ N, Con E N 15 [.agg [.sl f (bs cs) c], .sl f2 (bs ls) c2] (.bool true) := by
  obtain ⟨tw, hd, hc, ts⟩ := ofT_Tw cs hb
  have fl := E18.fw_len (ofT cs) tw.fw
  have g : Gd (ofT cs) := ⟨tw.ok, tw.vld, tw.fw, by omega, by omega, by omega⟩
  cases hw : E34.walk (ofT cs) (F32.pth (ls.take 6) (ofT cs)) with
  | none => exact none_law f c cs hb f2 c2 ls hl hw g
  | some x =>
    have nn : E31.Nn x := walk_P (P := E31.Nn) (fun e h y hy => by cases h with | mk _ _ _ r => exact r y hy) _ _ x tw.nn hw
    by_cases xb : x.b = []
    · exact F50.some_N f c cs hb f2 c2 ls hl x hw g nn xb
    · exact F51.some_R f c cs hb f2 c2 ls hl x hw g nn xb
end F52
end
