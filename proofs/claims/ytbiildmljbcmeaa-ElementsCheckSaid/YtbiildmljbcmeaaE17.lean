/- The reference's Put at the evaluator: what it answers. No conditions. -/
import Derived.Test.YtbiildmljbcmeaaE16
open Ab Go TabE Sp E16
set_option maxRecDepth 20000
set_option linter.unusedSimpArgs false
set_option linter.unusedVariables false
set_option maxHeartbeats 8000000
namespace E17
theorem rlen (n : Int) (n0 : 0 ≤ n) (n1 : n ≤ 16777215) : ∃ c, Con E 20 77 [.int .i64 n] (.sl false (bs (lenO n)) c) := by
  unfold lenO
  split
  · exact ⟨_, P2.ref_1 n n0 (by omega)⟩
  split
  · exact ⟨_, P2.ref_2 n (by omega) (by omega)⟩
  split
  · exact ⟨_, P2.ref_3 n (by omega) (by omega)⟩
  · exact ⟨_, P2.ref_4 n (by omega) (by omega)⟩
abbrev Fin (e : El) (key : Key) (cap : Option Nat) (ex : Bool) (ys : List Int) : Option (AExit × St) := some (.exit 0, ⟨[(1, .ptr (1, 1, 0) 0), (3, .ref key 0 ys.length cap), (4, .int .i64 (e.s.length : Int)), (13, .bool false)], [((1, 1, 0), bx (ec e)), (key, ⟨bs ys, true, true, ex, 1, false⟩)]⟩)
theorem enc_ne (e : El) : enc e.core ≠ [] := by
  intro h
  have := congrArg List.length h
  rw [enc_eq, List.length_append] at this
  have t := tagO_len e.c e.k e.n
  simp only [List.length_nil] at this
  omega
theorem loop1 (K : Nat) (e : El) (le : e.s.length ≤ 9223372036854775807) (B : ∀ x ∈ e.s, ∃ c, ∀ h, aCall E K 0 35 [x.av] h = some (.ret (.sl false (bs (enc x.core)) c), h)) :
    ∀ (rest : List El) (i m : Nat) (ys : List Int) (k : Nat), e.s.drop i = rest → i + rest.length = e.s.length → ys.length + (encs (El.cores rest)).length ≤ 2000000 → rest.length < k →
      ∃ m', aLoop (aCode E (site fn35 (aRun E K)) (dcall (aRun E K)) K 1 fn35 b35) (cleanS 1 ((firstReg b35).bind fn35.head)) k (S e i (1, 23, m) none false ys) = Fin e (1, 23, m') none false (ys ++ encs (El.cores rest))
  | [], i, m, ys, k, h1, h2, hl, hk => by
    obtain ⟨k, rfl⟩ : ∃ j, k = j + 1 := ⟨k - 1, by simp at hk; omega⟩
    obtain rfl : i = e.s.length := by simpa using h2
    exact ⟨m, by rw [aLoop_end (last K K e _ none false ys (.inr (.inr ⟨m, rfl⟩))) (by simp)]; simp [El.cores, encs]⟩
  | x :: rest, i, m, ys, k, h1, h2, hl, hk => by
    obtain ⟨k, rfl⟩ : ∃ j, k = j + 1 := ⟨k - 1, by simp at hk; omega⟩
    have hx : e.s[i]? = some x := by
      have := congrArg (fun l => l[0]?) h1
      simpa [List.getElem?_drop] using this
    have hd : e.s.drop (i + 1) = rest := by
      have := congrArg List.tail h1
      simpa [List.tail_drop] using this
    obtain ⟨c, hB⟩ := B x (List.mem_of_getElem? hx)
    rw [El.cores, encs, List.length_append] at hl
    obtain ⟨m', h⟩ := loop1 K e le B rest (i + 1) (m + 1) (ys ++ enc x.core) k hd (by simp at h2; omega) (by rw [List.length_append]; omega) (by simp at hk; omega)
    refine ⟨m', ?_⟩
    rw [aLoop_succ (next K K e x i m (enc x.core) ys c hx le (by omega) hB), h, El.cores, encs, List.append_assoc]
theorem loop0 (K : Nat) (e : El) (le : e.s.length ≤ 9223372036854775807) (B : ∀ x ∈ e.s, ∃ c, ∀ h, aCall E K 0 35 [x.av] h = some (.ret (.sl false (bs (enc x.core)) c), h)) (hl : (encs (El.cores e.s)).length ≤ 2000000) (hk : e.s.length < K) :
      ∃ key cap ex, (key = (1, 5, 0) ∨ ∃ m, key = (1, 23, m)) ∧ aLoop (aCode E (site fn35 (aRun E K)) (dcall (aRun E K)) K 1 fn35 b35) (cleanS 1 ((firstReg b35).bind fn35.head)) K (S e 0 (1, 5, 0) (some 0) true []) = Fin e key cap ex (encs (El.cores e.s)) := by
  obtain ⟨k, rfl⟩ : ∃ j, K = j + 1 := ⟨K - 1, by omega⟩
  cases hs : e.s with
  | nil =>
    refine ⟨(1, 5, 0), some 0, true, .inl rfl, ?_⟩
    have := last (k + 1) (k + 1) e (1, 5, 0) (some 0) true [] (.inl rfl)
    have h0 : e.s.length = 0 := by rw [hs]; rfl
    rw [h0] at this
    rw [aLoop_end this (by simp)]
    simp [El.cores, encs, hs, Fin]
  | cons x rest =>
    have hx : e.s[0]? = some x := by rw [hs]; rfl
    obtain ⟨c, hB⟩ := B x (List.mem_of_getElem? hx)
    rw [hs, El.cores, encs, List.length_append] at hl
    obtain ⟨m', h⟩ := loop1 (k + 1) e le B rest 1 0 (enc x.core) k (by rw [hs]; rfl) (by rw [hs]; simp; omega) hl (by rw [hs] at hk; simp at hk; omega)
    refine ⟨(1, 23, m'), none, false, .inr ⟨m', rfl⟩, ?_⟩
    rw [aLoop_succ (first (k + 1) (k + 1) e x 0 (enc x.core) c hx le (enc_ne x) (by omega) hB), h, El.cores, encs]
theorem rput : ∀ e : El, e.ok → vld e.core → (enc e.core).length ≤ 1100000 → ∃ N, Con E N 35 [e.av] (.sl false (bs (enc e.core)) none) := by
  refine El.ind fun e ih he hv hl => ?_
  obtain ⟨v1, v2, v3, v4⟩ := (vld_eq e).1 hv
  obtain ⟨t3, n3⟩ : e.c ≤ 3 ∧ e.n ≤ 268435455 := by
    have := v1; unfold tagE at this
    split at this
    · cases this
    · omega
  have tl := tagO_len e.c e.k e.n
  have el := enc_eq e
  obtain ⟨ct, hct⟩ : ∃ ct, e.b ++ encs (El.cores e.s) = ct := ⟨_, rfl⟩
  rw [hct] at el
  have lel : (enc e.core).length = (TG.tagO e.c e.k e.n).length + ((lenO (ct.length : Int)).length + ct.length) := by rw [el, List.length_append, List.length_append]
  have lct : ct.length = e.b.length + (encs (El.cores e.s)).length := by rw [← hct, List.length_append]
  have sub_le : ∀ l : List El, ∀ x ∈ l, (enc x.core).length ≤ (encs (El.cores l)).length := by
    intro l
    induction l with
    | nil => intro x hx; cases hx
    | cons y l ih =>
      intro x hx
      rw [El.cores, encs, List.length_append]
      rcases List.mem_cons.1 hx with rfl | hx
      · omega
      · have := ih x hx; omega
  obtain ⟨N, hN⟩ := unif (P := fun (x : El) (n : Nat) => Con E n 35 [x.av] (.sl false (bs (enc x.core)) none)) (fun x n m h hm => h.mono hm) e.s (fun x hx => ih x hx (he.sub x hx) (vlds_all.1 v4 x hx) (by have := sub_le _ x hx; omega))
  obtain ⟨K, hK⟩ : ∃ K, N + e.s.length + 60 = K := ⟨_, rfl⟩
  obtain ⟨lc, LP⟩ := rlen (ct.length : Int) (by omega) (by omega)
  have LP' := LP K (by omega) 0
  have lo := lenO_len (ct.length : Int)
  have lo0 : lenO (ct.length : Int) ≠ [] := by intro q; rw [q] at lo; simp at lo
  -- the tag's octets, given
  obtain ⟨cap, ex, tg, G⟩ : ∃ cap ex, (cap = none ∧ ex = false ∨ cap = some (TG.tagO e.c e.k e.n).length ∧ ex = true) ∧ ∀ h, genOf h 1 26 = 0 → opened [false] false (aRun E K) 26 76 [.agg [.int .u8 e.c, .bool e.k, .int .u32 e.n]] h = some (.ret (.ref (1, 26, 0) 0 (TG.tagO e.c e.k e.n).length cap), setK h (1, 26, 0) ⟨bs (TG.tagO e.c e.k e.n), true, true, ex, 1, false⟩) := by
    by_cases h31 : e.n < 31
    · have e1 : (TG.tagO e.c e.k e.n).length = 1 := by unfold TG.tagO; rw [if_pos h31]; rfl
      refine ⟨some 1, true, .inr ⟨by rw [e1], rfl⟩, fun h hg => ?_⟩
      rw [e1]
      exact op_give (by decide) rfl (bs_kl _) (fun φ => rnL_pure _ (bs_pure _)) hg (E15.rtag_lo e.c e.k e.n he.cb.1 t3 he.nb.1 h31 K (by omega))
    · exact ⟨none, false, .inl ⟨rfl, rfl⟩, fun h hg => op_give (by decide) rfl (bs_kl _) (fun φ => rnL_pure _ (bs_pure _)) hg (E15.rtag_hi e.c e.k e.n he.cb.1 t3 (by omega) (by omega) K (by omega))⟩
  refine ⟨K + 1, con_ofO E_fn35 (by simp [AV.pureL, El.av_pure]) (Nat.le_of_ble_eq_true rfl) rfl (g := []) ?_⟩
  rw [body_35, c35, el]
  obtain ⟨t, ht⟩ : ∃ t, TG.tagO e.c e.k e.n = t := ⟨_, rfl⟩
  obtain ⟨lo2, hlo⟩ : ∃ lo2, lenO (ct.length : Int) = lo2 := ⟨_, rfl⟩
  rw [ht] at G tg tl lel ⊢
  rw [hlo] at LP' lel lo lo0 ⊢
  have f1 : ¬ (t.length + lo2.length ≤ t.length) := by omega
  have f2 : t.length + lo2.length ≤ 70368744177664 := by omega
  have f3 : t.length + (lo2.length + ct.length) ≤ 70368744177664 := by omega
  have f5 : t.length + lo2.length + ct.length ≤ 70368744177664 := by omega
  have kl : ∀ a b, AV.keysL (bs a ++ bs b) = [] := fun a b => by rw [← bs_append]; exact bs_kl _
  have f4 : e.b.length ≤ 70368744177664 := by omega
  have ls := El.avs_len e.s
  by_cases hb : e.b = []
  · have cte : ct = encs (El.cores e.s) := by rw [← hct, hb]; rfl
    obtain ⟨key, kc, kx, hkey, L⟩ := loop0 K e he.sl (fun x hx => ⟨none, fun h => hN x hx K (by omega) 0 h⟩) (by omega) (by omega)
    rw [← cte] at L
    simp [b35, lp, lps, c35, firstReg, S, ec, hb, bs_nil] at L
    rcases hkey with rfl | ⟨m, rfl⟩
    · rcases tg with ⟨rfl, rfl⟩ | ⟨rfl, rfl⟩ <;> simp [El.av_eq, ↓s_seq, ↓s_reg, ↓s_regd, ↓s_cond, ↓s_block, ↓s_cons, ↓s_consG, s_nil, s_loop, s_round, s_lpn, s_lpe, s_lpr, firstReg, s_gt, s_gf, s_wb, s_wu, s_val, s_valN, s_skip, s_calls, s_callP, s_cax, lookR, flatR, pureKs, s_ret, s_rgx, s_sqn, s_sqr, s_sqe, s_cdb, s_bkn, s_bkr, s_bke, s_exit, s_ret', s_skip', s_finr, s_finn, s_fin1, s_fix, s_clean, s_gc0, o_tmp, o_int, o_bool, o_nil, o_str, o_fn, o_nil', l_hit, l_miss, l_nil, ol_nil, ol_cons, ol_some, x_move, x_assign, x_pick, pk_t, pk_f, x_bin, bn_s, x_un, x_extract, x_callF, cl_no, x_callB, x_callBF, frzV, x_conv, cvx, convA, frame0, binA, intOp, resL, resA, results1, sealLW, AV.pure, AV.pureL, keepT, x_alloc, x_box, bxx, x_build, bdx, x_buildSlice, bsx, x_buildSliceF, bsf, x_load, ldx, x_store, stx, x_slice, slx, x_fieldAddr, x_field, x_index, ixx, x_indexAddr, iax, x_makeSlice, msx, x_nilCheck, newK, genOf, setK, lookK, fillA, writeL, writeC, readC, conts, TyI.mk1, sliceA, boundsA, boundsB, fitsA, numA, indexAddrA, fieldAddrA, partA, fieldA, indexA, appendA, copyA, builtinA, AV.cells, chunk, gcH, reach, keysT, keepK, inKs, AV.keys, AV.keysL, Ty.isAgg, eq1, eqL, convA.go, ltI, w_u8, w_u32, w_u64, w_i64, w_fdiv, w_tdiv, w_tmod, IntKind.bits, unA, sc_int, sc_bool, sc_str, sc_sl, sc_ref, sc_ptr, sc_pel, sc_nilp, sc_fn, sc_nilf, sc_if, sc_nili, sc_agg, sc_tup, sc_mem, bs_pure, bs_kl, bs_length, bs_cells, bs_all, sl_row, sealRow, sealY, sl_int, sl_bool, sl_str, sl_sl, sl_nilp, sl_nilf, sl_nili, sl_pel, sl_agg, sl_tup, sl_fn, sl_if, nat_1, bs_cons, bs_nil, i_beq, i_bne, x_mkF, x_mkI, x_tassert, x_panic, s_pan, s_sqp, s_bkp, s_finp, s_fixp, s_lpp, s_rgp, s_retp, s_site, s_stxN, s_stxO, x_callT, clx, El.avs_len, -s_round, hb, G, LP', L, f1, f2, f3, f5, ← bs_append, Nat.add_assoc]
    · rcases tg with ⟨rfl, rfl⟩ | ⟨rfl, rfl⟩ <;> simp [El.av_eq, ↓s_seq, ↓s_reg, ↓s_regd, ↓s_cond, ↓s_block, ↓s_cons, ↓s_consG, s_nil, s_loop, s_round, s_lpn, s_lpe, s_lpr, firstReg, s_gt, s_gf, s_wb, s_wu, s_val, s_valN, s_skip, s_calls, s_callP, s_cax, lookR, flatR, pureKs, s_ret, s_rgx, s_sqn, s_sqr, s_sqe, s_cdb, s_bkn, s_bkr, s_bke, s_exit, s_ret', s_skip', s_finr, s_finn, s_fin1, s_fix, s_clean, s_gc0, o_tmp, o_int, o_bool, o_nil, o_str, o_fn, o_nil', l_hit, l_miss, l_nil, ol_nil, ol_cons, ol_some, x_move, x_assign, x_pick, pk_t, pk_f, x_bin, bn_s, x_un, x_extract, x_callF, cl_no, x_callB, x_callBF, frzV, x_conv, cvx, convA, frame0, binA, intOp, resL, resA, results1, sealLW, AV.pure, AV.pureL, keepT, x_alloc, x_box, bxx, x_build, bdx, x_buildSlice, bsx, x_buildSliceF, bsf, x_load, ldx, x_store, stx, x_slice, slx, x_fieldAddr, x_field, x_index, ixx, x_indexAddr, iax, x_makeSlice, msx, x_nilCheck, newK, genOf, setK, lookK, fillA, writeL, writeC, readC, conts, TyI.mk1, sliceA, boundsA, boundsB, fitsA, numA, indexAddrA, fieldAddrA, partA, fieldA, indexA, appendA, copyA, builtinA, AV.cells, chunk, gcH, reach, keysT, keepK, inKs, AV.keys, AV.keysL, Ty.isAgg, eq1, eqL, convA.go, ltI, w_u8, w_u32, w_u64, w_i64, w_fdiv, w_tdiv, w_tmod, IntKind.bits, unA, sc_int, sc_bool, sc_str, sc_sl, sc_ref, sc_ptr, sc_pel, sc_nilp, sc_fn, sc_nilf, sc_if, sc_nili, sc_agg, sc_tup, sc_mem, bs_pure, bs_kl, bs_length, bs_cells, bs_all, sl_row, sealRow, sealY, sl_int, sl_bool, sl_str, sl_sl, sl_nilp, sl_nilf, sl_nili, sl_pel, sl_agg, sl_tup, sl_fn, sl_if, nat_1, bs_cons, bs_nil, i_beq, i_bne, x_mkF, x_mkI, x_tassert, x_panic, s_pan, s_sqp, s_bkp, s_finp, s_fixp, s_lpp, s_rgp, s_retp, s_site, s_stxN, s_stxO, x_callT, clx, El.avs_len, -s_round, hb, G, LP', L, f1, f2, f3, f5, ← bs_append, Nat.add_assoc]
  · have hk : e.k = false := by cases q : e.k; rfl; exact absurd (v2 q) hb
    have es : e.s = [] := v3 hk
    have cte : ct = e.b := by rw [← hct, es]; simp [El.cores, encs]
    obtain ⟨K', hK'⟩ : ∃ K', K = K' + 1 := ⟨K - 1, by omega⟩
    have L : aLoop (aCode E (site fn35 (aRun E K)) (dcall (aRun E K)) K 1 fn35 b35) (cleanS 1 ((firstReg b35).bind fn35.head)) K (S e e.s.length (1, 8, 0) none false e.b) = Fin e (1, 8, 0) none false e.b := by
      rw [hK']
      exact aLoop_end (last (K' + 1) (K' + 1) e (1, 8, 0) none false e.b (.inr (.inl rfl))) (by simp)
    have l0 : e.s.length = 0 := by rw [es]; rfl
    rw [cte] at LP' f3 f5 ⊢
    simp [b35, lp, lps, c35, firstReg, S, ec, l0] at L
    rcases tg with ⟨rfl, rfl⟩ | ⟨rfl, rfl⟩ <;> simp [El.av_eq, ↓s_seq, ↓s_reg, ↓s_regd, ↓s_cond, ↓s_block, ↓s_cons, ↓s_consG, s_nil, s_loop, s_round, s_lpn, s_lpe, s_lpr, firstReg, s_gt, s_gf, s_wb, s_wu, s_val, s_valN, s_skip, s_calls, s_callP, s_cax, lookR, flatR, pureKs, s_ret, s_rgx, s_sqn, s_sqr, s_sqe, s_cdb, s_bkn, s_bkr, s_bke, s_exit, s_ret', s_skip', s_finr, s_finn, s_fin1, s_fix, s_clean, s_gc0, o_tmp, o_int, o_bool, o_nil, o_str, o_fn, o_nil', l_hit, l_miss, l_nil, ol_nil, ol_cons, ol_some, x_move, x_assign, x_pick, pk_t, pk_f, x_bin, bn_s, x_un, x_extract, x_callF, cl_no, x_callB, x_callBF, frzV, x_conv, cvx, convA, frame0, binA, intOp, resL, resA, results1, sealLW, AV.pure, AV.pureL, keepT, x_alloc, x_box, bxx, x_build, bdx, x_buildSlice, bsx, x_buildSliceF, bsf, x_load, ldx, x_store, stx, x_slice, slx, x_fieldAddr, x_field, x_index, ixx, x_indexAddr, iax, x_makeSlice, msx, x_nilCheck, newK, genOf, setK, lookK, fillA, writeL, writeC, readC, conts, TyI.mk1, sliceA, boundsA, boundsB, fitsA, numA, indexAddrA, fieldAddrA, partA, fieldA, indexA, appendA, copyA, builtinA, AV.cells, chunk, gcH, reach, keysT, keepK, inKs, AV.keys, AV.keysL, Ty.isAgg, eq1, eqL, convA.go, ltI, w_u8, w_u32, w_u64, w_i64, w_fdiv, w_tdiv, w_tmod, IntKind.bits, unA, sc_int, sc_bool, sc_str, sc_sl, sc_ref, sc_ptr, sc_pel, sc_nilp, sc_fn, sc_nilf, sc_if, sc_nili, sc_agg, sc_tup, sc_mem, bs_pure, bs_kl, bs_length, bs_cells, bs_all, sl_row, sealRow, sealY, sl_int, sl_bool, sl_str, sl_sl, sl_nilp, sl_nilf, sl_nili, sl_pel, sl_agg, sl_tup, sl_fn, sl_if, nat_1, bs_cons, bs_nil, i_beq, i_bne, x_mkF, x_mkI, x_tassert, x_panic, s_pan, s_sqp, s_bkp, s_finp, s_fixp, s_lpp, s_rgp, s_retp, s_site, s_stxN, s_stxO, x_callT, clx, El.avs_len, -s_round, hb, G, LP', L, f1, f2, f3, f4, f5, ← bs_append, Nat.add_assoc]
end E17
