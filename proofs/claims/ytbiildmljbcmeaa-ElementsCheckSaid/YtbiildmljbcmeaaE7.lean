/- elements.size at the evaluator: what it answers. No conditions. -/
import Derived.Test.YtbiildmljbcmeaaE6
open Ab Go TabE Sp E6
set_option maxRecDepth 20000
set_option linter.unusedSimpArgs false
set_option linter.unusedVariables false
set_option maxHeartbeats 8000000
namespace E7
def Inv (n : Int) (t : Nat) : Prop := 0 ≤ n ∧ n ≤ 1048577 ∧ ((t : Int) ≤ 1048576 → n = t) ∧ (1048576 < (t : Int) → n = 1048577)
theorem loop (K : Nat) (f s c) (ls : s.length ≤ 1000000000) (B : ∀ x ∈ s, ∃ r, (∀ h, aCall E K 0 69 [x.av] h = some (.ret (.int .i64 r), h)) ∧ Szd x r) :
    ∀ (rest : List El) (i : Nat) (n : Int) (t : Nat) (k : Nat), s.drop i = rest → i + rest.length = s.length → Inv n t → rest.length < k →
      ∃ m, Inv m (t + (encs (El.cores rest)).length) ∧ aLoop (aCode E (aCall E K) (dcall (aRun E K)) K 1 fn90 b90) (cleanS 1 ((firstReg b90).bind fn90.head)) k (S f s c i n) =
        some (.exit 0, ⟨[(3, .int .i64 m), (14, .sl f (El.avs s) c), (15, .int .i64 (s.length : Int)), (16, .int .i64 (s.length : Int)), (17, .bool false)], []⟩)
  | [], i, n, t, k, h1, h2, hn, hk => by
    obtain ⟨k, rfl⟩ : ∃ j, k = j + 1 := ⟨k - 1, by simp at hk; omega⟩
    obtain rfl : i = s.length := by simpa using h2
    exact ⟨n, by simpa [El.cores, encs] using hn, aLoop_end (last K K f s c n) (by simp)⟩
  | x :: rest, i, n, t, k, h1, h2, hn, hk => by
    obtain ⟨k, rfl⟩ : ∃ j, k = j + 1 := ⟨k - 1, by simp at hk; omega⟩
    have hx : s[i]? = some x := by
      have := congrArg (fun l => l[0]?) h1
      simpa [List.getElem?_drop] using this
    have hd : s.drop (i + 1) = rest := by
      have := congrArg List.tail h1
      simpa [List.tail_drop] using this
    obtain ⟨r, hB, z1, z2, z3, z4⟩ := B x (List.mem_of_getElem? hx)
    obtain ⟨n0, n1, n2, n3⟩ := hn
    have hn' : Inv (min (n + r) 1048577) (t + (enc x.core).length) := by
      refine ⟨by omega, by omega, fun q => ?_, fun q => ?_⟩
      · have a := n2 (by omega); have b := z3 (by omega); omega
      · by_cases ht : 1048576 < (t : Int)
        · have := n3 ht; omega
        · have a := n2 (by omega)
          by_cases hz : 1048576 < ((enc x.core).length : Int)
          · have := z4 hz; omega
          · have := z3 (by omega); omega
    obtain ⟨m, hm, he⟩ := loop K f s c ls B rest (i + 1) _ _ k hd (by simp at h2; omega) hn' (by simp at hk; omega)
    refine ⟨m, ?_, ?_⟩
    · rw [El.cores, encs, List.length_append]
      rwa [Nat.add_assoc] at hm
    · rw [aLoop_succ (round K K f s c i n r x hx ls n0 n1 (by omega) z2 hB)]
      exact he
theorem content (e : El) (hs : e.sm) (hv : vld e.core) (N : Nat) (B : ∀ x ∈ e.s, ∃ r, Con E N 69 [x.av] (.int .i64 r) ∧ Szd x r) : ∃ r, Con E (N + e.s.length + 41) 90 [e.av] (.int .i64 r) ∧ Cnd e r := by
  obtain ⟨v1, v2, v3, v4⟩ := (vld_eq e).1 hv
  obtain ⟨s1, s2, s3⟩ := (El.sm_eq e).1 hs
  have lb := bs_length e.b
  have ls := El.avs_len e.s
  cases hk : e.k with
  | false =>
    have es : e.s = [] := v3 hk
    refine ⟨(e.b.length : Int), con_of E_fn90 (by simp [AV.pureL, El.av_pure]) (Nat.le_of_ble_eq_true rfl) rfl rfl (g := []) ?_, by omega, by omega, fun q => by rw [es]; simp [El.cores, encs], fun q => by rw [es] at q; simpa [El.cores, encs] using q⟩
    rw [body_90, c90]
    simp [El.av_eq, ↓s_seq, ↓s_reg, ↓s_regd, ↓s_cond, ↓s_block, ↓s_cons, ↓s_consG, s_nil, s_loop, s_round, s_lpn, s_lpe, s_lpr, firstReg, s_gt, s_gf, s_wb, s_wu, s_val, s_valN, s_skip, s_calls, s_callP, s_cax, lookR, flatR, pureKs, s_ret, s_rgx, s_sqn, s_sqr, s_sqe, s_cdb, s_bkn, s_bkr, s_bke, s_exit, s_ret', s_skip', s_finr, s_finn, s_fin1, s_fix, s_clean, s_gc0, o_tmp, o_int, o_bool, o_nil, o_str, o_fn, o_nil', l_hit, l_miss, l_nil, ol_nil, ol_cons, ol_some, x_move, x_assign, x_pick, pk_t, pk_f, x_bin, bn_s, x_un, x_extract, x_callF, cl_no, x_callB, x_callBF, frzV, x_conv, cvx, convA, frame0, binA, intOp, resL, resA, results1, sealLW, AV.pure, AV.pureL, keepT, x_alloc, x_box, bxx, x_build, bdx, x_buildSlice, bsx, x_buildSliceF, bsf, x_load, ldx, x_store, stx, x_slice, slx, x_fieldAddr, x_field, x_index, ixx, x_indexAddr, iax, x_makeSlice, msx, x_nilCheck, newK, genOf, setK, lookK, fillA, writeL, writeC, readC, conts, TyI.mk1, sliceA, boundsA, boundsB, fitsA, numA, indexAddrA, fieldAddrA, partA, fieldA, indexA, appendA, copyA, builtinA, AV.cells, chunk, gcH, reach, keysT, keepK, inKs, AV.keys, AV.keysL, Ty.isAgg, eq1, eqL, convA.go, ltI, w_u8, w_u32, w_u64, w_i64, w_fdiv, w_tdiv, w_tmod, IntKind.bits, unA, sc_int, sc_bool, sc_str, sc_sl, sc_ref, sc_ptr, sc_pel, sc_nilp, sc_fn, sc_nilf, sc_if, sc_nili, sc_agg, sc_tup, sc_mem, bs_pure, bs_kl, bs_length, bs_cells, bs_all, sl_row, sealRow, sealY, sl_int, sl_bool, sl_str, sl_sl, sl_nilp, sl_nilf, sl_nili, sl_pel, sl_agg, sl_tup, sl_fn, sl_if, nat_1, bs_cons, bs_nil, i_beq, i_bne, x_mkF, x_mkI, x_tassert, x_panic, s_pan, s_sqp, s_bkp, s_finp, s_fixp, s_lpp, s_rgp, s_retp, s_site, s_stxN, s_stxO, x_callT, clx, hk]
  | true =>
    have eb : e.b = [] := v2 hk
    obtain ⟨m, hm, L⟩ := loop (N + e.s.length + 40) e.fs e.s e.cs s2 (fun x hx => by
      obtain ⟨r, h1, h2⟩ := B x hx
      exact ⟨r, h1 _ (by omega) 0, h2⟩) e.s 0 0 0 (N + e.s.length + 40) rfl (by simp) ⟨by omega, by omega, fun _ => rfl, fun q => by simp at q⟩ (by omega)
    obtain ⟨m0, m1, m2, m3⟩ := hm
    rw [Nat.zero_add] at m2 m3
    refine ⟨m, con_of E_fn90 (by simp [AV.pureL, El.av_pure]) (Nat.le_of_ble_eq_true rfl) rfl rfl (g := []) ?_, m0, by omega, fun q => by rw [eb] at q ⊢; simp at q ⊢; exact m2 q, fun q => by rw [eb] at q; simp at q; have := m3 q; omega⟩
    rw [body_90, c90]
    simp [b90, lp, lps, c90, firstReg, S] at L
    simp [El.av_eq, ↓s_seq, ↓s_reg, ↓s_regd, ↓s_cond, ↓s_block, ↓s_cons, ↓s_consG, s_nil, s_loop, s_round, s_lpn, s_lpe, s_lpr, firstReg, s_gt, s_gf, s_wb, s_wu, s_val, s_valN, s_skip, s_calls, s_callP, s_cax, lookR, flatR, pureKs, s_ret, s_rgx, s_sqn, s_sqr, s_sqe, s_cdb, s_bkn, s_bkr, s_bke, s_exit, s_ret', s_skip', s_finr, s_finn, s_fin1, s_fix, s_clean, s_gc0, o_tmp, o_int, o_bool, o_nil, o_str, o_fn, o_nil', l_hit, l_miss, l_nil, ol_nil, ol_cons, ol_some, x_move, x_assign, x_pick, pk_t, pk_f, x_bin, bn_s, x_un, x_extract, x_callF, cl_no, x_callB, x_callBF, frzV, x_conv, cvx, convA, frame0, binA, intOp, resL, resA, results1, sealLW, AV.pure, AV.pureL, keepT, x_alloc, x_box, bxx, x_build, bdx, x_buildSlice, bsx, x_buildSliceF, bsf, x_load, ldx, x_store, stx, x_slice, slx, x_fieldAddr, x_field, x_index, ixx, x_indexAddr, iax, x_makeSlice, msx, x_nilCheck, newK, genOf, setK, lookK, fillA, writeL, writeC, readC, conts, TyI.mk1, sliceA, boundsA, boundsB, fitsA, numA, indexAddrA, fieldAddrA, partA, fieldA, indexA, appendA, copyA, builtinA, AV.cells, chunk, gcH, reach, keysT, keepK, inKs, AV.keys, AV.keysL, Ty.isAgg, eq1, eqL, convA.go, ltI, w_u8, w_u32, w_u64, w_i64, w_fdiv, w_tdiv, w_tmod, IntKind.bits, unA, sc_int, sc_bool, sc_str, sc_sl, sc_ref, sc_ptr, sc_pel, sc_nilp, sc_fn, sc_nilf, sc_if, sc_nili, sc_agg, sc_tup, sc_mem, bs_pure, bs_kl, bs_length, bs_cells, bs_all, sl_row, sealRow, sealY, sl_int, sl_bool, sl_str, sl_sl, sl_nilp, sl_nilf, sl_nili, sl_pel, sl_agg, sl_tup, sl_fn, sl_if, nat_1, bs_cons, bs_nil, i_beq, i_bne, x_mkF, x_mkI, x_tassert, x_panic, s_pan, s_sqp, s_bkp, s_finp, s_fixp, s_lpp, s_rgp, s_retp, s_site, s_stxN, s_stxO, x_callT, clx, -s_round, hk, L, ls]
theorem size : ∀ e : El, e.ok → e.sm → vld e.core → ∃ N r, Con E N 69 [e.av] (.int .i64 r) ∧ Szd e r := by
  refine El.ind fun e ih he hs hv => ?_
  obtain ⟨v1, v2, v3, v4⟩ := (vld_eq e).1 hv
  obtain ⟨s1, s2, s3⟩ := (El.sm_eq e).1 hs
  obtain ⟨N, hN⟩ := unif (P := fun (x : El) (n : Nat) => ∃ r, Con E n 69 [x.av] (.int .i64 r) ∧ Szd x r) (fun x n m ⟨r, h1, h2⟩ hm => ⟨r, h1.mono hm, h2⟩) e.s (fun x hx => by
    obtain ⟨n, r, h⟩ := ih x hx (he.sub x hx) (s3 x hx) (vlds_all.1 v4 x hx)
    exact ⟨n, r, h⟩)
  obtain ⟨r, h1, h2⟩ := content e hs hv N hN
  obtain ⟨q, h3, h4⟩ := size_of e he hv r h2 _ h1
  exact ⟨_, q, h3, h4⟩
/-- The number of content octets, too. -/
theorem content_ok (e : El) (he : e.ok) (hs : e.sm) (hv : vld e.core) : ∃ N r, Con E N 90 [e.av] (.int .i64 r) ∧ Cnd e r := by
  obtain ⟨v1, v2, v3, v4⟩ := (vld_eq e).1 hv
  obtain ⟨s1, s2, s3⟩ := (El.sm_eq e).1 hs
  obtain ⟨N, hN⟩ := unif (P := fun (x : El) (n : Nat) => ∃ r, Con E n 69 [x.av] (.int .i64 r) ∧ Szd x r) (fun x n m ⟨r, h1, h2⟩ hm => ⟨r, h1.mono hm, h2⟩) e.s (fun x hx => by
    obtain ⟨n, r, h⟩ := size x (he.sub x hx) (s3 x hx) (vlds_all.1 v4 x hx)
    exact ⟨n, r, h⟩)
  obtain ⟨r, h1, h2⟩ := content e hs hv N hN
  exact ⟨_, r, h1, h2⟩
end E7
