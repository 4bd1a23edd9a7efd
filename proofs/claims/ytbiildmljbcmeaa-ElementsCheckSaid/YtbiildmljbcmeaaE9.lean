/- elements.put and Put at the evaluator: what they answer. No conditions. -/
import Derived.Test.YtbiildmljbcmeaaE8
open Ab Go TabE Sp E8
set_option maxRecDepth 20000
set_option linter.unusedSimpArgs false
set_option linter.unusedVariables false
set_option maxHeartbeats 8000000
namespace E9
def Puts (N : Nat) (x : El) : Prop := ∀ k, N ≤ k → ∀ (pre : List Int) (z n : Nat), pre.length + z = n → (enc x.core).length ≤ z → n ≤ 4000000 →
  aRun E k 70 [.ref (0, 0, 0) 0 pre.length (some n), .agg (ec x)] [((0, 0, 0), R pre z)] = some (.ret (.ref (0, 0, 0) 0 (pre.length + (enc x.core).length) (some n)), [((0, 0, 0), R (pre ++ enc x.core) (z - (enc x.core).length))])
theorem loop (K : Nat) (n : Nat) (hn : n ≤ 4000000) (f s c) (ls : s.length ≤ 1000000000) (W : ∀ x ∈ s, Puts K x) :
    ∀ (rest : List El) (i : Nat) (pre : List Int) (z : Nat) (k : Nat), s.drop i = rest → i + rest.length = s.length → pre.length + z = n → (encs (El.cores rest)).length ≤ z → rest.length < k →
      aLoop (aCode E (site fn70 (aRun E K)) (dcall (aRun E K)) K 1 fn70 b70) (cleanS 1 ((firstReg b70).bind fn70.head)) k (S pre.length n f s c i pre z) =
        some (.exit 0, ⟨[(0, .ref (0, 0, 0) 0 (pre.length + (encs (El.cores rest)).length) (some n)), (33, .sl f (El.avs s) c), (34, .int .i64 (s.length : Int)), (35, .int .i64 (s.length : Int)), (36, .bool false)], [((0, 0, 0), R (pre ++ encs (El.cores rest)) (z - (encs (El.cores rest)).length))]⟩)
  | [], i, pre, z, k, h1, h2, hp, hz, hk => by
    obtain ⟨k, rfl⟩ : ∃ j, k = j + 1 := ⟨k - 1, by simp at hk; omega⟩
    obtain rfl : i = s.length := by simpa using h2
    rw [aLoop_end (last K K pre.length n f s c pre z) (by simp)]
    simp [El.cores, encs]
  | x :: rest, i, pre, z, k, h1, h2, hp, hz, hk => by
    obtain ⟨k, rfl⟩ : ∃ j, k = j + 1 := ⟨k - 1, by simp at hk; omega⟩
    have hx : s[i]? = some x := by
      have := congrArg (fun l => l[0]?) h1
      simpa [List.getElem?_drop] using this
    have hd : s.drop (i + 1) = rest := by
      have := congrArg List.tail h1
      simpa [List.tail_drop] using this
    rw [El.cores, encs, List.length_append] at hz
    have B := fun own slot => op_put (own := own) (slot := slot) (cs := ec x) rfl (R_keys pre z) (R_keys _ _) (R_rn pre z) (R_rn _ _) (W x (List.mem_of_getElem? hx) K (Nat.le_refl _) pre z n hp (by omega) hn)
    rw [aLoop_succ (round K K _ _ n f s c i pre _ z _ x hx ls B)]
    have q := loop K n hn f s c ls W rest (i + 1) (pre ++ enc x.core) (z - (enc x.core).length) k hd (by simp at h2; omega) (by rw [List.length_append]; omega) (by omega) (by simp at hk; omega)
    rw [List.length_append] at q
    rw [q]
    simp only [El.cores, encs, List.length_append, List.append_assoc, Nat.add_assoc, Nat.sub_sub]
theorem puts : ∀ e : El, e.ok → e.sm → vld e.core → (enc e.core).length ≤ 1048576 → ∃ N, Puts N e := by
  refine El.ind fun e ih he hs hv hl => ?_
  obtain ⟨v1, v2, v3, v4⟩ := (vld_eq e).1 hv
  obtain ⟨s1, s2, s3⟩ := (El.sm_eq e).1 hs
  have tl := tagO_len e.c e.k e.n
  have el := enc_eq e
  obtain ⟨ct, hct⟩ : ∃ ct, e.b ++ encs (El.cores e.s) = ct := ⟨_, rfl⟩
  rw [hct] at el
  have lel : (enc e.core).length = (TG.tagO e.c e.k e.n).length + ((lenO (ct.length : Int)).length + ct.length) := by rw [el, List.length_append, List.length_append]
  have lct : ct.length = e.b.length + (encs (El.cores e.s)).length := by rw [← hct, List.length_append]
  have sub_le : ∀ x ∈ e.s, (enc x.core).length ≤ (encs (El.cores e.s)).length := by
    intro x hx
    clear ih he hs hv hl v3 v4 el hct lel lct s2 s3
    generalize e.s = l at hx ⊢
    induction l with
    | nil => cases hx
    | cons y l ih =>
      rw [El.cores, encs, List.length_append]
      rcases List.mem_cons.1 hx with rfl | hx
      · omega
      · have := ih hx; omega
  obtain ⟨N, hN⟩ := unif (P := fun (x : El) (n : Nat) => Puts n x) (fun x n m h hm k hk => h k (by omega)) e.s (fun x hx => ih x hx (he.sub x hx) (s3 x hx) (vlds_all.1 v4 x hx) (by have := sub_le x hx; omega))
  obtain ⟨M, r, C, c0, c1, c2, c3⟩ := E7.content_ok e he hs hv
  rw [hct] at c2 c3
  have re := c2 (by omega)
  subst re
  have LP := len_put (ct.length : Int) (by omega) (by omega)
  have TP := E6.tag_put e.c e.k e.n he.cb.1 he.cb.2 he.nb.1 he.nb.2 v1
  refine ⟨N + M + e.s.length + 40, fun k hk pre z n hp hz hn => ?_⟩
  obtain ⟨K, rfl⟩ : ∃ K, k = K + 1 := ⟨k - 1, by omega⟩
  rw [aRun_fn rfl E_fn70 rfl (Nat.le_of_ble_eq_true rfl), body_70, c70]
  have C' := C K (by omega) 0
  have LP' := LP K (by omega) 0
  have TP' := TP K (by omega) 0
  rw [El.av_eq] at C'
  obtain ⟨t, ht⟩ : ∃ t, TG.tagO e.c e.k e.n = t := ⟨_, rfl⟩
  obtain ⟨lo, hlo⟩ : ∃ lo, lenO (ct.length : Int) = lo := ⟨_, rfl⟩
  rw [ht] at TP' tl lel el
  rw [hlo] at LP' lel el
  have w1 := wc pre t z pre.length rfl (by omega)
  have w2 := wc (pre ++ t) lo (z - t.length) (pre.length + t.length) (by rw [List.length_append]) (by omega)
  have w3 := wc (pre ++ t ++ lo) e.b (z - t.length - lo.length) (pre.length + t.length + lo.length) (by rw [List.length_append, List.length_append]) (by omega)
  have lr : ∀ (p : List Int) (y : Nat), (bs (p ++ List.replicate y 0)).length = p.length + y := fun p y => by rw [bs_length, List.length_append, List.length_replicate]
  have g1 : pre.length + t.length ≤ n := by omega
  have g2 : pre.length + (t.length + lo.length) ≤ n := by omega
  have g3 : pre.length + (t.length + (lo.length + e.b.length)) ≤ n := by omega
  have g0 : pre.length ≤ pre.length + z := by omega
  have L := loop K n hn e.fs e.s e.cs s2 (fun x hx => fun k hk => hN x hx k (by omega)) e.s 0 (pre ++ t ++ lo ++ e.b) (z - t.length - lo.length - e.b.length) K rfl (by simp) (by simp only [List.length_append]; omega) (by omega) (by omega)
  simp [b70, lp, lps, c70, firstReg, S, R, List.append_assoc, Nat.add_assoc, Nat.sub_sub] at L w1 w2 w3
  rw [el, ← hct]
  simp [El.av_eq, ↓s_seq, ↓s_reg, ↓s_regd, ↓s_cond, ↓s_block, ↓s_cons, ↓s_consG, s_nil, s_loop, s_round, s_lpn, s_lpe, s_lpr, firstReg, s_gt, s_gf, s_wb, s_wu, s_val, s_valN, s_skip, s_calls, s_callP, s_cax, lookR, flatR, pureKs, s_ret, s_rgx, s_sqn, s_sqr, s_sqe, s_cdb, s_bkn, s_bkr, s_bke, s_exit, s_ret', s_skip', s_finr, s_finn, s_fin1, s_fix, s_clean, s_gc0, o_tmp, o_int, o_bool, o_nil, o_str, o_fn, o_nil', l_hit, l_miss, l_nil, ol_nil, ol_cons, ol_some, x_move, x_assign, x_pick, pk_t, pk_f, x_bin, bn_s, x_un, x_extract, x_callF, cl_no, x_callB, x_callBF, frzV, x_conv, cvx, convA, frame0, binA, intOp, resL, resA, results1, sealLW, AV.pure, AV.pureL, keepT, x_alloc, x_box, bxx, x_build, bdx, x_buildSlice, bsx, x_buildSliceF, bsf, x_load, ldx, x_store, stx, x_slice, slx, x_fieldAddr, x_field, x_index, ixx, x_indexAddr, iax, x_makeSlice, msx, x_nilCheck, newK, genOf, setK, lookK, fillA, readC, conts, TyI.mk1, sliceA, boundsA, boundsB, fitsA, numA, indexAddrA, fieldAddrA, partA, fieldA, indexA, appendA, copyA, builtinA, AV.cells, chunk, gcH, reach, keysT, keepK, inKs, AV.keys, AV.keysL, Ty.isAgg, eq1, eqL, convA.go, ltI, w_u8, w_u32, w_u64, w_i64, w_fdiv, w_tdiv, w_tmod, IntKind.bits, unA, sc_int, sc_bool, sc_str, sc_sl, sc_ref, sc_ptr, sc_pel, sc_nilp, sc_fn, sc_nilf, sc_if, sc_nili, sc_agg, sc_tup, sc_mem, bs_pure, bs_kl, bs_length, bs_cells, bs_all, sl_row, sealRow, sealY, sl_int, sl_bool, sl_str, sl_sl, sl_nilp, sl_nilf, sl_nili, sl_pel, sl_agg, sl_tup, sl_fn, sl_if, nat_1, bs_cons, bs_nil, i_beq, i_bne, x_mkF, x_mkI, x_tassert, x_panic, s_pan, s_sqp, s_bkp, s_finp, s_fixp, s_lpp, s_rgp, s_retp, s_site, s_stxN, s_stxO, x_callT, clx, El.avs_len, -s_round, TP', LP', C', w1, w2, w3, lr, g1, g2, g3, L, List.append_assoc, Nat.add_assoc, Nat.sub_sub]
end E9
