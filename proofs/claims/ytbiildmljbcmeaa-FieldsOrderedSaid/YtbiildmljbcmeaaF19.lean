/- Own work, no conditions. -/
import Derived.Test.YtbiildmljbcmeaaLW
section
/- fields.Ordered at the evaluator: its loop. No conditions. -/
open Ab Go TabE Sp E34 F1 F4 F5
set_option maxRecDepth 20000
set_option linter.unusedSimpArgs false
set_option linter.unusedVariables false
set_option maxHeartbeats 8000000
namespace F20
def bO : Code := lp c51 0
abbrev zc : List AV := [.sl true [] (some 0), .int .i64 0]
abbrev S (e : El) (i : Nat) : St := ⟨[(1, .ptr (1, 1, 0) 0), (2, .ptr (1, 2, 0) 0), (8, .sl e.fs (El.avs e.s) e.cs), (9, .int .i64 (e.s.length : Int)), (10, .int .i64 (i : Int))], [((1, 1, 0), bx (ec e)), ((1, 2, 0), bx zc)]⟩
abbrev Bad (i : Nat) (w : Int) : AExit × St := (.ret, ⟨[(2, .ptr (1, 2, 0) 0)], [((1, 2, 0), bx [.sl false [.int .i64 i] (some 1), .int .i64 w])]⟩)
theorem go0 (q k1 : Nat) (e x : El) (hx : e.s[0]? = some x) (A : ∀ h, aCall E q 0 32 [x.av] h = some (.ret (.int .i64 0), h)) : rnd fn51 bO q k1 (S e 0) = some (.normal, S e 1) := by
  have hi : 0 < e.s.length := (List.getElem?_eq_some_iff.1 hx).1
  have hn : ¬ e.s = [] := fun h => by rw [h] at hi; simp at hi
  have ix := El.at_ e.fs e.cs e.s 0 x hx
  try simp at ix
  rw [El.av_eq] at A
  simp [bO, lp, lps, c51, ↓s_seq, ↓s_reg, ↓s_cond, ↓s_block, ↓s_cons, s_nil, firstReg, s_val, s_skip, s_calls, s_cax, s_ret, s_rgx, s_sqn, s_sqe, s_cdb, s_bke, s_exit, s_skip', s_clean, o_tmp, o_int, l_hit, l_miss, ol_nil, ol_cons, ol_some, x_move, x_assign, x_bin, bn_s, x_callF, cl_no, binA, intOp, sealLW, AV.pure, AV.pureL, keepT, x_alloc, x_load, ldx, x_store, stx, x_indexAddr, iax, newK, genOf, setK, lookK, writeL, writeC, readC, TyI.mk1, AV.cells, gcH, reach, keysT, keepK, inKs, AV.keys, AV.keysL, Ty.isAgg, w_i64, sc_int, sc_bool, sc_sl, sl_agg, ix, hi, A]
theorem goS (q k1 : Nat) (e x y : El) (j : Nat) (hj : j < 1000) (hy : e.s[j]? = some y) (hx : e.s[j + 1]? = some x) (A : ∀ h, aCall E q 0 32 [x.av] h = some (.ret (.int .i64 0), h)) (C : ∀ h, aCall E q 0 37 [y.av, x.av] h = some (.ret (.int .i64 (-1)), h)) : rnd fn51 bO q k1 (S e (j + 1)) = some (.normal, S e (j + 1 + 1)) := by
  have hi : j + 1 < e.s.length := (List.getElem?_eq_some_iff.1 hx).1
  have hi' : (j : Int) + 1 < (e.s.length : Int) := by omega
  have ix := El.at_ e.fs e.cs e.s (j + 1) x hx
  have iy := El.at_ e.fs e.cs e.s j y hy
  have w := w64' ((j : Int) + 1 + 1) (by omega) (by omega)
  have w2 := w64' (j : Int) (by omega) (by omega)
  have n0 : ¬ (j : Int) + 1 = 0 := by omega
  try simp at ix
  rw [El.av_eq] at A C
  rw [El.av_eq x] at C
  simp [bO, lp, lps, c51, ↓s_seq, ↓s_reg, ↓s_regd, ↓s_cond, ↓s_block, ↓s_cons, s_nil, firstReg, s_val, s_skip, s_calls, s_callP, s_cax, s_ret, s_rgx, s_sqn, s_cdb, s_bkn, s_skip', s_clean, o_tmp, o_int, l_hit, l_miss, ol_nil, ol_cons, ol_some, x_move, x_assign, x_bin, bn_s, x_callF, cl_no, binA, intOp, sealLW, AV.pure, AV.pureL, keepT, x_alloc, x_load, ldx, x_store, stx, x_fieldAddr, x_indexAddr, iax, newK, genOf, setK, lookK, writeL, writeC, readC, TyI.mk1, fieldAddrA, AV.cells, gcH, reach, keysT, keepK, inKs, AV.keys, AV.keysL, Ty.isAgg, sc_int, sc_bool, sc_sl, sl_agg, i_beq, ix, iy, w, w2, n0, hi', A, C]
theorem badS (q k1 : Nat) (e x y : El) (j : Nat) (v w : Int) (hv : v = 1 ∧ w = 13 ∨ v = 0 ∧ w = 14) (hj : j < 1000) (hq : 20 ≤ q) (hy : e.s[j]? = some y) (hx : e.s[j + 1]? = some x) (A : ∀ h, aCall E q 0 32 [x.av] h = some (.ret (.int .i64 0), h)) (C : ∀ h, aCall E q 0 37 [y.av, x.av] h = some (.ret (.int .i64 v), h)) : rnd fn51 bO q k1 (S e (j + 1)) = some (Bad (j + 1) w) := by
  have hi : j + 1 < e.s.length := (List.getElem?_eq_some_iff.1 hx).1
  have hi' : (j : Int) + 1 < (e.s.length : Int) := by omega
  have ix := El.at_ e.fs e.cs e.s (j + 1) x hx
  have iy := El.at_ e.fs e.cs e.s j y hy
  have w2 := w64' (j : Int) (by omega) (by omega)
  have n0 : ¬ (j : Int) + 1 = 0 := by omega
  have f := fun c => fone w ((j : Int) + 1) c q (by omega) 0
  try simp [ns] at f
  try simp at ix
  rw [El.av_eq] at A C
  rw [El.av_eq x] at C
  rcases hv with ⟨rfl, rfl⟩ | ⟨rfl, rfl⟩ <;> simp [bO, lp, lps, c51, ↓s_seq, ↓s_reg, ↓s_regd, ↓s_cond, ↓s_block, ↓s_cons, s_nil, firstReg, s_val, s_skip, s_calls, s_callP, s_cax, s_ret, s_rgx, s_sqn, s_sqr, s_cdb, s_bkr, s_ret', s_skip', s_clean, o_tmp, o_int, l_hit, l_miss, ol_nil, ol_cons, ol_some, x_move, x_assign, x_bin, bn_s, x_callF, cl_no, binA, intOp, sealLW, AV.pure, AV.pureL, keepT, x_alloc, x_buildSliceF, bsf, x_load, ldx, x_store, stx, x_fieldAddr, x_indexAddr, iax, newK, genOf, setK, lookK, fillA, writeL, writeC, readC, TyI.mk1, fieldAddrA, AV.cells, chunk, gcH, reach, keysT, keepK, inKs, AV.keys, AV.keysL, Ty.isAgg, sc_int, sc_bool, sc_sl, sl_int, sl_sl, sl_agg, i_beq, ix, iy, w2, n0, hi', A, C, f]
abbrev Out (e : El) : AExit × St := (.exit 0, ⟨[(1, .ptr (1, 1, 0) 0), (2, .ptr (1, 2, 0) 0), (8, .sl e.fs (El.avs e.s) e.cs), (9, .int .i64 (e.s.length : Int)), (10, .int .i64 (e.s.length : Int)), (11, .bool false)], [((1, 1, 0), bx (ec e)), ((1, 2, 0), bx zc)]⟩)
theorem last (q k1 : Nat) (e : El) : rnd fn51 bO q k1 (S e e.s.length) = some (Out e) := by
  simp [bO, lp, lps, c51, ↓s_seq, ↓s_reg, ↓s_cond, ↓s_cons, s_nil, firstReg, s_val, s_rgx, s_sqn, s_sqe, s_cdb, s_exit, s_clean, o_tmp, l_hit, l_miss, x_bin, bn_s, binA, intOp, keepT, lookK, gcH, reach, keysT, keepK, inKs, AV.keys, AV.keysL]
end F20

end
section
/- E.Of at the evaluator: what it answers. No conditions. -/
open Ab Go TabE Sp E18 E20 E22 E23 E26
set_option maxRecDepth 20000
set_option linter.unusedSimpArgs false
set_option linter.unusedVariables false
set_option maxHeartbeats 8000000
namespace E27
attribute [local simp ↓] s_seq s_reg s_regd s_cond s_block s_cons s_consG s_regD
attribute [local simp] s_nil s_loop s_round s_lpn s_lpe s_lpr firstReg s_gt s_gf s_wb s_wu s_val s_valN s_skip s_calls s_callP s_cax lookR flatR pureKs s_ret s_rgx s_sqn s_sqr s_sqe s_cdb s_bkn s_bkr s_bke s_exit s_ret' s_skip' s_finr s_finn s_fin1 s_fix s_clean s_gc0 o_tmp o_int o_bool o_nil o_str o_fn o_nil' l_hit l_miss l_nil ol_nil ol_cons ol_some x_move x_assign x_pick pk_t pk_f x_bin bn_s x_un x_extract x_callF cl_no x_callB x_callBF frzV x_conv cvx convA frame0 binA intOp resL resA results1 sealLW AV.pure AV.pureL keepT x_alloc x_box bxx x_build bdx x_buildSlice bsx x_buildSliceF bsf x_load ldx x_store stx x_slice slx x_fieldAddr x_field x_index ixx x_indexAddr iax x_makeSlice msx x_makeSliceF msf x_nilCheck newK genOf setK lookK fillA writeL writeC readC conts TyI.mk1 sliceA boundsA boundsB fitsA numA indexAddrA fieldAddrA partA fieldA indexA appendA copyA builtinA AV.cells chunk gcH reach keysT keepK inKs AV.keys AV.keysL Ty.isAgg eq1 eqL convA.go ltI w_u8 w_u32 w_u64 w_i64 w_fdiv w_tdiv w_tmod IntKind.bits unA sc_int sc_bool sc_str sc_sl sc_ref sc_ptr sc_pel sc_nilp sc_fn sc_nilf sc_if sc_nili sc_agg sc_tup sc_mem bs_pure bs_kl bs_length bs_cells bs_all sl_row sealRow sealY sl_int sl_bool sl_str sl_sl sl_nilp sl_nilf sl_nili sl_pel sl_agg sl_tup sl_fn sl_if nat_1 bs_cons bs_nil i_beq i_bne x_mkF x_mkI x_tassert x_panic s_pan s_sqp s_bkp s_finp s_fixp s_lpp s_rgp s_retp s_site s_stxN s_stxO x_callT clx El.avs_len s_dyn0 s_rgy barOf dynChk footL dynOK disjK keysOp opVals Op.operands
theorem lastS (q0 k1 : Nat) (f q) (l : List G) (key : Key) (st : List El) (hkey : ∃ m, key = (1, 49, m) ∨ key = (1, 92, m)) (i : Nat) (hi : i = min 39 l.length) :
    rndO fn22 b22 q0 k1 (S f (l.map G.av) q key st i) = some (.exit 0, ⟨[(1, .ptr (1, 1, 0) 0), (2, .ptr (1, 2, 0) 0), (3, .ref key 0 st.length none), (4, .int .i64 (i : Int)), (17, .bool false)], [((1, 1, 0), bx [.sl f (l.map G.av) q]), ((1, 2, 0), bx Z), (key, ⟨El.fl st, true, true, false, 5, true⟩)]⟩) := by
  by_cases h : i < l.length
  · have i39 : i = 39 := by omega
    subst i39
    have h' : (39 : Int) < l.length := by omega
    obtain ⟨m, rfl | rfl⟩ := hkey <;> simp [b22, lp, lps, c22, h, h', El.fl_keys]
  · obtain ⟨m, rfl | rfl⟩ := hkey <;> simp [b22, lp, lps, c22, h, El.fl_keys]
theorem last0 (q0 k1 : Nat) (f q) :
    rndO fn22 b22 q0 k1 (S0 f [] q 0) = some (.exit 0, ⟨[(1, .ptr (1, 1, 0) 0), (2, .ptr (1, 2, 0) 0), (3, .sl true [] (some 0)), (4, .int .i64 0), (17, .bool false)], [((1, 1, 0), bx [.sl f [] q]), ((1, 2, 0), bx Z)]⟩) := by
  simp [b22, lp, lps, c22]
theorem step (K : Nat) (f q) (l : List G) (hl : ∀ g ∈ l, g.ok) (ll : l.length ≤ 9223372036854775807) (i : Nat) (g : G) (hx : l[i]? = some g) (hi : i < 39) (key : Key) (hkey : ∃ m, key = (1, 49, m) ∨ key = (1, 92, m)) (hne : (sq l i).length ≠ 0)
    (T : ∀ k : Int, 0 ≤ k → k < 256 → ∀ h, aCall E K 0 71 [.agg [.int .u8 g.c, .int .u8 k, .int .u32 g.n]] h = some (.ret (.agg [.int .u8 (g.c % 4), .bool (decide (k % 2 = 1)), .int .u32 (tn g.c k g.n)]), h))
    (D : ∀ h, aCall E K 0 40 [(nd g ((sq l i).drop ((sq l i).length - kk g (sq l i).length))).av] h = some (.ret (.int .i64 (dep (nd g ((sq l i).drop ((sq l i).length - kk g (sq l i).length))).core)), h)) :
    ∃ key', (∃ m, key' = (1, 49, m) ∨ key' = (1, 92, m)) ∧ rndO fn22 b22 K K (S f (l.map G.av) q key (sq l i) i) = some (.normal, S f (l.map G.av) q key' (sq l (i + 1)) (i + 1)) := by
  have og := hl g (List.mem_of_getElem? hx)
  have iv := inv l hl i (by omega)
  have ln := cnts_len (sq l i)
  have e : sq l (i + 1) = E26.nx (sq l i) g := by rw [sq, hx]
  rw [e]
  generalize sq l i = st at *
  by_cases ha : g.a % 3 = 0
  · have t := T 0 (by omega) (by omega)
    have e2 : E26.nx st g = st ++ [leaf g] := by unfold E26.nx; rw [if_pos ha]
    rw [e2]
    exact ⟨_, ⟨_, .inl rfl⟩, leafR key st (by omega) hkey K K f q l i g og hx hi ha ll t⟩
  have t := T 1 (by omega) (by omega)
  have e2 : E26.nx st g = if dep (nd g (st.drop (st.length - kk g st.length))).core < 15 then st.take (st.length - kk g st.length) ++ [nd g (st.drop (st.length - kk g st.length))] else st := by unfold E26.nx; rw [if_neg ha]
  rw [e2]
  have kl := kk_le g st.length
  have hkp : st.length = kk g st.length + (st.length - kk g st.length) := by omega
  by_cases h2 : g.a % 3 = 2
  · exact nodeA key st (by omega) hne hkey _ _ hkp (by unfold kk; rw [if_pos h2]) K K f q l i g og hx hi ha ll h2 _ t D
  have h3 : g.a % 3 ≠ 2 ∧ (if (st.length : Int) < g.b % 5 then (st.length : Int) else g.b % 5) = (kk g st.length : Int) := by
    refine ⟨h2, ?_⟩
    unfold kk
    rw [if_neg h2]
    split <;> omega
  by_cases k0 : kk g st.length = 0
  · exact E24.nodeC key st (by omega) hne hkey _ _ hkp k0 K K f q l i g og hx hi ha ll h3 _ t D
  by_cases k1 : kk g st.length = st.length
  · exact E24.nodeB key st (by omega) hne hkey _ _ hkp k1 K K f q l i g og hx hi ha ll h3 _ t D
  · exact E25.nodeD key st (by omega) hne hkey _ _ hkp ⟨by omega, by omega⟩ K K f q l i g og hx hi ha ll h3 _ t D
theorem first (K : Nat) (f q) (l : List G) (hl : ∀ g ∈ l, g.ok) (ll : l.length ≤ 9223372036854775807) (g : G) (hx : l[0]? = some g)
    (T : ∀ k : Int, 0 ≤ k → k < 256 → ∀ h, aCall E K 0 71 [.agg [.int .u8 g.c, .int .u8 k, .int .u32 g.n]] h = some (.ret (.agg [.int .u8 (g.c % 4), .bool (decide (k % 2 = 1)), .int .u32 (tn g.c k g.n)]), h))
    (D : ∀ h, aCall E K 0 40 [(nd g []).av] h = some (.ret (.int .i64 (dep (nd g []).core)), h)) :
    ∃ key', (∃ m, key' = (1, 49, m) ∨ key' = (1, 92, m)) ∧ rndO fn22 b22 K K (S0 f (l.map G.av) q 0) = some (.normal, S f (l.map G.av) q key' (sq l 1) 1) := by
  have og := hl g (List.mem_of_getElem? hx)
  have e : sq l 1 = E26.nx [] g := by rw [sq, hx]; rfl
  have d1 : dep (nd g []).core = 1 := rfl
  rw [d1] at D
  rw [e]
  by_cases ha : g.a % 3 = 0
  · have t := T 0 (by omega) (by omega)
    have e2 : E26.nx [] g = [leaf g] := by unfold E26.nx; rw [if_pos ha]; rfl
    rw [e2]
    exact ⟨_, ⟨_, .inl rfl⟩, leaf0 K K f q l 0 g og hx (by omega) ha ll t⟩
  have t := T 1 (by omega) (by omega)
  have e2 : E26.nx [] g = [nd g []] := by unfold E26.nx; rw [if_neg ha]; simp [d1]
  rw [e2]
  exact ⟨_, ⟨_, .inr rfl⟩, node0 K K f q l 0 g og hx (by omega) ha ll t D⟩
abbrev Fin (f : Bool) (q : Option Nat) (l : List G) (key : Key) (st : List El) : Option (AExit × St) := some (.exit 0, ⟨[(1, .ptr (1, 1, 0) 0), (2, .ptr (1, 2, 0) 0), (3, .ref key 0 st.length none), (4, .int .i64 ((min 39 l.length : Nat) : Int)), (17, .bool false)], [((1, 1, 0), bx [.sl f (l.map G.av) q]), ((1, 2, 0), bx Z), (key, ⟨El.fl st, true, true, false, 5, true⟩)]⟩)
theorem loop (K : Nat) (f q) (l : List G) (hl : ∀ g ∈ l, g.ok) (ll : l.length ≤ 9223372036854775807)
    (T : ∀ g ∈ l, ∀ k : Int, 0 ≤ k → k < 256 → ∀ h, aCall E K 0 71 [.agg [.int .u8 g.c, .int .u8 k, .int .u32 g.n]] h = some (.ret (.agg [.int .u8 (g.c % 4), .bool (decide (k % 2 = 1)), .int .u32 (tn g.c k g.n)]), h))
    (D : ∀ i g, i < 39 → l[i]? = some g → ∀ h, aCall E K 0 40 [(nd g ((sq l i).drop ((sq l i).length - kk g (sq l i).length))).av] h = some (.ret (.int .i64 (dep (nd g ((sq l i).drop ((sq l i).length - kk g (sq l i).length))).core)), h)) :
    ∀ (n i : Nat) (key : Key) (k : Nat), (∃ m, key = (1, 49, m) ∨ key = (1, 92, m)) → i + n = min 39 l.length → 0 < i → n < k →
      ∃ key', (∃ m, key' = (1, 49, m) ∨ key' = (1, 92, m)) ∧ aLoop (aCode E (site fn22 (aRun E K)) (dcall (aRun E K)) K 1 fn22 b22) (cleanS 1 ((firstReg b22).bind fn22.head)) k (S f (l.map G.av) q key (sq l i) i) = Fin f q l key' (sq l (min 39 l.length))
  | 0, i, key, k, hkey, hi, i0, hk => by
    obtain ⟨k, rfl⟩ : ∃ j, k = j + 1 := ⟨k - 1, by omega⟩
    obtain rfl : i = min 39 l.length := by omega
    exact ⟨key, hkey, aLoop_end (lastS K K f q l key _ hkey _ rfl) (by simp)⟩
  | n + 1, i, key, k, hkey, hi, i0, hk => by
    obtain ⟨k, rfl⟩ : ∃ j, k = j + 1 := ⟨k - 1, by omega⟩
    have hx : l[i]? = some (l[i]'(by omega)) := List.getElem?_eq_getElem _
    have hne : (sq l i).length ≠ 0 := by
      obtain ⟨j, rfl⟩ : ∃ j, i = j + 1 := ⟨i - 1, by omega⟩
      exact sq_ne l j (by omega)
    obtain ⟨key1, hk1, h1⟩ := step K f q l hl ll i _ hx (by omega) key hkey hne (T _ (List.mem_of_getElem? hx)) (D i _ (by omega) hx)
    obtain ⟨key2, hk2, h2⟩ := loop K f q l hl ll T D n (i + 1) key1 k hk1 (by omega) (by omega) (by omega)
    exact ⟨key2, hk2, by rw [aLoop_succ h1, h2]⟩
end E27

end
section
/- E.Of at the evaluator: its answer. No conditions. -/
open Ab Go TabE Sp E18 E20 E22 E23 E26
set_option maxRecDepth 20000
set_option linter.unusedSimpArgs false
set_option linter.unusedVariables false
set_option maxHeartbeats 8000000
namespace E28
attribute [local simp ↓] s_seq s_reg s_regd s_cond s_block s_cons s_consG s_regD
attribute [local simp] s_nil s_loop s_round s_lpn s_lpe s_lpr firstReg s_gt s_gf s_wb s_wu s_val s_valN s_skip s_calls s_callP s_cax lookR flatR pureKs s_ret s_rgx s_sqn s_sqr s_sqe s_cdb s_bkn s_bkr s_bke s_exit s_ret' s_skip' s_finr s_finn s_fin1 s_fix s_clean s_gc0 o_tmp o_int o_bool o_nil o_str o_fn o_nil' l_hit l_miss l_nil ol_nil ol_cons ol_some x_move x_assign x_pick pk_t pk_f x_bin bn_s x_un x_extract x_callF cl_no x_callB x_callBF frzV x_conv cvx convA frame0 binA intOp resL resA results1 sealLW AV.pure AV.pureL keepT x_alloc x_box bxx x_build bdx x_buildSlice bsx x_buildSliceF bsf x_load ldx x_store stx x_slice slx x_fieldAddr x_field x_index ixx x_indexAddr iax x_makeSlice msx x_makeSliceF msf x_nilCheck newK genOf setK lookK fillA writeL writeC readC conts TyI.mk1 sliceA boundsA boundsB fitsA numA indexAddrA fieldAddrA partA fieldA indexA appendA copyA builtinA AV.cells chunk gcH reach keysT keepK inKs AV.keys AV.keysL Ty.isAgg eq1 eqL convA.go ltI w_u8 w_u32 w_u64 w_i64 w_fdiv w_tdiv w_tmod IntKind.bits unA sc_int sc_bool sc_str sc_sl sc_ref sc_ptr sc_pel sc_nilp sc_fn sc_nilf sc_if sc_nili sc_agg sc_tup sc_mem bs_pure bs_kl bs_length bs_cells bs_all sl_row sealRow sealY sl_int sl_bool sl_str sl_sl sl_nilp sl_nilf sl_nili sl_pel sl_agg sl_tup sl_fn sl_if nat_1 bs_cons bs_nil i_beq i_bne x_mkF x_mkI x_tassert x_panic s_pan s_sqp s_bkp s_finp s_fixp s_lpp s_rgp s_retp s_site s_stxN s_stxO x_callT clx El.avs_len s_dyn0 s_rgy barOf dynChk footL dynOK disjK keysOp opVals Op.operands
theorem sealX_fl (n : Nat) (h : Heap) (key : Key) (st : List El) (hk : lookK h key = some ⟨El.fl st, true, true, false, 5, true⟩) : sealX (n + 2) h (.ref key 0 st.length none) = some (.sl false (El.avs st) none, setK h key ⟨El.fl st, true, false, false, 5, true⟩) := by
  unfold sealX sealA
  have hp : (AV.ref key 0 st.length none).pure = false := rfl
  have f3 : (El.fl st).take (st.length * 5) = El.fl st := by rw [El.fl_take, List.take_length]
  simp only [hp, Bool.false_eq_true, if_false, hk]
  rw [if_pos ⟨trivial, by rw [El.fl_len]; omega, by simp⟩]
  simp only [List.drop_zero, f3]
  rw [sealL_of_pure n _ _ (El.fl_pure st)]
  simp only [El.fl_chunk]
theorem of (f : Bool) (q : Option Nat) (l : List G) (hl : ∀ g ∈ l, g.ok) (ll : l.length ≤ 9223372036854775807) : ∃ N, Con E N 22 [.agg [.sl f (l.map G.av) q]] (ofE l).av := by
  obtain ⟨N, hN⟩ := unif (P := fun (i n : Nat) => ∀ g, l[i]? = some g → Con E n 40 [(nd g ((sq l i).drop ((sq l i).length - kk g (sq l i).length))).av] (.int .i64 (dep (nd g ((sq l i).drop ((sq l i).length - kk g (sq l i).length))).core))) (fun i n m h hm g hg => (h g hg).mono hm) (List.range 39) (fun i hi => by
    have hi' : i < 39 := List.mem_range.1 hi
    cases hg : l[i]? with
    | none => exact ⟨0, fun g h => by cases h⟩
    | some g =>
      have iv := inv l hl i (by omega)
      have ln := cnts_len (sq l i)
      have w := nd_W g (hl g (List.mem_of_getElem? hg)) ((sq l i).drop ((sq l i).length - kk g (sq l i).length)) (fun x hx => iv.2 x (List.mem_of_mem_drop hx)) (by rw [List.length_drop]; omega)
      obtain ⟨n, hn⟩ := E12.depth _ w.1 (by omega)
      exact ⟨n, fun g' h => by cases h; exact hn⟩)
  obtain ⟨K, hK⟩ : ∃ K, N + 100 = K := ⟨_, rfl⟩
  have T : ∀ g ∈ l, ∀ k : Int, 0 ≤ k → k < 256 → ∀ h, aCall E K 0 71 [.agg [.int .u8 g.c, .int .u8 k, .int .u32 g.n]] h = some (.ret (.agg [.int .u8 (g.c % 4), .bool (decide (k % 2 = 1)), .int .u32 (tn g.c k g.n)]), h) := fun g hg k k0 k1 h =>
    E20.of g.c k g.n (hl g hg).2.2.1 ⟨k0, k1⟩ (hl g hg).2.2.2.2.1 K (by omega) 0 h
  have D := fun i g (hi : i < 39) (hx : l[i]? = some g) h => hN i (List.mem_range.2 hi) g hx K (by omega) 0 h
  refine ⟨K + 1, con_ofO E_fn22 (by simp [AV.pureL, AV.pure]) (Nat.le_of_ble_eq_true rfl) rfl (g := []) ?_⟩
  rw [body_22, c22]
  cases hc : l with
  | nil =>
    obtain ⟨k, hk⟩ : ∃ k, K = k + 1 := ⟨K - 1, by omega⟩
    have L : aLoop (aCode E (site fn22 (aRun E K)) (dcall (aRun E K)) K 1 fn22 b22) (cleanS 1 ((firstReg b22).bind fn22.head)) K (S0 f [] q 0) = some (.exit 0, ⟨[(1, .ptr (1, 1, 0) 0), (2, .ptr (1, 2, 0) 0), (3, .sl true [] (some 0)), (4, .int .i64 0), (17, .bool false)], [((1, 1, 0), bx [.sl f [] q]), ((1, 2, 0), bx Z)]⟩) := by
      rw [hk]; exact aLoop_end (E27.last0 (k + 1) (k + 1) f q) (by simp)
    simp [b22, lp, lps, c22, firstReg, bx, Z, S0] at L
    have t : ofE [] = .mk 0 true 16 true [] (some 0) true [] (some 0) := rfl
    rw [t]
    simp [-s_round, L, El.av, El.avs]
  | cons g r =>
    rw [← hc]
    have hx : l[0]? = some g := by rw [hc]; rfl
    have l0 : 0 < l.length := by rw [hc]; simp
    obtain ⟨key1, hk1, h1⟩ := E27.first K f q l hl ll g hx (T g (by rw [hc]; simp)) (by simpa [sq] using D 0 g (by omega) hx)
    obtain ⟨k, hk⟩ : ∃ k, K = k + 1 := ⟨K - 1, by omega⟩
    obtain ⟨key, hkey, h2⟩ := E27.loop K f q l hl ll T D (min 39 l.length - 1) 1 key1 k hk1 (by omega) (by omega) (by omega)
    have L : aLoop (aCode E (site fn22 (aRun E K)) (dcall (aRun E K)) K 1 fn22 b22) (cleanS 1 ((firstReg b22).bind fn22.head)) K (S0 f (l.map G.av) q 0) = E27.Fin f q l key (sq l (min 39 l.length)) := by
      have hk' : aLoop (aCode E (site fn22 (aRun E K)) (dcall (aRun E K)) K 1 fn22 b22) (cleanS 1 ((firstReg b22).bind fn22.head)) (k + 1) (S0 f (l.map G.av) q 0) = E27.Fin f q l key (sq l (min 39 l.length)) := by rw [aLoop_succ h1]; exact h2
      rwa [← hk] at hk'
    have hne : (sq l (min 39 l.length)).length ≠ 0 := by
      obtain ⟨j, hj⟩ : ∃ j, min 39 l.length = j + 1 := ⟨min 39 l.length - 1, by omega⟩
      rw [hj]; exact sq_ne l j (by omega)
    have iv := inv l hl (min 39 l.length) (by omega)
    have ln := cnts_len (sq l (min 39 l.length))
    unfold ofE
    unfold E27.Fin at L
    generalize sq l (min 39 l.length) = st at L hne iv ln ⊢
    simp [b22, lp, lps, c22, firstReg, bx, Z, S0] at L
    have l1 := El.fl_len st
    have l2 := El.fl_keys st
    have l3 := El.fl_pure st
    by_cases one : st.length = 1
    · obtain ⟨x, rfl⟩ : ∃ x, st = [x] := List.length_eq_one_iff.1 one
      have t : top [x] = x := rfl
      rw [t, El.av_eq]
      rw [El.fl_one] at L
      simp only [List.length_singleton] at L
      obtain ⟨m, rfl | rfl⟩ := hkey <;> simp [-s_round, L]
    · have t : top st = .mk 0 true 16 true [] (some 0) false st none := by
        match st, hne, one with
        | x :: y :: r, _, _ => simp [top]
      have one' : ¬ ((st.length : Int) = 1) := by omega
      rw [t, El.av]
      obtain ⟨m, rfl | rfl⟩ := hkey <;> simp [-s_round, L, one, one', l1, l2, l3, sealX_fl]
end E28

end
section
/- Encodings tell elements apart, in plain Lean. No conditions. -/
open Ab Go TabE Sp E18
set_option linter.unusedVariables false
set_option linter.unusedSimpArgs false
set_option maxHeartbeats 2000000
namespace E29
theorem oct0 (v : Int) : TG.oct v 0 = v % 128 := by unfold TG.oct; simp
theorem oct1 (v : Int) : TG.oct v 1 = v / 128 % 128 + 128 := rfl
theorem oct2 (v : Int) : TG.oct v 2 = v / 16384 % 128 + 128 := rfl
theorem oct3 (v : Int) : TG.oct v 3 = v / 2097152 % 128 + 128 := rfl
theorem grp_cases (v : Int) (h0 : 0 ≤ v) (h1 : v ≤ 268435455) : (v < 128 ∧ TG.grp v = [v % 128]) ∨ (128 ≤ v ∧ v < 16384 ∧ TG.grp v = [v / 128 % 128 + 128, v % 128]) ∨ (16384 ≤ v ∧ v < 2097152 ∧ TG.grp v = [v / 16384 % 128 + 128, v / 128 % 128 + 128, v % 128]) ∨ (2097152 ≤ v ∧ TG.grp v = [v / 2097152 % 128 + 128, v / 16384 % 128 + 128, v / 128 % 128 + 128, v % 128]) := by
  unfold TG.grp TG.top
  by_cases a : v < 128
  · simp [a, oct0]
  by_cases b : v < 16384
  · right; left; simp [a, b, oct0, oct1]; omega
  by_cases c : v < 2097152
  · right; right; left; simp [a, b, c, oct0, oct1, oct2]; omega
  · right; right; right; simp [a, b, c, oct0, oct1, oct2, oct3]; omega
theorem grp_inj (v w : Int) (r r' : List Int) (h0 : 0 ≤ v) (h1 : v ≤ 268435455) (k0 : 0 ≤ w) (k1 : w ≤ 268435455) (h : TG.grp v ++ r = TG.grp w ++ r') : v = w ∧ r = r' := by
  rcases grp_cases v h0 h1 with ⟨a, e⟩ | ⟨a, a', e⟩ | ⟨a, a', e⟩ | ⟨a, e⟩ <;> rcases grp_cases w k0 k1 with ⟨b, f⟩ | ⟨b, b', f⟩ | ⟨b, b', f⟩ | ⟨b, f⟩ <;> rw [e, f] at h <;> simp only [List.cons_append, List.nil_append, List.cons.injEq] at h
  · exact ⟨by omega, h.2⟩
  · omega
  · omega
  · omega
  · omega
  · exact ⟨by omega, h.2.2⟩
  · omega
  · omega
  · omega
  · omega
  · exact ⟨by omega, h.2.2.2⟩
  · omega
  · omega
  · omega
  · omega
  · exact ⟨by omega, h.2.2.2.2⟩
theorem tagO_inj (c c' n n' : Int) (k k' : Bool) (r r' : List Int) (hc : 0 ≤ c ∧ c ≤ 3) (hc' : 0 ≤ c' ∧ c' ≤ 3) (hn : 0 ≤ n ∧ n ≤ 268435455) (hn' : 0 ≤ n' ∧ n' ≤ 268435455) (h : TG.tagO c k n ++ r = TG.tagO c' k' n' ++ r') : c = c' ∧ k = k' ∧ n = n' ∧ r = r' := by
  unfold TG.tagO at h
  by_cases a : n < 31 <;> by_cases b : n' < 31
  · rw [if_pos a, if_pos b] at h
    simp only [List.cons_append, List.nil_append, List.cons.injEq] at h
    obtain ⟨h1, h2⟩ := h
    cases k <;> cases k' <;> simp at h1 <;> first | exact ⟨by omega, rfl, by omega, h2⟩ | (exfalso; omega)
  · rw [if_pos a, if_neg b] at h
    simp only [List.cons_append, List.nil_append, List.cons.injEq] at h
    obtain ⟨h1, h2⟩ := h
    exfalso
    cases k <;> cases k' <;> simp at h1 <;> omega
  · rw [if_neg a, if_pos b] at h
    simp only [List.cons_append, List.nil_append, List.cons.injEq] at h
    obtain ⟨h1, h2⟩ := h
    exfalso
    cases k <;> cases k' <;> simp at h1 <;> omega
  · rw [if_neg a, if_neg b] at h
    simp only [List.cons_append, List.cons.injEq] at h
    obtain ⟨h1, h2⟩ := h
    obtain ⟨h3, h4⟩ := grp_inj n n' r r' hn.1 hn.2 hn'.1 hn'.2 h2
    cases k <;> cases k' <;> simp at h1 <;> first | exact ⟨by omega, rfl, h3, h4⟩ | (exfalso; omega)
theorem lenO_inj (n m : Int) (r r' : List Int) (h0 : 0 ≤ n) (h1 : n ≤ 16777215) (k0 : 0 ≤ m) (k1 : m ≤ 16777215) (h : lenO n ++ r = lenO m ++ r') : n = m ∧ r = r' := by
  unfold lenO at h
  split at h <;> (try split at h) <;> (try split at h) <;> (try split at h) <;> (try split at h) <;> (try split at h) <;> simp only [List.cons_append, List.nil_append, List.cons.injEq] at h <;> first | (exfalso; omega) | exact ⟨by omega, h.2⟩ | exact ⟨by omega, h.2.2⟩ | exact ⟨by omega, h.2.2.2⟩ | exact ⟨by omega, h.2.2.2.2⟩
theorem tag_bd {e : El} (he : e.ok) (hv : vld e.core) : (0 ≤ e.c ∧ e.c ≤ 3) ∧ 0 ≤ e.n ∧ e.n ≤ 268435455 := by
  have v := ((vld_eq e).1 hv).1
  unfold tagE at v
  by_cases q : 3 < e.c ∨ 268435455 < e.n
  · rw [if_pos q] at v; cases v
  · have := he.cb; have := he.nb; omega
theorem encs_inj (n : Nat) : ∀ (l l' : List El), (∀ x ∈ l, ∀ y ∈ l', ∀ r r', enc x.core ++ r = enc y.core ++ r' → x.core = y.core ∧ r = r') → encs (El.cores l) = encs (El.cores l') → El.cores l = El.cores l'
  | [], [], _, _ => rfl
  | [], y :: l', _, h => by
    exfalso
    rw [El.cores, El.cores, encs, encs] at h
    exact E17.enc_ne y (List.append_eq_nil_iff.1 h.symm).1
  | x :: l, [], _, h => by
    exfalso
    rw [El.cores, El.cores, encs, encs] at h
    exact E17.enc_ne x (List.append_eq_nil_iff.1 h).1
  | x :: l, y :: l', H, h => by
    rw [El.cores, El.cores, encs, encs] at h
    obtain ⟨h1, h2⟩ := H x (List.mem_cons_self ..) y (List.mem_cons_self ..) _ _ h
    rw [El.cores, El.cores, h1, encs_inj n l l' (fun x hx y hy => H x (List.mem_cons_of_mem _ hx) y (List.mem_cons_of_mem _ hy)) h2]
theorem enc_inj : ∀ a b : El, a.ok → b.ok → vld a.core → vld b.core → (enc a.core).length ≤ 16777215 → (enc b.core).length ≤ 16777215 → ∀ r r', enc a.core ++ r = enc b.core ++ r' → a.core = b.core ∧ r = r' := by
  refine El.ind fun a ih b ha hb va vb la lb r r' h => ?_
  have ta := tag_bd ha va
  have tb := tag_bd hb vb
  obtain ⟨va1, va2, va3, va4⟩ := (vld_eq a).1 va
  obtain ⟨vb1, vb2, vb3, vb4⟩ := (vld_eq b).1 vb
  rw [enc_eq] at la lb
  rw [enc_eq, enc_eq] at h
  simp only [List.append_assoc] at h
  simp only [List.length_append] at la lb
  obtain ⟨h1, h2, h3, h4⟩ := tagO_inj _ _ _ _ _ _ _ _ ta.1 tb.1 ta.2 tb.2 h
  obtain ⟨h5, h6⟩ := lenO_inj _ _ _ _ (by omega) (by rw [List.length_append]; omega) (by omega) (by rw [List.length_append]; omega) h4
  rw [← List.append_assoc, ← List.append_assoc] at h6
  obtain ⟨h7, h8⟩ := List.append_inj h6 (by omega)
  refine ⟨?_, h8⟩
  rw [El.core_inj]
  cases hk : a.k with
  | false =>
    have hk' : b.k = false := by rw [← h2, hk]
    have sa := va3 hk
    have sb := vb3 hk'
    rw [sa, sb] at h7 ⊢
    simp only [El.cores, encs, List.append_nil] at h7
    exact ⟨h1, by rw [hk'], h3, h7, rfl⟩
  | true =>
    have hk' : b.k = true := by rw [← h2, hk]
    have ba := va2 hk
    have bb := vb2 hk'
    rw [ba, bb] at h7 ⊢
    simp only [List.nil_append] at h7
    refine ⟨h1, by rw [hk'], h3, rfl, encs_inj 0 _ _ (fun x hx y hy r r' q => ?_) h7⟩
    have mx := encs_mem hx
    have my := encs_mem hy
    exact ih x hx y (ha.sub x hx) (hb.sub y hy) (vlds_all.1 va4 x hx) (vlds_all.1 vb4 y hy) (by omega) (by omega) r r' q
theorem enc_eq_iff (a b : El) (ha : a.ok) (hb : b.ok) (va : vld a.core) (vb : vld b.core) (la : (enc a.core).length ≤ 16777215) (lb : (enc b.core).length ≤ 16777215) : a.core = b.core ↔ enc a.core = enc b.core :=
  ⟨fun h => by rw [h], fun h => (enc_inj a b ha hb va vb la lb [] [] (by rw [h])).1⟩
end E29

end
section
/- The law ElementsOrder at the evaluator: true at every two recipes. No conditions. -/
open Ab Go TabE Sp E18 E22 E26
set_option maxRecDepth 20000
set_option linter.unusedSimpArgs false
set_option linter.unusedVariables false
set_option maxHeartbeats 8000000
namespace E30
attribute [local simp ↓] s_seq s_reg s_regd s_cond s_block s_cons s_consG s_regD
attribute [local simp] s_nil s_loop s_round s_lpn s_lpe s_lpr firstReg s_gt s_gf s_wb s_wu s_val s_valN s_skip s_calls s_callP s_cax lookR flatR pureKs s_ret s_rgx s_sqn s_sqr s_sqe s_cdb s_bkn s_bkr s_bke s_exit s_ret' s_skip' s_finr s_finn s_fin1 s_fix s_clean s_gc0 o_tmp o_int o_bool o_nil o_str o_fn o_nil' l_hit l_miss l_nil ol_nil ol_cons ol_some x_move x_assign x_pick pk_t pk_f x_bin bn_s x_un x_extract x_callF cl_no x_callB x_callBF frzV x_conv cvx convA frame0 binA intOp resL resA results1 sealLW AV.pure AV.pureL keepT x_alloc x_box bxx x_build bdx x_buildSlice bsx x_buildSliceF bsf x_load ldx x_store stx x_slice slx x_fieldAddr x_field x_index ixx x_indexAddr iax x_makeSlice msx x_makeSliceF msf x_nilCheck newK genOf setK lookK fillA writeL writeC readC conts TyI.mk1 sliceA boundsA boundsB fitsA numA indexAddrA fieldAddrA partA fieldA indexA appendA copyA builtinA AV.cells chunk gcH reach keysT keepK inKs AV.keys AV.keysL Ty.isAgg eq1 eqL convA.go ltI w_u8 w_u32 w_u64 w_i64 w_fdiv w_tdiv w_tmod IntKind.bits unA sc_int sc_bool sc_str sc_sl sc_ref sc_ptr sc_pel sc_nilp sc_fn sc_nilf sc_if sc_nili sc_agg sc_tup sc_mem bs_pure bs_kl bs_length bs_cells bs_all sl_row sealRow sealY sl_int sl_bool sl_str sl_sl sl_nilp sl_nilf sl_nili sl_pel sl_agg sl_tup sl_fn sl_if nat_1 bs_cons bs_nil i_beq i_bne x_mkF x_mkI x_tassert x_panic s_pan s_sqp s_bkp s_finp s_fixp s_lpp s_rgp s_retp s_site s_stxN s_stxO x_callT clx El.avs_len s_dyn0 s_rgy barOf dynChk footL dynOK disjK keysOp opVals Op.operands
theorem cmp_lt : ∀ x y : List Int, cmpI x y = if ltI x y = true then -1 else if x = y then 0 else 1
  | [], [] => rfl
  | [], _ :: _ => by simp [cmpI, ltI]
  | _ :: _, [] => by simp [cmpI, ltI]
  | a :: x, b :: y => by
    have := cmp_lt x y
    rw [cmpI]
    by_cases e : a = b
    · subst e; rw [if_pos rfl, this]; simp [ltI]
    · by_cases l : a < b <;> simp [ltI, e, l]
theorem cmp_neg : ∀ x y : List Int, cmpI y x = - cmpI x y
  | [], [] => rfl
  | [], _ :: _ => rfl
  | _ :: _, [] => rfl
  | a :: x, b :: y => by
    have := cmp_neg x y
    rw [cmpI, cmpI]
    by_cases e : a = b
    · subst e; rw [if_pos rfl, if_pos rfl, this]
    · rw [if_neg e, if_neg (fun h => e h.symm)]
      by_cases l : a < b
      · rw [if_pos l, if_neg (by omega)]; rfl
      · rw [if_neg l, if_pos (by omega)]
theorem law (f f' : Bool) (q q' : Option Nat) (l l' : List G) (hl : ∀ g ∈ l, g.ok) (hl' : ∀ g ∈ l', g.ok) (ll : l.length ≤ 9223372036854775807) (ll' : l'.length ≤ 9223372036854775807) : ∃ N, Con E N 8 [.agg [.sl f (l.map G.av) q], .agg [.sl f' (l'.map G.av) q']] (.bool true) := by
  obtain ⟨N1, C1⟩ := E28.of f q l hl ll
  obtain ⟨N2, C2⟩ := E28.of f' q' l' hl' ll'
  have ga := good l hl
  have gb := good l' hl'
  generalize ofE l = a at C1 ga
  generalize ofE l' = b at C2 gb
  have la := ga.len
  have lb := gb.len
  obtain ⟨N3, C3⟩ := E17.rput a ga.ok ga.vld (by omega)
  obtain ⟨N4, C4⟩ := E17.rput b gb.ok gb.vld (by omega)
  obtain ⟨N5, C5⟩ := E10.put_ok a ga.ok ga.sm ga.chk (by omega)
  obtain ⟨N6, C6⟩ := E10.put_ok b gb.ok gb.sm gb.chk (by omega)
  have xa := enc_B a ga.ok ga.vld (by omega)
  have xb := enc_B b gb.ok gb.vld (by omega)
  have D1 := E14.compare a b _ _ _ _ _ _ xa xb (N5 + N6) _ _ (C5.mono (by omega)) (C6.mono (by omega))
  have D2 := E14.compare b a _ _ _ _ _ _ xb xa (N5 + N6) _ _ (C6.mono (by omega)) (C5.mono (by omega))
  have D3 := E14.compare a a _ _ _ _ _ _ xa xa (N5 + N6) _ _ (C5.mono (by omega)) (C5.mono (by omega))
  obtain ⟨N7, v, C7, hv⟩ := E14.same_ok a b ga.ok gb.ok ga.chk gb.chk
  have inj := E29.enc_eq_iff a b ga.ok gb.ok ga.vld gb.vld (by omega) (by omega)
  rw [inj] at hv
  rw [cmp_neg] at D2
  rw [cmp_lt] at D1 D2
  rw [cmpI_refl] at D3
  have wa := bs_go xa
  have wb := bs_go xb
  obtain ⟨x, hx⟩ : ∃ x, enc a.core = x := ⟨_, rfl⟩
  obtain ⟨y, hy⟩ : ∃ y, enc b.core = y := ⟨_, rfl⟩
  rw [hx] at C3 hv wa
  rw [hy] at C4 hv wb
  rw [hx, hy] at D1 D2
  obtain ⟨K, hK⟩ : ∃ K, N1 + N2 + N3 + N4 + N5 + N6 + N7 + 300 = K := ⟨_, rfl⟩
  have w1 := C1 K (by omega) 0
  have w2 := C2 K (by omega) 0
  have w3 := C3 K (by omega) 0
  have w4 := C4 K (by omega) 0
  have w7 := C7 K (by omega) 0
  have w8 := D1 K (by omega) 0
  have w9 := D2 K (by omega) 0
  have w10 := D3 K (by omega) 0
  have lv := LV.l04 K (by omega) 0
  rw [El.av_eq] at w1 w2 w3 w4 w7 w8 w9 w10
  rw [El.av_eq b] at w7 w8
  rw [El.av_eq a] at w9
  clear C1 C2 C3 C4 C5 C6 C7 D1 D2 D3
  have nn : ltI x x = false := by
    have := cmp_lt x x
    rw [cmpI_refl] at this
    by_cases h : ltI x x = true
    · rw [if_pos h] at this; cases this
    · simpa using h
  refine ⟨K + 1, con_of E_fn8 (by simp [AV.pureL, AV.pure]) (Nat.le_of_ble_eq_true rfl) rfl rfl (g := []) ?_⟩
  rw [body_8, c8]
  by_cases h1 : ltI x y = true
  · have ne : x ≠ y := fun e => by rw [e] at h1 nn; rw [nn] at h1; cases h1
    have v0 : v = false := by cases v; rfl; exact absurd (hv.1 rfl) ne
    rw [v0] at w7
    rw [if_pos h1] at w8 w9
    simp [w1, w2, w3, w4, w7, w8, w9, w10, lv, wa, wb, h1, ne]
  by_cases h2 : x = y
  · have v1 : v = true := hv.2 h2
    subst h2
    rw [v1] at w7
    rw [if_neg h1, if_pos rfl] at w8 w9
    simp [w1, w2, w3, w4, w7, w8, w9, w10, lv, wa, wb, nn]
  · have v0 : v = false := by cases v; rfl; exact absurd (hv.1 rfl) h2
    have h1' : ltI x y = false := by simpa using h1
    rw [v0] at w7
    rw [if_neg h1, if_neg h2] at w8 w9
    simp [w1, w2, w3, w4, w7, w8, w9, w10, lv, wa, wb, h1', h2]
end E30

end
section
/- fields.Ordered at the evaluator: what it answers. No conditions. -/
open Ab Go TabE Sp E34 F1 F4 F5 F20
set_option maxRecDepth 20000
set_option linter.unusedSimpArgs false
set_option linter.unusedVariables false
set_option maxHeartbeats 8000000
namespace F21
attribute [local simp ↓] s_seq s_reg s_regd s_cond s_block s_cons s_consG s_regD
attribute [local simp] s_nil s_loop s_round s_lpn s_lpe s_lpr firstReg s_gt s_gf s_wb s_wu s_val s_valN s_skip s_calls s_callP s_cax lookR flatR pureKs s_ret s_rgx s_sqn s_sqr s_sqe s_cdb s_bkn s_bkr s_bke s_exit s_ret' s_skip' s_finr s_finn s_fin1 s_fix s_clean s_gc0 o_tmp o_int o_bool o_nil o_str o_fn o_nil' l_hit l_miss l_nil ol_nil ol_cons ol_some x_move x_assign x_pick pk_t pk_f x_bin bn_s x_un x_extract x_callF cl_no x_callB x_callBF frzV x_conv cvx convA frame0 binA intOp resL resA results1 sealLW AV.pure AV.pureL keepT x_alloc x_box bxx x_build bdx x_buildSlice bsx x_buildSliceF bsf x_load ldx x_store stx x_slice slx x_fieldAddr x_field x_index ixx x_indexAddr iax x_makeSlice msx x_makeSliceF msf x_nilCheck newK genOf setK lookK fillA writeL writeC readC conts TyI.mk1 sliceA boundsA boundsB fitsA numA indexAddrA fieldAddrA partA fieldA indexA appendA copyA builtinA AV.cells chunk gcH reach keysT keepK inKs AV.keys AV.keysL Ty.isAgg eq1 eqL convA.go ltI w_u8 w_u32 w_u64 w_i64 w_fdiv w_tdiv w_tmod IntKind.bits unA sc_int sc_bool sc_str sc_sl sc_ref sc_ptr sc_pel sc_nilp sc_fn sc_nilf sc_if sc_nili sc_agg sc_tup sc_mem bs_pure bs_kl bs_length bs_cells bs_all sl_row sealRow sealY sl_int sl_bool sl_str sl_sl sl_nilp sl_nilf sl_nili sl_pel sl_agg sl_tup sl_fn sl_if nat_1 bs_cons bs_nil i_beq i_bne x_mkF x_mkI x_tassert x_panic s_pan s_sqp s_bkp s_finp s_fixp s_lpp s_rgp s_retp s_site s_stxN s_stxO x_callT clx El.avs_len s_dyn0 s_rgy barOf dynChk footL dynOK disjK keysOp opVals Op.operands
def od : El → List El → Nat → Option (Nat × Int)
  | _, [], _ => none
  | y, x :: r, i => if cmpI (enc y.core) (enc x.core) = 1 then some (i, 13) else if cmpI (enc y.core) (enc x.core) = 0 then some (i, 14) else od x r (i + 1)
def ods : List El → Option (Nat × Int)
  | [] => none
  | y :: r => od y r 1
def oP : Option (Nat × Int) → List Int
  | none => []
  | some (i, _) => [(i : Int)]
def oE : Option (Nat × Int) → Int
  | none => 0
  | some (_, w) => w
def Fn (e : El) : Option (Nat × Int) → AExit × St
  | none => Out e
  | some (i, w) => Bad i w
theorem cmp3 (x y : List Int) : cmpI x y = -1 ∨ cmpI x y = 0 ∨ cmpI x y = 1 := by
  rw [E30.cmp_lt]
  split
  · exact .inl rfl
  · split
    · exact .inr (.inl rfl)
    · exact .inr (.inr rfl)
abbrev LpO (K : Nat) := aLoop (aCode E (aCall E K) (dcall (aRun E K)) K 1 fn51 bO) (cleanS 1 ((firstReg bO).bind fn51.head))
abbrev Chk (K : Nat) (e : El) : Prop := ∀ x ∈ e.s, ∀ h, aCall E K 0 32 [x.av] h = some (.ret (.int .i64 0), h)
abbrev Cmp (K : Nat) (e : El) : Prop := ∀ y ∈ e.s, ∀ x ∈ e.s, ∀ h, aCall E K 0 37 [y.av, x.av] h = some (.ret (.int .i64 (cmpI (enc y.core) (enc x.core))), h)
theorem loop (K : Nat) (hK : 20 ≤ K) (e : El) (le : e.s.length ≤ 900) (A : Chk K e) (C : Cmp K e) : ∀ (r : List El) (y : El) (j k : Nat), e.s.drop j = y :: r → r.length < k → LpO K k (S e (j + 1)) = some (Fn e (od y r (j + 1)))
  | [], y, j, k, h1, hk => by
    obtain ⟨k, rfl⟩ : ∃ i, k = i + 1 := ⟨k - 1, by omega⟩
    have l := congrArg List.length h1
    rw [List.length_drop, List.length_singleton] at l
    have : j + 1 = e.s.length := by omega
    rw [this]
    exact aLoop_end (last K K e) (fun h => by cases h)
  | x :: r, y, j, k, h1, hk => by
    obtain ⟨k, rfl⟩ : ∃ i, k = i + 1 := ⟨k - 1, by omega⟩
    have l := congrArg List.length h1
    rw [List.length_drop, List.length_cons, List.length_cons] at l
    have hy : e.s[j]? = some y := by
      have := congrArg (fun l => l[0]?) h1
      simpa [List.getElem?_drop] using this
    have hx : e.s[j + 1]? = some x := by
      have := congrArg (fun l => l[1]?) h1
      simpa [List.getElem?_drop] using this
    have hd : e.s.drop (j + 1) = x :: r := by
      have := congrArg List.tail h1
      simpa [List.tail_drop] using this
    have A' := A x (List.mem_of_getElem? hx)
    have C' := C y (List.mem_of_getElem? hy) x (List.mem_of_getElem? hx)
    unfold od
    rcases cmp3 (enc y.core) (enc x.core) with q | q | q <;> rw [q] at C' ⊢
    · rw [if_neg (by decide), if_neg (by decide)]
      unfold LpO
      rw [aLoop_succ (goS K K e x y j (by omega) hy hx A' C')]
      exact loop K hK e le A C r x (j + 1) k hd (by simp at hk; omega)
    · rw [if_neg (by decide), if_pos rfl]
      exact aLoop_end (badS K K e x y j 0 14 (.inr ⟨rfl, rfl⟩) (by omega) hK hy hx A' C') (fun h => by cases h)
    · rw [if_pos rfl]
      exact aLoop_end (badS K K e x y j 1 13 (.inl ⟨rfl, rfl⟩) (by omega) hK hy hx A' C') (fun h => by cases h)
theorem loop0 (K : Nat) (hK : 20 ≤ K) (e : El) (le : e.s.length ≤ 900) (A : Chk K e) (C : Cmp K e) (hk : e.s.length < K) : LpO K K (S e 0) = some (Fn e (ods e.s)) := by
  obtain ⟨k, hk'⟩ : ∃ i, K = i + 1 := ⟨K - 1, by omega⟩
  cases hs : e.s with
  | nil =>
    have := last K K e
    rw [hs] at this
    have h := aLoop_end (k := k) this (by simp)
    rw [← hk'] at h
    exact h
  | cons x r =>
    have hx : e.s[0]? = some x := by rw [hs]; rfl
    have A' := A x (List.mem_of_getElem? hx)
    have h := loop K hK e le A C r x 0 k (by rw [hs]; rfl) (by rw [hs] at hk; simp at hk; omega)
    unfold LpO at h ⊢
    have h2 := aLoop_succ (k := k) (go0 K K e x hx A')
    rw [← hk'] at h2
    rw [h2]
    exact h
theorem ordered (K : Nat) (hK : 20 ≤ K) (e : El) (le : e.s.length ≤ 900) (A : Chk K e) (C : Cmp K e) (hk : e.s.length < K) : ∀ h, aCall E (K + 1) 0 51 [e.av] h = some (.ret (fF (oP (ods e.s)) (oE (ods e.s))), h) := by
  intro h
  have L := loop0 K hK e le A C hk
  rw [aCall_fn rfl E_fn51 (by simp [AV.pureL, El.av_pure]) (Nat.le_of_ble_eq_true rfl) rfl rfl, body_51, c51]
  simp [LpO, bO, lp, lps, c51, firstReg, F20.S, ec] at L
  rcases ho : ods e.s with _ | ⟨i, w⟩
  · rw [ho] at L
    simp [El.av_eq, -s_round, L, Fn, oP, oE]
  · rw [ho] at L
    simp [El.av_eq, -s_round, L, Fn, oP, oE, ns]
end F21

end
section
/- The reference's Ordered at the evaluator. No conditions. -/
open Ab Go TabE Sp E34 F1 F4 F5 F20 F21
set_option maxRecDepth 20000
set_option linter.unusedSimpArgs false
set_option linter.unusedVariables false
set_option maxHeartbeats 8000000
namespace F22
def bR : Code := lp c52 0
abbrev SR (e : El) (i : Nat) : St := ⟨[(1, .ptr (1, 1, 0) 0), (2, .ptr (1, 2, 0) 0), (3, .int .i64 (i : Int))], [((1, 1, 0), bx (ec e)), ((1, 2, 0), bx zc)]⟩
abbrev BadR (i : Nat) (w : Int) : AExit × St := (.ret, ⟨[(2, .ptr (1, 2, 0) 0)], [((1, 2, 0), bx [.sl false [.int .i64 i] none, .int .i64 w])]⟩)
theorem cmpF (a b : List Int) : (cmpI a b = -1 ∧ ltI a b = true ∧ a ≠ b) ∨ (cmpI a b = 0 ∧ ltI a b = false ∧ a = b) ∨ (cmpI a b = 1 ∧ ltI a b = false ∧ a ≠ b) := by
  have nn : ∀ x, ltI x x = false := fun x => by
    have := E30.cmp_lt x x
    rw [E18.cmpI_refl] at this
    by_cases h : ltI x x = true
    · rw [if_pos h] at this; cases this
    · simpa using h
  rw [E30.cmp_lt]
  by_cases h : ltI a b = true
  · exact .inl ⟨by rw [if_pos h], h, fun e => by rw [e, nn] at h; cases h⟩
  · have h' : ltI a b = false := by simpa using h
    by_cases e : a = b
    · exact .inr (.inl ⟨by rw [if_neg h, if_pos e], h', e⟩)
    · exact .inr (.inr ⟨by rw [if_neg h, if_neg e], h', e⟩)
theorem goS (q k1 : Nat) (e x y : El) (a b : List Int) (ca cb : Option Nat) (j : Nat) (hj : j < 1000) (hy : e.s[j]? = some y) (hx : e.s[j + 1]? = some x) (A : ∀ h, aCall E q 0 84 [y.av] h = some (.ret (.sl false (bs a) ca), h)) (B : ∀ h, aCall E q 0 84 [x.av] h = some (.ret (.sl false (bs b) cb), h)) (ab : isB a) (bb : isB b) (h1 : ltI a b = true) (h2 : a ≠ b) : rnd fn52 bR q k1 (SR e (j + 1)) = some (.normal, SR e (j + 1 + 1)) := by
  have hi : j + 1 < e.s.length := (List.getElem?_eq_some_iff.1 hx).1
  have hi' : (j : Int) + 1 < (e.s.length : Int) := by omega
  have ix := El.at_ e.fs e.cs e.s (j + 1) x hx
  have iy := El.at_ e.fs e.cs e.s j y hy
  have w := w64' ((j : Int) + 1 + 1) (by omega) (by omega)
  have w2 := w64' (j : Int) (by omega) (by omega)
  have wa := bs_go ab
  have wb := bs_go bb
  try simp at ix
  rw [El.av_eq] at A B
  simp [bR, lp, lps, c52, ↓s_seq, ↓s_reg, ↓s_cond, ↓s_block, ↓s_cons, s_nil, firstReg, s_val, s_calls, s_cax, s_ret, s_rgx, s_sqn, s_cdb, s_bkn, s_skip', s_clean, o_tmp, o_int, l_hit, l_miss, ol_nil, ol_cons, ol_some, x_move, x_assign, x_bin, bn_s, x_callF, cl_no, x_callB, x_conv, cvx, convA, binA, intOp, sealLW, AV.pure, AV.pureL, keepT, x_load, ldx, x_fieldAddr, x_indexAddr, iax, newK, genOf, setK, lookK, writeL, writeC, readC, conts, TyI.mk1, fieldAddrA, appendA, copyA, builtinA, AV.cells, gcH, reach, keysT, keepK, inKs, AV.keys, AV.keysL, Ty.isAgg, bs_length, bs_cells, sl_agg, El.avs_len, ix, iy, w, w2, hi', A, B, wa, wb, h1, h2]
theorem badS (q k1 : Nat) (e x y : El) (a b : List Int) (ca cb : Option Nat) (j : Nat) (v : Int) (hv : a ≠ b ∧ v = 13 ∨ a = b ∧ v = 14) (hq : 20 ≤ q) (hj : j < 1000) (hy : e.s[j]? = some y) (hx : e.s[j + 1]? = some x) (A : ∀ h, aCall E q 0 84 [y.av] h = some (.ret (.sl false (bs a) ca), h)) (B : ∀ h, aCall E q 0 84 [x.av] h = some (.ret (.sl false (bs b) cb), h)) (ab : isB a) (bb : isB b) (h1 : ltI a b = false) : rnd fn52 bR q k1 (SR e (j + 1)) = some (BadR (j + 1) v) := by
  have hi : j + 1 < e.s.length := (List.getElem?_eq_some_iff.1 hx).1
  have hi' : (j : Int) + 1 < (e.s.length : Int) := by omega
  have ix := El.at_ e.fs e.cs e.s (j + 1) x hx
  have iy := El.at_ e.fs e.cs e.s j y hy
  have w2 := w64' (j : Int) (by omega) (by omega)
  have wa := bs_go ab
  have wb := bs_go bb
  have f := rone v ((j : Int) + 1) (by omega) q (by omega) 0
  try simp [ns] at f
  try simp at ix
  rw [El.av_eq] at A B
  rcases hv with ⟨h2, rfl⟩ | ⟨h2, rfl⟩
  · simp [bR, lp, lps, c52, ↓s_seq, ↓s_reg, ↓s_cond, ↓s_block, ↓s_cons, s_nil, firstReg, s_val, s_skip, s_calls, s_cax, s_ret, s_rgx, s_sqn, s_sqr, s_cdb, s_bkr, s_ret', s_skip', s_clean, o_tmp, o_int, l_hit, l_miss, ol_nil, ol_cons, ol_some, x_move, x_assign, x_bin, bn_s, x_callF, cl_no, x_callB, x_conv, cvx, convA, binA, intOp, sealLW, AV.pure, AV.pureL, keepT, x_load, ldx, x_store, stx, x_fieldAddr, x_indexAddr, iax, newK, genOf, setK, lookK, writeL, writeC, readC, conts, TyI.mk1, fieldAddrA, appendA, copyA, builtinA, AV.cells, gcH, reach, keysT, keepK, inKs, AV.keys, AV.keysL, Ty.isAgg, sc_int, sc_sl, bs_length, bs_cells, sl_int, sl_agg, El.avs_len, ix, iy, w2, hi', A, B, wa, wb, h1, h2, f]
  · subst h2
    simp [bR, lp, lps, c52, ↓s_seq, ↓s_reg, ↓s_cond, ↓s_block, ↓s_cons, s_nil, firstReg, s_val, s_skip, s_calls, s_cax, s_ret, s_rgx, s_sqn, s_sqr, s_cdb, s_bkr, s_ret', s_skip', s_clean, o_tmp, o_int, l_hit, l_miss, ol_nil, ol_cons, ol_some, x_move, x_assign, x_bin, bn_s, x_callF, cl_no, x_callB, x_conv, cvx, convA, binA, intOp, sealLW, AV.pure, AV.pureL, keepT, x_load, ldx, x_store, stx, x_fieldAddr, x_indexAddr, iax, newK, genOf, setK, lookK, writeL, writeC, readC, conts, TyI.mk1, fieldAddrA, appendA, copyA, builtinA, AV.cells, gcH, reach, keysT, keepK, inKs, AV.keys, AV.keysL, Ty.isAgg, sc_int, sc_sl, bs_length, bs_cells, sl_int, sl_agg, El.avs_len, ix, iy, w2, hi', A, B, wa, h1, f]
abbrev OutR (e : El) (i : Nat) : AExit × St := (.exit 0, ⟨[(1, .ptr (1, 1, 0) 0), (2, .ptr (1, 2, 0) 0), (3, .int .i64 (i : Int)), (10, .bool false)], [((1, 1, 0), bx (ec e)), ((1, 2, 0), bx zc)]⟩)
theorem last (q k1 : Nat) (e : El) : rnd fn52 bR q k1 (SR e e.s.length) = some (OutR e e.s.length) := by
  simp [bR, lp, lps, c52, ↓s_seq, ↓s_reg, ↓s_cond, ↓s_cons, s_nil, firstReg, s_val, s_rgx, s_sqn, s_sqe, s_cdb, s_exit, s_clean, o_tmp, l_hit, l_miss, ol_nil, ol_cons, ol_some, x_move, x_bin, bn_s, x_callB, binA, intOp, keepT, x_load, ldx, x_fieldAddr, newK, genOf, setK, lookK, writeL, writeC, readC, conts, TyI.mk1, fieldAddrA, appendA, copyA, builtinA, AV.cells, gcH, reach, keysT, keepK, inKs, AV.keys, AV.keysL, Ty.isAgg, El.avs_len]
theorem last0 (q k1 : Nat) (e : El) (h : e.s = []) : rnd fn52 bR q k1 (SR e 1) = some (OutR e 1) := by
  simp [bR, lp, lps, c52, ↓s_seq, ↓s_reg, ↓s_cond, ↓s_cons, s_nil, firstReg, s_val, s_rgx, s_sqn, s_sqe, s_cdb, s_exit, s_clean, o_tmp, l_hit, l_miss, ol_nil, ol_cons, ol_some, x_move, x_bin, bn_s, x_callB, binA, intOp, keepT, x_load, ldx, x_fieldAddr, newK, genOf, setK, lookK, writeL, writeC, readC, conts, TyI.mk1, fieldAddrA, appendA, copyA, builtinA, AV.cells, gcH, reach, keysT, keepK, inKs, AV.keys, AV.keysL, Ty.isAgg, El.avs_len, h]
abbrev LpR (K : Nat) := aLoop (aCode E (aCall E K) (dcall (aRun E K)) K 1 fn52 bR) (cleanS 1 ((firstReg bR).bind fn52.head))
abbrev Enc (K : Nat) (e : El) : Prop := ∀ x ∈ e.s, isB (enc x.core) ∧ ∃ c, ∀ h, aCall E K 0 84 [x.av] h = some (.ret (.sl false (bs (enc x.core)) c), h)
def Fn (i : Nat) (e : El) : Option (Nat × Int) → AExit × St
  | none => OutR e i
  | some (i, w) => BadR i w
theorem loop (K : Nat) (hK : 20 ≤ K) (e : El) (le : e.s.length ≤ 900) (A : Enc K e) : ∀ (r : List El) (y : El) (j k : Nat), e.s.drop j = y :: r → r.length < k → LpR K k (SR e (j + 1)) = some (Fn e.s.length e (od y r (j + 1)))
  | [], y, j, k, h1, hk => by
    obtain ⟨k, rfl⟩ : ∃ i, k = i + 1 := ⟨k - 1, by omega⟩
    have l := congrArg List.length h1
    rw [List.length_drop, List.length_singleton] at l
    have : j + 1 = e.s.length := by omega
    rw [this]
    exact aLoop_end (last K K e) (fun h => by cases h)
  | x :: r, y, j, k, h1, hk => by
    obtain ⟨k, rfl⟩ : ∃ i, k = i + 1 := ⟨k - 1, by omega⟩
    have l := congrArg List.length h1
    rw [List.length_drop, List.length_cons, List.length_cons] at l
    have hy : e.s[j]? = some y := by
      have := congrArg (fun l => l[0]?) h1
      simpa [List.getElem?_drop] using this
    have hx : e.s[j + 1]? = some x := by
      have := congrArg (fun l => l[1]?) h1
      simpa [List.getElem?_drop] using this
    have hd : e.s.drop (j + 1) = x :: r := by
      have := congrArg List.tail h1
      simpa [List.tail_drop] using this
    obtain ⟨bx', cx, Cx⟩ := A x (List.mem_of_getElem? hx)
    obtain ⟨by', cy, Cy⟩ := A y (List.mem_of_getElem? hy)
    unfold od
    rcases cmpF (enc y.core) (enc x.core) with ⟨q, h1, h2⟩ | ⟨q, h1, h2⟩ | ⟨q, h1, h2⟩ <;> rw [q]
    · rw [if_neg (by decide), if_neg (by decide)]
      unfold LpR
      rw [aLoop_succ (goS K K e x y _ _ cy cx j (by omega) hy hx Cy Cx by' bx' h1 h2)]
      exact loop K hK e le A r x (j + 1) k hd (by simp at hk; omega)
    · rw [if_neg (by decide), if_pos rfl]
      exact aLoop_end (badS K K e x y _ _ cy cx j 14 (.inr ⟨h2, rfl⟩) hK (by omega) hy hx Cy Cx by' bx' h1) (fun h => by cases h)
    · rw [if_pos rfl]
      exact aLoop_end (badS K K e x y _ _ cy cx j 13 (.inl ⟨h2, rfl⟩) hK (by omega) hy hx Cy Cx by' bx' h1) (fun h => by cases h)
theorem loop0 (K : Nat) (hK : 20 ≤ K) (e : El) (le : e.s.length ≤ 900) (A : Enc K e) (hk : e.s.length < K) : ∃ i, LpR K K (SR e 1) = some (Fn i e (ods e.s)) := by
  obtain ⟨k, hk'⟩ : ∃ i, K = i + 1 := ⟨K - 1, by omega⟩
  cases hs : e.s with
  | nil =>
    have h := aLoop_end (k := k) (last0 K K e hs) (fun h => by cases h)
    rw [← hk'] at h
    exact ⟨1, h⟩
  | cons x r => exact ⟨_, loop K hK e le A r x 0 K (by rw [hs]; rfl) (by rw [hs] at hk; simp at hk; omega)⟩
theorem ordered (K : Nat) (hK : 20 ≤ K) (e : El) (le : e.s.length ≤ 900) (A : Enc K e) (hk : e.s.length < K) : ∀ h, aCall E (K + 1) 0 52 [e.av] h = some (.ret (fR (oP (ods e.s)) (oE (ods e.s))), h) := by
  intro h
  obtain ⟨i0, L⟩ := loop0 K hK e le A hk
  rw [aCall_fn rfl E_fn52 (by simp [AV.pureL, El.av_pure]) (Nat.le_of_ble_eq_true rfl) rfl rfl, body_52, c52]
  simp [LpR, bR, lp, lps, c52, firstReg, SR, ec] at L
  rcases ho : ods e.s with _ | ⟨i, w⟩
  · rw [ho] at L
    simp [El.av_eq, ↓s_seq, ↓s_reg, ↓s_block, ↓s_cons, s_nil, s_loop, firstReg, s_val, s_skip, s_rgx, s_sqn, s_bke, s_ret', s_finr, s_fin1, s_fix, s_clean, o_tmp, o_int, l_hit, l_miss, ol_nil, x_assign, frame0, resL, resA, results1, AV.pure, AV.pureL, keepT, x_alloc, x_box, bxx, x_build, bdx, x_store, stx, newK, genOf, setK, lookK, fillA, writeL, writeC, readC, TyI.mk1, AV.cells, gcH, reach, keysT, keepK, inKs, AV.keys, AV.keysL, Ty.isAgg, sc_int, sc_bool, sc_sl, sl_agg, L, Fn, oP, oE]
  · rw [ho] at L
    simp [El.av_eq, ↓s_seq, ↓s_reg, ↓s_block, ↓s_cons, s_nil, s_loop, firstReg, s_val, s_rgx, s_sqn, s_sqr, s_bkr, s_finr, s_fin1, s_fix, s_clean, o_tmp, o_int, l_hit, l_miss, x_assign, frame0, resL, resA, results1, AV.pure, AV.pureL, keepT, x_alloc, x_box, bxx, newK, genOf, setK, lookK, readC, TyI.mk1, AV.cells, gcH, reach, keysT, keepK, inKs, AV.keys, AV.keysL, Ty.isAgg, sc_int, sc_bool, sc_sl, sl_agg, L, Fn, oP, oE, ns]
end F22

end
section
/- The reference's Digits at the evaluator. No conditions. -/
open Ab Go TabE Sp E34 F1 F4 F5
set_option maxRecDepth 20000
set_option linter.unusedSimpArgs false
set_option linter.unusedVariables false
set_option maxHeartbeats 8000000
namespace F17
attribute [local simp ↓] s_seq s_reg s_regd s_cond s_block s_cons s_consG
attribute [local simp] s_nil s_loop s_round s_lpn s_lpe s_lpr firstReg s_gt s_gf s_wb s_wu s_val s_valN s_skip s_calls s_callP s_cax lookR flatR pureKs s_ret s_rgx s_sqn s_sqr s_sqe s_cdb s_bkn s_bkr s_bke s_exit s_ret' s_skip' s_finr s_finn s_fin1 s_fix s_clean s_gc0 o_tmp o_int o_bool o_nil o_str o_fn o_nil' l_hit l_miss l_nil ol_nil ol_cons ol_some x_move x_assign x_pick pk_t pk_f x_bin bn_s x_un x_extract x_callF cl_no x_callB x_callBF frzV x_conv cvx convA frame0 binA intOp resL resA results1 sealLW AV.pure AV.pureL keepT x_alloc x_box bxx x_build bdx x_buildSlice bsx x_buildSliceF bsf x_load ldx x_store stx x_slice slx x_fieldAddr x_field x_index ixx x_indexAddr iax x_makeSlice msx x_makeSliceF msf x_nilCheck newK genOf setK lookK fillA writeL writeC readC conts TyI.mk1 sliceA boundsA boundsB fitsA numA indexAddrA fieldAddrA partA fieldA indexA appendA copyA builtinA AV.cells chunk gcH reach keysT keepK inKs AV.keys AV.keysL Ty.isAgg eq1 eqL convA.go ltI w_u8 w_u32 w_u64 w_i64 w_fdiv w_tdiv w_tmod IntKind.bits unA sc_int sc_bool sc_str sc_sl sc_ref sc_ptr sc_pel sc_nilp sc_fn sc_nilf sc_if sc_nili sc_agg sc_tup sc_mem bs_pure bs_kl bs_length bs_cells bs_all sl_row sealRow sealY sl_int sl_bool sl_str sl_sl sl_nilp sl_nilf sl_nili sl_pel sl_agg sl_tup sl_fn sl_if nat_1 bs_cons bs_nil i_beq i_bne x_mkF x_mkI x_tassert x_panic s_pan s_sqp s_bkp s_finp s_fixp s_lpp s_rgp s_retp s_site s_stxN s_stxO x_callT clx El.avs_len
theorem dig1 (v : Int) (h0 : 0 ≤ v) (h1 : v < 128) : Con E 20 108 [.int .u32 v] (.sl false [.int .u8 (TG.oct v 0)] (some 1)) := by
  refine con_of E_fn108 rfl (Nat.le_of_ble_eq_true rfl) rfl rfl (g := []) ?_
  rw [body_108, c108]
  have q1 : v.tmod 128 = v := by rw [Int.tmod_eq_emod_of_nonneg h0]; omega
  have q2 : v.tdiv 128 = 0 := by rw [Int.tdiv_eq_ediv_of_nonneg h0]; omega
  have q3 : v % 256 = v := by omega
  have o : TG.oct v 0 = v := by unfold TG.oct; simp; omega
  simp [q1, q2, q3, o, w_i64]
theorem dig2 (v : Int) (h0 : 128 ≤ v) (h1 : v < 16384) : Con E 20 108 [.int .u32 v] (.sl false [.int .u8 (TG.oct v 1), .int .u8 (TG.oct v 0)] none) := by
  refine con_of E_fn108 rfl (Nat.le_of_ble_eq_true rfl) rfl rfl (g := []) ?_
  rw [body_108, c108]
  have q1 : v.tmod 128 = v % 128 := Int.tmod_eq_emod_of_nonneg (by omega)
  have q2 : v.tdiv 128 = v / 128 := Int.tdiv_eq_ediv_of_nonneg (by omega)
  have q3 : v % 128 % 256 = v % 128 := by omega
  have a1 : 0 < v / 128 := by omega
  have m1 : v / 128 % 4294967296 = v / 128 := by omega
  have q4 : (v / 128).tmod 128 = v / 128 := by rw [Int.tmod_eq_emod_of_nonneg (by omega)]; omega
  have q5 : (v / 128).tdiv 128 = 0 := by rw [Int.tdiv_eq_ediv_of_nonneg (by omega)]; omega
  have m2 : (128 + v / 128) % 4294967296 = 128 + v / 128 := by omega
  have q6 : (128 + v / 128) % 256 = 128 + v / 128 := by omega
  have o0 : TG.oct v 0 = v % 128 := by unfold TG.oct; simp
  have o1 : TG.oct v 1 = 128 + v / 128 := by unfold TG.oct; simp; omega
  simp [q1, q2, q3, a1, m1, m2, q4, q5, q6, o0, o1, w_i64]
theorem dig3 (v : Int) (h0 : 16384 ≤ v) (h1 : v < 2097152) : Con E 20 108 [.int .u32 v] (.sl false [.int .u8 (TG.oct v 2), .int .u8 (TG.oct v 1), .int .u8 (TG.oct v 0)] none) := by
  refine con_of E_fn108 rfl (Nat.le_of_ble_eq_true rfl) rfl rfl (g := []) ?_
  rw [body_108, c108]
  have q1 : v.tmod 128 = v % 128 := Int.tmod_eq_emod_of_nonneg (by omega)
  have q2 : v.tdiv 128 = v / 128 := Int.tdiv_eq_ediv_of_nonneg (by omega)
  have q3 : v % 128 % 256 = v % 128 := by omega
  have a1 : 0 < v / 128 := by omega
  have m1 : v / 128 % 4294967296 = v / 128 := by omega
  have q4 : (v / 128).tmod 128 = v / 128 % 128 := Int.tmod_eq_emod_of_nonneg (by omega)
  have q5 : (v / 128).tdiv 128 = v / 16384 := by rw [Int.tdiv_eq_ediv_of_nonneg (by omega)]; omega
  have a2 : 0 < v / 16384 := by omega
  have m3 : v / 16384 % 4294967296 = v / 16384 := by omega
  have q7 : (v / 16384).tmod 128 = v / 16384 := by rw [Int.tmod_eq_emod_of_nonneg (by omega)]; omega
  have q8 : (v / 16384).tdiv 128 = 0 := by rw [Int.tdiv_eq_ediv_of_nonneg (by omega)]; omega
  have m2 : (128 + v / 128 % 128) % 4294967296 = 128 + v / 128 % 128 := by omega
  have m4 : (128 + v / 16384) % 4294967296 = 128 + v / 16384 := by omega
  have q6 : (128 + v / 128 % 128) % 256 = 128 + v / 128 % 128 := by omega
  have q9 : (128 + v / 16384) % 256 = 128 + v / 16384 := by omega
  have o0 : TG.oct v 0 = v % 128 := by unfold TG.oct; simp
  have o1 : TG.oct v 1 = 128 + v / 128 % 128 := by unfold TG.oct; simp; omega
  have o2 : TG.oct v 2 = 128 + v / 16384 := by unfold TG.oct; simp; omega
  simp [q1, q2, q3, a1, a2, m1, m2, m3, m4, q4, q5, q7, q8, q6, q9, o0, o1, o2, w_i64]
theorem dig4 (v : Int) (h0 : 2097152 ≤ v) (h1 : v < 268435456) : Con E 20 108 [.int .u32 v] (.sl false [.int .u8 (TG.oct v 3), .int .u8 (TG.oct v 2), .int .u8 (TG.oct v 1), .int .u8 (TG.oct v 0)] none) := by
  refine con_of E_fn108 rfl (Nat.le_of_ble_eq_true rfl) rfl rfl (g := []) ?_
  rw [body_108, c108]
  have q1 : v.tmod 128 = v % 128 := Int.tmod_eq_emod_of_nonneg (by omega)
  have q2 : v.tdiv 128 = v / 128 := Int.tdiv_eq_ediv_of_nonneg (by omega)
  have q3 : v % 128 % 256 = v % 128 := by omega
  have a1 : 0 < v / 128 := by omega
  have m1 : v / 128 % 4294967296 = v / 128 := by omega
  have q4 : (v / 128).tmod 128 = v / 128 % 128 := Int.tmod_eq_emod_of_nonneg (by omega)
  have q5 : (v / 128).tdiv 128 = v / 16384 := by rw [Int.tdiv_eq_ediv_of_nonneg (by omega)]; omega
  have a2 : 0 < v / 16384 := by omega
  have m3 : v / 16384 % 4294967296 = v / 16384 := by omega
  have q7 : (v / 16384).tmod 128 = v / 16384 % 128 := Int.tmod_eq_emod_of_nonneg (by omega)
  have q8 : (v / 16384).tdiv 128 = v / 2097152 := by rw [Int.tdiv_eq_ediv_of_nonneg (by omega)]; omega
  have a3 : 0 < v / 2097152 := by omega
  have m5 : v / 2097152 % 4294967296 = v / 2097152 := by omega
  have p7 : (v / 2097152).tmod 128 = v / 2097152 := by rw [Int.tmod_eq_emod_of_nonneg (by omega)]; omega
  have p8 : (v / 2097152).tdiv 128 = 0 := by rw [Int.tdiv_eq_ediv_of_nonneg (by omega)]; omega
  have m2 : (128 + v / 128 % 128) % 4294967296 = 128 + v / 128 % 128 := by omega
  have m4 : (128 + v / 16384 % 128) % 4294967296 = 128 + v / 16384 % 128 := by omega
  have m6 : (128 + v / 2097152) % 4294967296 = 128 + v / 2097152 := by omega
  have q6 : (128 + v / 128 % 128) % 256 = 128 + v / 128 % 128 := by omega
  have q9 : (128 + v / 16384 % 128) % 256 = 128 + v / 16384 % 128 := by omega
  have p9 : (128 + v / 2097152) % 256 = 128 + v / 2097152 := by omega
  have o0 : TG.oct v 0 = v % 128 := by unfold TG.oct; simp
  have o1 : TG.oct v 1 = 128 + v / 128 % 128 := by unfold TG.oct; simp; omega
  have o2 : TG.oct v 2 = 128 + v / 16384 % 128 := by unfold TG.oct; simp; omega
  have o3 : TG.oct v 3 = 128 + v / 2097152 := by unfold TG.oct; simp; omega
  simp [q1, q2, q3, a1, a2, a3, m1, m2, m3, m4, m5, m6, q4, q5, q7, q8, q6, q9, p7, p8, p9, o0, o1, o2, o3, w_i64]
theorem dig (v : Int) (h0 : 0 ≤ v) (h1 : v ≤ 268435455) : ∃ c, Con E 20 108 [.int .u32 v] (.sl false (bs (TG.grp v)) c) := by
  unfold TG.grp TG.top
  by_cases a : v < 128
  · rw [if_pos a]; exact ⟨_, dig1 v h0 a⟩
  rw [if_neg a]
  by_cases b : v < 16384
  · rw [if_pos b]; exact ⟨_, dig2 v (by omega) b⟩
  rw [if_neg b]
  by_cases c : v < 2097152
  · rw [if_pos c]; exact ⟨_, dig3 v (by omega) c⟩
  rw [if_neg c]
  exact ⟨_, dig4 v (by omega) (by omega)⟩
end F17

end
section
/- The reference's Encode at the evaluator: its loop over the elements. No conditions. -/
open Ab Go TabE Sp E34 F1 F4 F5 F17
set_option maxRecDepth 20000
set_option linter.unusedSimpArgs false
set_option linter.unusedVariables false
set_option maxHeartbeats 8000000
namespace F18
attribute [local simp ↓] s_seq s_reg s_regd s_cond s_block s_cons s_consG
attribute [local simp] s_nil s_loop s_round s_lpn s_lpe s_lpr firstReg s_gt s_gf s_wb s_wu s_val s_valN s_skip s_calls s_callP s_cax lookR flatR pureKs s_ret s_rgx s_sqn s_sqr s_sqe s_cdb s_bkn s_bkr s_bke s_exit s_ret' s_skip' s_finr s_finn s_fin1 s_fix s_clean s_gc0 o_tmp o_int o_bool o_nil o_str o_fn o_nil' l_hit l_miss l_nil ol_nil ol_cons ol_some x_move x_assign x_pick pk_t pk_f x_bin bn_s x_un x_extract x_callF cl_no x_callB x_callBF frzV x_conv cvx convA frame0 binA intOp resL resA results1 sealLW AV.pure AV.pureL keepT x_alloc x_box bxx x_build bdx x_buildSlice bsx x_buildSliceF bsf x_load ldx x_store stx x_slice slx x_fieldAddr x_field x_index ixx x_indexAddr iax x_makeSlice msx x_makeSliceF msf x_nilCheck newK genOf setK lookK fillA writeL writeC readC conts TyI.mk1 sliceA boundsA boundsB fitsA numA indexAddrA fieldAddrA partA fieldA indexA appendA copyA builtinA AV.cells chunk gcH reach keysT keepK inKs AV.keys AV.keysL Ty.isAgg eq1 eqL convA.go ltI w_u8 w_u32 w_u64 w_i64 w_fdiv w_tdiv w_tmod IntKind.bits unA sc_int sc_bool sc_str sc_sl sc_ref sc_ptr sc_pel sc_nilp sc_fn sc_nilf sc_if sc_nili sc_agg sc_tup sc_mem bs_pure bs_kl bs_length bs_cells bs_all sl_row sealRow sealY sl_int sl_bool sl_str sl_sl sl_nilp sl_nilf sl_nili sl_pel sl_agg sl_tup sl_fn sl_if nat_1 bs_cons bs_nil i_beq i_bne x_mkF x_mkI x_tassert x_panic s_pan s_sqp s_bkp s_finp s_fixp s_lpp s_rgp s_retp s_site s_stxN s_stxO x_callT clx El.avs_len
def bE : Code := lp c84 0
abbrev S0 (e : El) (i : Nat) : St := ⟨[(1, .ptr (1, 1, 0) 0), (3, .sl true [] (some 0)), (4, .int .i64 (i : Int))], [((1, 1, 0), bx (ec e))]⟩
abbrev SR (e : El) (i : Nat) (key : Key) (ys : List Int) : St := ⟨[(1, .ptr (1, 1, 0) 0), (3, .ref key 0 ys.length none), (4, .int .i64 (i : Int))], [((1, 1, 0), bx (ec e)), (key, ⟨bs ys, true, true, false, 1, false⟩)]⟩
theorem first (q k1 : Nat) (e x : El) (i : Nat) (xs : List Int) (c : Option Nat) (hx : e.s[i]? = some x) (le : e.s.length ≤ 9223372036854775807) (n0 : xs ≠ []) (n1 : xs.length ≤ 2000000) (B : ∀ h, aCall E q 0 84 [x.av] h = some (.ret (.sl false (bs xs) c), h)) :
    rndO fn84 bE q k1 (S0 e i) = some (.normal, SR e (i + 1) (1, 27, 0) xs) := by
  have hi : i < e.s.length := (List.getElem?_eq_some_iff.1 hx).1
  have ix := El.at_ e.fs e.cs e.s i x hx
  have w := w64' ((i : Int) + 1) (by omega) (by omega)
  have cp : xs.length ≤ 70368744177664 := by omega
  rw [El.av_eq] at B
  simp [bE, lp, lps, c84, -indexAddrA, ix, w, hi, B, n0, cp]
theorem next (q k1 : Nat) (e x : El) (i m : Nat) (xs ys : List Int) (c : Option Nat) (hx : e.s[i]? = some x) (le : e.s.length ≤ 9223372036854775807) (n1 : ys.length + xs.length ≤ 2000000) (B : ∀ h, aCall E q 0 84 [x.av] h = some (.ret (.sl false (bs xs) c), h)) :
    rndO fn84 bE q k1 (SR e i (1, 27, m) ys) = some (.normal, SR e (i + 1) (1, 27, m + 1) (ys ++ xs)) := by
  have hi : i < e.s.length := (List.getElem?_eq_some_iff.1 hx).1
  have ix := El.at_ e.fs e.cs e.s i x hx
  have w := w64' ((i : Int) + 1) (by omega) (by omega)
  have cp : ys.length + xs.length ≤ 70368744177664 := by omega
  have kk : AV.keysL (bs ys ++ bs xs) = [] := by rw [← bs_append]; exact bs_kl _
  rw [El.av_eq] at B
  simp [bE, lp, lps, c84, -indexAddrA, ix, w, hi, B, cp, bs_append, kk]
theorem last0 (q k1 : Nat) (e : El) : rndO fn84 bE q k1 (S0 e e.s.length) = some (.exit 0, ⟨[(1, .ptr (1, 1, 0) 0), (3, .sl true [] (some 0)), (4, .int .i64 (e.s.length : Int)), (17, .bool false)], [((1, 1, 0), bx (ec e))]⟩) := by
  simp [bE, lp, lps, c84]
theorem last (q k1 : Nat) (e : El) (key : Key) (ys : List Int) (hkey : key = (1, 12, 0) ∨ ∃ m, key = (1, 27, m)) : rndO fn84 bE q k1 (SR e e.s.length key ys) = some (.exit 0, ⟨[(1, .ptr (1, 1, 0) 0), (3, .ref key 0 ys.length none), (4, .int .i64 (e.s.length : Int)), (17, .bool false)], [((1, 1, 0), bx (ec e)), (key, ⟨bs ys, true, true, false, 1, false⟩)]⟩) := by
  rcases hkey with rfl | ⟨m, rfl⟩ <;> simp [bE, lp, lps, c84]
end F18

end
section
/- Ordered and its reference, of the elements of T. No conditions. -/
open Ab Go TabE Sp E12 E18 E26 E34 E36 F1 F4 F5 F20 F21 F22
set_option maxRecDepth 20000
set_option linter.unusedSimpArgs false
set_option linter.unusedVariables false
set_option maxHeartbeats 8000000
namespace F23
abbrev RE : Prop := ∀ e : El, e.ok → vld e.core → (enc e.core).length ≤ 60000 → ∃ N, Con E N 84 [e.av] (.sl false (bs (enc e.core)) none)
structure Gd (x : El) : Prop where
  ok : x.ok
  vld : vld x.core
  fw : Fw 1000 x
  dep : dep x.core ≤ 10
  cnt : cnt x.core ≤ 50
theorem Gd.sub {e x : El} (g : Gd e) (hx : x ∈ e.s) : Gd x := by
  obtain ⟨v1, v2, v3, v4⟩ := (vld_eq e).1 g.vld
  have f := g.fw
  obtain ⟨_, h1, h2⟩ := f
  have d := g.dep
  rw [dep_eq] at d
  have c := g.cnt
  rw [cnt_eq] at c
  have := deps_mem hx
  have := cnts_mem hx
  exact ⟨g.ok.sub x hx, vlds_all.1 v4 x hx, h2 x hx, by omega, by omega⟩
theorem Gd.len {e : El} (g : Gd e) : (enc e.core).length ≤ 60000 := by
  have := fw_len e g.fw
  have := g.cnt
  omega
theorem Gd.chk {e : El} (g : Gd e) : (chk e.core 1 0 0).1 = 0 := chk_of _ _ _ _ g.vld (by have := g.dep; omega) (by have := g.cnt; omega)
theorem Gd.sm {e : El} (g : Gd e) : e.sm := fw_sm (by omega) e g.fw (by have := g.cnt; omega)
theorem Gd.sl {e : El} (g : Gd e) : e.s.length ≤ 50 := by
  have c := g.cnt
  rw [cnt_eq] at c
  have := cnts_len e.s
  omega
theorem all (renc : RE) (e : El) (g : Gd e) : ∃ N, ∀ K, N ≤ K → Chk K e ∧ Cmp K e ∧ Enc K e := by
  obtain ⟨N1, h1⟩ := unif (P := fun (x : El) (n : Nat) => Con E n 32 [x.av] (.int .i64 0)) (fun x n m h hm => h.mono hm) e.s (fun x hx => by
    obtain ⟨N, h⟩ := E10.check x (g.sub hx).ok
    rw [(g.sub hx).chk] at h
    exact ⟨N, h⟩)
  obtain ⟨N2, h2⟩ := unif (P := fun (x : El) (n : Nat) => Con E n 21 [x.av] (.tup [.sl false (bs (enc x.core)) (some (enc x.core).length), .int .i64 0])) (fun x n m h hm => h.mono hm) e.s (fun x hx => E10.put_ok x (g.sub hx).ok (g.sub hx).sm (g.sub hx).chk (by have := (g.sub hx).len; omega))
  obtain ⟨N3, h3⟩ := unif (P := fun (x : El) (n : Nat) => Con E n 84 [x.av] (.sl false (bs (enc x.core)) none)) (fun x n m h hm => h.mono hm) e.s (fun x hx => renc x (g.sub hx).ok (g.sub hx).vld (g.sub hx).len)
  have hB : ∀ x ∈ e.s, isB (enc x.core) := fun x hx => enc_B x (g.sub hx).ok (g.sub hx).vld (by have := (g.sub hx).len; omega)
  refine ⟨N1 + N2 + N3 + 100, fun K hK => ⟨fun x hx h => h1 x hx K (by omega) 0 h, fun y hy x hx h => ?_, fun x hx => ⟨hB x hx, none, fun h => h3 x hx K (by omega) 0 h⟩⟩⟩
  exact E14.compare y x _ _ _ _ _ _ (hB y hy) (hB x hx) N2 _ _ (h2 y hy) (h2 x hx) K (by omega) 0 h
theorem both (renc : RE) (e : El) (g : Gd e) : ∃ N p w, p.length ≤ 1 ∧ Con E N 51 [e.av] (fF p w) ∧ Con E N 52 [e.av] (fR p w) := by
  obtain ⟨N, h⟩ := all renc e g
  have sl := g.sl
  have a1 := h (N + 100) (by omega)
  have o1 := F21.ordered (N + 100) (by omega) e (by omega) a1.1 a1.2.1 (by omega)
  have o2 := F22.ordered (N + 100) (by omega) e (by omega) a1.2.2 (by omega)
  have q1 : Con E (N + 101) 51 [e.av] (fF (oP (ods e.s)) (oE (ods e.s))) := .of (g := []) (by simp [AV.pureL, El.av_pure]) (o1 [])
  have q2 : Con E (N + 101) 52 [e.av] (fR (oP (ods e.s)) (oE (ods e.s))) := .of (g := []) (by simp [AV.pureL, El.av_pure]) (o2 [])
  exact ⟨N + 101, _, _, by cases ods e.s <;> simp [oP], q1, q2⟩
end F23

end
section
/- The law FieldsOrdered at the evaluator. No conditions. -/
open Ab Go TabE Sp E34 F1 F4 F5 F11 F23
set_option maxRecDepth 20000
set_option linter.unusedSimpArgs false
set_option linter.unusedVariables false
set_option maxHeartbeats 8000000
namespace F24
attribute [local simp ↓] s_seq s_reg s_regd s_cond s_block s_cons s_consG s_regD
attribute [local simp] s_nil s_loop s_round s_lpn s_lpe s_lpr firstReg s_gt s_gf s_wb s_wu s_val s_valN s_skip s_calls s_callP s_cax lookR flatR pureKs s_ret s_rgx s_sqn s_sqr s_sqe s_cdb s_bkn s_bkr s_bke s_exit s_ret' s_skip' s_finr s_finn s_fin1 s_fix s_clean s_gc0 o_tmp o_int o_bool o_nil o_str o_fn o_nil' l_hit l_miss l_nil ol_nil ol_cons ol_some x_move x_assign x_pick pk_t pk_f x_bin bn_s x_un x_extract x_callF cl_no x_callB x_callBF frzV x_conv cvx convA frame0 binA intOp resL resA results1 sealLW AV.pure AV.pureL keepT x_alloc x_box bxx x_build bdx x_buildSlice bsx x_buildSliceF bsf x_load ldx x_store stx x_slice slx x_fieldAddr x_field x_index ixx x_indexAddr iax x_makeSlice msx x_makeSliceF msf x_nilCheck newK genOf setK lookK fillA writeL writeC readC conts TyI.mk1 sliceA boundsA boundsB fitsA numA indexAddrA fieldAddrA partA fieldA indexA appendA copyA builtinA AV.cells chunk gcH reach keysT keepK inKs AV.keys AV.keysL Ty.isAgg eq1 eqL convA.go ltI w_u8 w_u32 w_u64 w_i64 w_fdiv w_tdiv w_tmod IntKind.bits unA sc_int sc_bool sc_str sc_sl sc_ref sc_ptr sc_pel sc_nilp sc_fn sc_nilf sc_if sc_nili sc_agg sc_tup sc_mem bs_pure bs_kl bs_length bs_cells bs_all sl_row sealRow sealY sl_int sl_bool sl_str sl_sl sl_nilp sl_nilf sl_nili sl_pel sl_agg sl_tup sl_fn sl_if nat_1 bs_cons bs_nil i_beq i_bne x_mkF x_mkI x_tassert x_panic s_pan s_sqp s_bkp s_finp s_fixp s_lpp s_rgp s_retp s_site s_stxN s_stxO x_callT clx El.avs_len s_dyn0 s_rgy barOf dynChk footL dynOK disjK keysOp opVals Op.operands
def bL : Code := lp c12 0
abbrev SL (f : Bool) (cs : List Int) (c : Option Nat) (e : El) (i : Nat) : St := ⟨[(1, .ptr (1, 1, 0) 0), (3, .ptr (1, 3, 0) 0), (4, .int .i64 (i : Int))], [((1, 1, 0), bx [.sl f (bs cs) c]), ((1, 3, 0), bx (ec e))]⟩
theorem go (q k1 : Nat) (f cs c) (e x : El) (i : Nat) (a b : List AV) (pa : AV.pureL a = true) (pb : AV.pureL b = true) (hl : e.s.length ≤ 1000) (hx : e.s[i]? = some x) (A : ∀ h, aCall E q 0 51 [x.av] h = some (.ret (.agg a), h)) (B : ∀ h, aCall E q 0 52 [x.av] h = some (.ret (.agg b), h)) (C : ∀ h, aCall E q 0 48 [.agg a, .agg b] h = some (.ret (.int .i64 1), h)) : rnd fn12 bL q k1 (SL f cs c e i) = some (.normal, SL f cs c e (i + 1)) := by
  have hi : i < e.s.length := (List.getElem?_eq_some_iff.1 hx).1
  have ix := El.at_ e.fs e.cs e.s i x hx
  have w := w64' ((i : Int) + 1) (by omega) (by omega)
  rw [El.av_eq] at A B
  simp [bL, lp, lps, c12, -indexAddrA, ix, w, hi, A, B, C, pa, pb]
abbrev OutL (f : Bool) (cs : List Int) (c : Option Nat) (e : El) : AExit × St := (.exit 0, ⟨[(1, .ptr (1, 1, 0) 0), (3, .ptr (1, 3, 0) 0), (4, .int .i64 (e.s.length : Int)), (17, .bool false)], [((1, 1, 0), bx [.sl f (bs cs) c]), ((1, 3, 0), bx (ec e))]⟩)
theorem last (q k1 : Nat) (f cs c) (e : El) : rnd fn12 bL q k1 (SL f cs c e e.s.length) = some (OutL f cs c e) := by
  simp [bL, lp, lps, c12]
abbrev LpL (K : Nat) := aLoop (aCode E (aCall E K) (dcall (aRun E K)) K 1 fn12 bL) (cleanS 1 ((firstReg bL).bind fn12.head))
abbrev Same2 (K : Nat) (x : El) : Prop := ∃ a b, AV.pureL a = true ∧ AV.pureL b = true ∧ (∀ h, aCall E K 0 51 [x.av] h = some (.ret (.agg a), h)) ∧ (∀ h, aCall E K 0 52 [x.av] h = some (.ret (.agg b), h)) ∧ ∀ h, aCall E K 0 48 [.agg a, .agg b] h = some (.ret (.int .i64 1), h)
theorem loop (K : Nat) (f cs c) (e : El) (hl : e.s.length ≤ 1000) (H : ∀ x ∈ e.s, Same2 K x) : ∀ (r : List El) (i k : Nat), e.s.drop i = r → i ≤ e.s.length → r.length < k → LpL K k (SL f cs c e i) = some (OutL f cs c e)
  | [], i, k, h1, hi, hk => by
    obtain ⟨k, rfl⟩ : ∃ j, k = j + 1 := ⟨k - 1, by omega⟩
    have l := congrArg List.length h1
    rw [List.length_drop, List.length_nil] at l
    have : i = e.s.length := by omega
    rw [this]
    exact aLoop_end (last K K f cs c e) (fun h => by cases h)
  | x :: r, i, k, h1, hi, hk => by
    obtain ⟨k, rfl⟩ : ∃ j, k = j + 1 := ⟨k - 1, by omega⟩
    have l := congrArg List.length h1
    rw [List.length_drop, List.length_cons] at l
    have hx : e.s[i]? = some x := by
      have := congrArg (fun l => l[0]?) h1
      simpa [List.getElem?_drop] using this
    have hd : e.s.drop (i + 1) = r := by
      have := congrArg List.tail h1
      simpa [List.tail_drop] using this
    obtain ⟨a, b, pa, pb, A, B, C⟩ := H x (List.mem_of_getElem? hx)
    unfold LpL
    rw [aLoop_succ (go K K f cs c e x i a b pa pb hl hx A B C)]
    exact loop K f cs c e hl H r (i + 1) k hd (by omega) (by simp at hk; omega)
theorem same2 (renc : RE) (x : El) (g : Gd x) : ∃ N, ∀ K, N ≤ K → Same2 K x := by
  obtain ⟨N, p, w, hp, h1, h2⟩ := both renc x g
  have h3 := F5.fault1 p w (by omega)
  have pn := ns_pure p
  exact ⟨N + 30, fun K hK => ⟨_, _, by simp [AV.pureL, AV.pure, pn], by simp [AV.pureL, AV.pure, pn], fun h => h1 K (by omega) 0 h, fun h => h2 K (by omega) 0 h, fun h => h3 K (by omega) 0 h⟩⟩
theorem law (renc : RE) (f : Bool) (c : Option Nat) (cs : List Int) (hb : isB cs) : ∃ N, Con E N 12 [.agg [.sl f (bs cs) c]] (.bool true) := by
  obtain ⟨tw, hd, hc, ts⟩ := ofT_Tw cs hb
  have C1 := ofT_con f cs c hb
  generalize ofT cs = e at C1 tw ts hd hc
  have g : Gd e := ⟨tw.ok, tw.vld, tw.fw, by omega, by omega⟩
  obtain ⟨N1, C7⟩ := F1.same e e tw.ok rfl
  obtain ⟨N2, h2⟩ := same2 renc e g
  obtain ⟨N3, h3⟩ := unif (P := fun (x : El) (n : Nat) => ∀ K, n ≤ K → Same2 K x) (fun x n m h hm K hK => h K (by omega)) e.s (fun x hx => same2 renc x (g.sub hx))
  obtain ⟨K, hK⟩ : ∃ K, N1 + N2 + N3 + 600 = K := ⟨_, rfl⟩
  have w1 := C1 K (by omega) 0
  have w7 := C7 K (by omega) 0
  have lv := LW.l12 K (by omega) 0
  obtain ⟨a, b, pa, pb, A, B, C⟩ := h2 K (by omega)
  have L := loop K f cs c e (by omega) (fun x hx => h3 x hx K (by omega)) e.s 0 K rfl (by omega) (by omega)
  rw [El.av_eq] at w1 w7 A B
  refine ⟨K + 1, con_of E_fn12 (by simp [AV.pureL, AV.pure]) (Nat.le_of_ble_eq_true rfl) rfl rfl (g := []) ?_⟩
  rw [body_12, c12]
  simp [LpL, bL, lp, lps, c12, firstReg, SL, ec] at L
  simp [-s_round, w1, w7, lv, A, B, C, pa, pb, L]
end F24

end
section
/- The reference's Encode at the evaluator: what it answers. No conditions. -/
open Ab Go TabE Sp E34 F1 F4 F5 F17 F18
set_option maxRecDepth 20000
set_option linter.unusedSimpArgs false
set_option linter.unusedVariables false
set_option maxHeartbeats 8000000
namespace F19
abbrev Fin (e : El) (key : Key) (ys : List Int) : Option (AExit × St) := some (.exit 0, ⟨[(1, .ptr (1, 1, 0) 0), (3, .ref key 0 ys.length none), (4, .int .i64 (e.s.length : Int)), (17, .bool false)], [((1, 1, 0), bx (ec e)), (key, ⟨bs ys, true, true, false, 1, false⟩)]⟩)
abbrev LpE (K : Nat) := aLoop (aCode E (site fn84 (aRun E K)) (dcall (aRun E K)) K 1 fn84 bE) (cleanS 1 ((firstReg bE).bind fn84.head))
theorem loop1 (K : Nat) (e : El) (le : e.s.length ≤ 9223372036854775807) (B : ∀ x ∈ e.s, ∃ c, ∀ h, aCall E K 0 84 [x.av] h = some (.ret (.sl false (bs (enc x.core)) c), h)) :
    ∀ (rest : List El) (i m : Nat) (ys : List Int) (k : Nat), e.s.drop i = rest → i + rest.length = e.s.length → ys.length + (encs (El.cores rest)).length ≤ 2000000 → rest.length < k →
      ∃ m', LpE K k (SR e i (1, 27, m) ys) = Fin e (1, 27, m') (ys ++ encs (El.cores rest))
  | [], i, m, ys, k, h1, h2, hl, hk => by
    obtain ⟨k, rfl⟩ : ∃ j, k = j + 1 := ⟨k - 1, by simp at hk; omega⟩
    obtain rfl : i = e.s.length := by simpa using h2
    exact ⟨m, by unfold LpE; rw [aLoop_end (last K K e _ ys (.inr ⟨m, rfl⟩)) (by simp)]; simp [El.cores, encs]⟩
  | x :: rest, i, m, ys, k, h1, h2, hl, hk => by
    obtain ⟨k, rfl⟩ : ∃ j, k = j + 1 := ⟨k - 1, by simp at hk; omega⟩
    have hx : e.s[i]? = some x := by
      have := congrArg (fun l => l[0]?) h1
      simpa [List.getElem?_drop] using this
    have hd : e.s.drop (i + 1) = rest := by
      have := congrArg List.tail h1
      simpa [List.tail_drop] using this
    obtain ⟨c, hB⟩ := B x (List.mem_of_getElem? hx)
    rw [El.cores, encs, List.length_append] at hl
    obtain ⟨m', h⟩ := loop1 K e le B rest (i + 1) (m + 1) (ys ++ enc x.core) k hd (by simp at h2; omega) (by rw [List.length_append]; omega) (by simp at hk; omega)
    refine ⟨m', ?_⟩
    unfold LpE at h ⊢
    rw [aLoop_succ (next K K e x i m (enc x.core) ys c hx le (by omega) hB), h, El.cores, encs, List.append_assoc]
theorem loop0 (K : Nat) (e : El) (le : e.s.length ≤ 9223372036854775807) (B : ∀ x ∈ e.s, ∃ c, ∀ h, aCall E K 0 84 [x.av] h = some (.ret (.sl false (bs (enc x.core)) c), h)) (hl : (encs (El.cores e.s)).length ≤ 2000000) (hk : e.s.length < K) (hs : e.s ≠ []) :
      ∃ m, LpE K K (S0 e 0) = Fin e (1, 27, m) (encs (El.cores e.s)) := by
  obtain ⟨k, rfl⟩ : ∃ j, K = j + 1 := ⟨K - 1, by omega⟩
  cases hs : e.s with
  | nil => contradiction
  | cons x rest =>
    have hx : e.s[0]? = some x := by rw [hs]; rfl
    obtain ⟨c, hB⟩ := B x (List.mem_of_getElem? hx)
    rw [hs, El.cores, encs, List.length_append] at hl
    obtain ⟨m', h⟩ := loop1 (k + 1) e le B rest 1 0 (enc x.core) k (by rw [hs]; rfl) (by rw [hs]; simp; omega) hl (by rw [hs] at hk; simp at hk; omega)
    unfold LpE at h
    exact ⟨m', by rw [LpE, aLoop_succ (first (k + 1) (k + 1) e x 0 (enc x.core) c hx le (E17.enc_ne x) (by omega) hB), Nat.zero_add, h, El.cores, encs]⟩
theorem emp (K : Nat) (hK : 0 < K) (e : El) (hs : e.s = []) : LpE K K (S0 e 0) = some (.exit 0, ⟨[(1, .ptr (1, 1, 0) 0), (3, .sl true [] (some 0)), (4, .int .i64 0), (17, .bool false)], [((1, 1, 0), bx (ec e))]⟩) := by
  obtain ⟨K, rfl⟩ : ∃ k, K = k + 1 := ⟨K - 1, by omega⟩
  have := last0 (K + 1) (K + 1) e
  rw [hs] at this
  exact aLoop_end this (by simp)
theorem byt (K : Nat) (hK : 0 < K) (e : El) (hs : e.s = []) : LpE K K (SR e 0 (1, 12, 0) e.b) = some (.exit 0, ⟨[(1, .ptr (1, 1, 0) 0), (3, .ref (1, 12, 0) 0 e.b.length none), (4, .int .i64 0), (17, .bool false)], [((1, 1, 0), bx (ec e)), ((1, 12, 0), ⟨bs e.b, true, true, false, 1, false⟩)]⟩) := by
  obtain ⟨K, rfl⟩ : ∃ k, K = k + 1 := ⟨K - 1, by omega⟩
  have := last (K + 1) (K + 1) e (1, 12, 0) e.b (.inl rfl)
  rw [hs] at this
  exact aLoop_end this (by simp)
end F19

end
