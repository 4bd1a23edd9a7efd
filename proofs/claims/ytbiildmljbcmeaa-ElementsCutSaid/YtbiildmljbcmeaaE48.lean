/- Own work, no conditions. -/
import Derived.Test.YtbiildmljbcmeaaE23
import Derived.Test.YtbiildmljbcmeaaP5
import Derived.Test.YtbiildmljbcmeaaB40
import Derived.KernelRfl
section
/- E.Of at the evaluator: the rounds that take as many as a number says. Printed by gen24.py. No conditions. -/
open Ab Go TabE Sp E20 E22 E23
set_option maxRecDepth 20000
set_option linter.unusedSimpArgs false
set_option linter.unusedVariables false
set_option maxHeartbeats 8000000
namespace E25
attribute [local simp ↓] s_seq s_reg s_regd s_cond s_block s_cons s_consG s_regD
attribute [local simp] s_nil s_loop s_round s_lpn s_lpe s_lpr firstReg s_gt s_gf s_wb s_wu s_val s_valN s_skip s_calls s_callP s_cax lookR flatR pureKs s_ret s_rgx s_sqn s_sqr s_sqe s_cdb s_bkn s_bkr s_bke s_exit s_ret' s_skip' s_finr s_finn s_fin1 s_fix s_clean s_gc0 o_tmp o_int o_bool o_nil o_str o_fn o_nil' l_hit l_miss l_nil ol_nil ol_cons ol_some x_move x_assign x_pick pk_t pk_f x_bin bn_s x_un x_extract x_callF cl_no x_callB x_callBF frzV x_conv cvx convA frame0 binA intOp resL resA results1 sealLW AV.pure AV.pureL keepT x_alloc x_box bxx x_build bdx x_buildSlice bsx x_buildSliceF bsf x_load ldx x_store stx x_slice slx x_fieldAddr x_field x_index ixx x_indexAddr iax x_makeSlice msx x_makeSliceF msf x_nilCheck newK genOf setK lookK fillA writeL writeC readC conts TyI.mk1 sliceA boundsA boundsB fitsA numA indexAddrA fieldAddrA partA fieldA indexA appendA copyA builtinA AV.cells chunk gcH reach keysT keepK inKs AV.keys AV.keysL Ty.isAgg eq1 eqL convA.go ltI w_u8 w_u32 w_u64 w_i64 w_fdiv w_tdiv w_tmod IntKind.bits unA sc_int sc_bool sc_str sc_sl sc_ref sc_ptr sc_pel sc_nilp sc_fn sc_nilf sc_if sc_nili sc_agg sc_tup sc_mem bs_pure bs_kl bs_length bs_cells bs_all sl_row sealRow sealY sl_int sl_bool sl_str sl_sl sl_nilp sl_nilf sl_nili sl_pel sl_agg sl_tup sl_fn sl_if nat_1 bs_cons bs_nil i_beq i_bne x_mkF x_mkI x_tassert x_panic s_pan s_sqp s_bkp s_finp s_fixp s_lpp s_rgp s_retp s_site s_stxN s_stxO x_callT clx El.avs_len s_dyn0 s_rgy barOf dynChk footL dynOK disjK keysOp opVals Op.operands
theorem nodeD (key : Key) (st : List El) (hst : st.length ≤ 39) (hne : st.length ≠ 0) (hkey : ∃ m, key = (1, 49, m) ∨ key = (1, 92, m)) (k p : Nat) (hkp : st.length = k + p) (hk : 0 < k ∧ 0 < p)
    (q0 k1 : Nat) (f q) (l : List G) (i : Nat) (g : G) (hg : g.ok) (hx : l[i]? = some g) (hi : i < 39) (ha : g.a % 3 ≠ 0) (ll : l.length ≤ 9223372036854775807) (h2 : g.a % 3 ≠ 2 ∧ (if (st.length : Int) < g.b % 5 then (st.length : Int) else g.b % 5) = (k : Int)) (dd : Int)
    (T : ∀ h, aCall E q0 0 71 [.agg [.int .u8 g.c, .int .u8 1, .int .u32 g.n]] h = some (.ret (.agg [.int .u8 (g.c % 4), .bool true, .int .u32 (tn g.c 1 g.n)]), h))
    (D : ∀ h, aCall E q0 0 40 [(nd g (st.drop p)).av] h = some (.ret (.int .i64 dd), h)) :
    ∃ key', (∃ m, key' = (1, 49, m) ∨ key' = (1, 92, m)) ∧ rndO fn22 b22 q0 k1 (S f (l.map G.av) q key st i) = some (.normal, S f (l.map G.av) q key' (if dd < 15 then st.take p ++ [nd g (st.drop p)] else st) (i + 1)) := by
  have hl : i < l.length := (List.getElem?_eq_some_iff.1 hx).1
  have ix := at_ f q l i g hx
  have w := w64' ((i : Int) + 1) (by omega) (by omega)
  have m2 : Int.tmod g.a 3 = g.a % 3 := Int.tmod_eq_emod_of_nonneg hg.1.1
  have m3 : Int.tmod g.b 5 = g.b % 5 := Int.tmod_eq_emod_of_nonneg hg.2.1.1
  have w5 := w64' (g.b % 5) (by omega) (by omega)
  have i39 : (i : Int) < 39 := by omega
  have ne : st ≠ [] := fun h => hne (by rw [h]; rfl)
  have cp : st.length * 56 ≤ 70368744177664 := by omega
  obtain ⟨a, ha'⟩ : ∃ a, st.take p = a := ⟨_, rfl⟩
  obtain ⟨d, hd⟩ : ∃ d, st.drop p = d := ⟨_, rfl⟩
  have la : a.length = p := by rw [← ha', List.length_take]; omega
  have ld : d.length = k := by rw [← hd, List.length_drop]; omega
  rw [hd] at D ⊢
  rw [ha']
  have w2 : IntKind.i64.wrap ((st.length : Int) - (k : Int)) = (p : Int) := by rw [w64' _ (by omega) (by omega)]; omega
  have f1 := El.fl_len st
  have f2 := El.fl_keys st
  have fa := El.fl_len a
  have fd := El.fl_len d
  have f3 : (El.fl st).take (p * 5) = El.fl a := by rw [El.fl_take, ha']
  have f7 : (El.fl st).drop (p * 5) = El.fl d := by rw [El.fl_drop, hd]
  have fk : st.length - p = k := by omega
  have f8 : (El.fl d).take (k * 5) = El.fl d := by rw [← ld, El.fl_take, List.take_length]
  have f9 : (El.fl a).take (p * 5) = El.fl a := by rw [← la, El.fl_take, List.take_length]
  have fa2 := El.fl_keys a
  have fd2 := El.fl_keys d
  have f4 := El.fl_pure d
  have f6 : chunk true 5 k (El.fl d) = El.avs d := by rw [← ld]; exact El.fl_chunk d
  have cp1 : k * 56 ≤ 70368744177664 := by omega
  have cp2 : p * 56 ≤ 70368744177664 := by omega
  have cp3 : (p + 1) * 56 ≤ 70368744177664 := by omega
  have g1 : p * 5 + k * 5 = st.length * 5 := by omega
  have g2 : ¬ (k = 0) := by omega
  have g3 : ¬ (p = 0) := by omega
  have g4 : ¬ (st.length = p) := by omega
  have g5 : p ≤ st.length := by omega
  have g6 : ¬ (k ≤ 0) := by omega
  have g7 : ¬ (p ≤ 0) := by omega
  have g8 : p * 5 ≤ st.length * 5 := by omega
  have dne : d ≠ [] := fun h => g2 (by rw [← ld, h]; rfl)
  rw [El.av_eq] at D
  simp [El.c, El.k, El.n, El.fb, El.b, El.cb, El.fs, El.s, El.cs, El.avs, bs_nil, dne] at D
  by_cases dp : dd < 15
  · rw [if_pos dp]
    refine ⟨(1, 92, if key.2.1 = 92 then key.2.2 + 1 else 0), ⟨_, .inr rfl⟩, ?_⟩
    obtain ⟨m, rfl | rfl⟩ := hkey <;> simp [b22, lp, lps, c22, Call.operands, -indexAddrA, ix, w, hl, i39, m2, m3, ha, h2.1, h2.2, w5, T, D, hi, dp, hne, El.avs, El.fl_keysr, El.fl_mem, w2, ne, f1, f2, f3, f4, f6, f7, f8, f9, fa, fd, fa2, fd2, fk, la, ld, cp1, cp2, cp3, g1, g2, g3, g4, g5, g6, g7, g8, dne, El.fl_mkS]
  · rw [if_neg dp]
    refine ⟨key, hkey, ?_⟩
    obtain ⟨m, rfl | rfl⟩ := hkey <;> simp [b22, lp, lps, c22, Call.operands, -indexAddrA, ix, w, hl, i39, m2, m3, ha, h2.1, h2.2, w5, T, D, hi, dp, hne, El.avs, El.fl_keysr, El.fl_mem, w2, ne, f1, f2, f3, f4, f6, f7, f8, f9, fa, fd, fa2, fd2, fk, la, ld, cp1, cp2, cp3, g1, g2, g3, g4, g5, g6, g7, g8, dne, El.fl_mkS]
end E25

end
section
/- E.Of at the evaluator: the rounds that take as many as a number says. Printed by gen24.py. No conditions. -/
open Ab Go TabE Sp E20 E22 E23
set_option maxRecDepth 20000
set_option linter.unusedSimpArgs false
set_option linter.unusedVariables false
set_option maxHeartbeats 8000000
namespace E24
attribute [local simp ↓] s_seq s_reg s_regd s_cond s_block s_cons s_consG s_regD
attribute [local simp] s_nil s_loop s_round s_lpn s_lpe s_lpr firstReg s_gt s_gf s_wb s_wu s_val s_valN s_skip s_calls s_callP s_cax lookR flatR pureKs s_ret s_rgx s_sqn s_sqr s_sqe s_cdb s_bkn s_bkr s_bke s_exit s_ret' s_skip' s_finr s_finn s_fin1 s_fix s_clean s_gc0 o_tmp o_int o_bool o_nil o_str o_fn o_nil' l_hit l_miss l_nil ol_nil ol_cons ol_some x_move x_assign x_pick pk_t pk_f x_bin bn_s x_un x_extract x_callF cl_no x_callB x_callBF frzV x_conv cvx convA frame0 binA intOp resL resA results1 sealLW AV.pure AV.pureL keepT x_alloc x_box bxx x_build bdx x_buildSlice bsx x_buildSliceF bsf x_load ldx x_store stx x_slice slx x_fieldAddr x_field x_index ixx x_indexAddr iax x_makeSlice msx x_makeSliceF msf x_nilCheck newK genOf setK lookK fillA writeL writeC readC conts TyI.mk1 sliceA boundsA boundsB fitsA numA indexAddrA fieldAddrA partA fieldA indexA appendA copyA builtinA AV.cells chunk gcH reach keysT keepK inKs AV.keys AV.keysL Ty.isAgg eq1 eqL convA.go ltI w_u8 w_u32 w_u64 w_i64 w_fdiv w_tdiv w_tmod IntKind.bits unA sc_int sc_bool sc_str sc_sl sc_ref sc_ptr sc_pel sc_nilp sc_fn sc_nilf sc_if sc_nili sc_agg sc_tup sc_mem bs_pure bs_kl bs_length bs_cells bs_all sl_row sealRow sealY sl_int sl_bool sl_str sl_sl sl_nilp sl_nilf sl_nili sl_pel sl_agg sl_tup sl_fn sl_if nat_1 bs_cons bs_nil i_beq i_bne x_mkF x_mkI x_tassert x_panic s_pan s_sqp s_bkp s_finp s_fixp s_lpp s_rgp s_retp s_site s_stxN s_stxO x_callT clx El.avs_len s_dyn0 s_rgy barOf dynChk footL dynOK disjK keysOp opVals Op.operands
theorem nodeB (key : Key) (st : List El) (hst : st.length ≤ 39) (hne : st.length ≠ 0) (hkey : ∃ m, key = (1, 49, m) ∨ key = (1, 92, m)) (k p : Nat) (hkp : st.length = k + p) (hk : k = st.length)
    (q0 k1 : Nat) (f q) (l : List G) (i : Nat) (g : G) (hg : g.ok) (hx : l[i]? = some g) (hi : i < 39) (ha : g.a % 3 ≠ 0) (ll : l.length ≤ 9223372036854775807) (h2 : g.a % 3 ≠ 2 ∧ (if (st.length : Int) < g.b % 5 then (st.length : Int) else g.b % 5) = (k : Int)) (dd : Int)
    (T : ∀ h, aCall E q0 0 71 [.agg [.int .u8 g.c, .int .u8 1, .int .u32 g.n]] h = some (.ret (.agg [.int .u8 (g.c % 4), .bool true, .int .u32 (tn g.c 1 g.n)]), h))
    (D : ∀ h, aCall E q0 0 40 [(nd g (st.drop p)).av] h = some (.ret (.int .i64 dd), h)) :
    ∃ key', (∃ m, key' = (1, 49, m) ∨ key' = (1, 92, m)) ∧ rndO fn22 b22 q0 k1 (S f (l.map G.av) q key st i) = some (.normal, S f (l.map G.av) q key' (if dd < 15 then st.take p ++ [nd g (st.drop p)] else st) (i + 1)) := by
  have hl : i < l.length := (List.getElem?_eq_some_iff.1 hx).1
  have ix := at_ f q l i g hx
  have w := w64' ((i : Int) + 1) (by omega) (by omega)
  have m2 : Int.tmod g.a 3 = g.a % 3 := Int.tmod_eq_emod_of_nonneg hg.1.1
  have m3 : Int.tmod g.b 5 = g.b % 5 := Int.tmod_eq_emod_of_nonneg hg.2.1.1
  have w5 := w64' (g.b % 5) (by omega) (by omega)
  have i39 : (i : Int) < 39 := by omega
  have ne : st ≠ [] := fun h => hne (by rw [h]; rfl)
  have cp : st.length * 56 ≤ 70368744177664 := by omega
  obtain rfl : p = 0 := by omega
  subst hk
  have w2 : IntKind.i64.wrap ((st.length : Int) - (st.length : Int)) = 0 := by rw [Int.sub_self]; rfl
  have d0 : st.drop 0 = st := rfl
  rw [d0] at D ⊢
  have f1 := El.fl_len st
  have f2 := El.fl_keys st
  have f3 : (El.fl st).take (st.length * 5) = El.fl st := by rw [El.fl_take, List.take_length]
  have f4 := El.fl_pure st
  have f6 := El.fl_chunk st
  have ne2 : ¬ (0 = st.length) := fun h => hne h.symm
  have ne3 : ¬ (st.length ≤ 0) := by omega
  rw [El.av_eq] at D
  simp [El.c, El.k, El.n, El.fb, El.b, El.cb, El.fs, El.s, El.cs, El.avs, bs_nil, ne] at D
  by_cases dp : dd < 15
  · rw [if_pos dp]
    refine ⟨(1, 92, if key.2.1 = 92 then key.2.2 + 1 else 0), ⟨_, .inr rfl⟩, ?_⟩
    obtain ⟨m, rfl | rfl⟩ := hkey <;> simp [b22, lp, lps, c22, Call.operands, -indexAddrA, ix, w, hl, i39, m2, m3, ha, h2.1, h2.2, w5, T, D, hi, dp, hne, El.avs, El.fl_keysr, El.fl_mem, w2, ne, ne2, ne3, f1, f2, f3, f4, f6, cp, El.fl_mk1]
  · rw [if_neg dp]
    refine ⟨key, hkey, ?_⟩
    obtain ⟨m, rfl | rfl⟩ := hkey <;> simp [b22, lp, lps, c22, Call.operands, -indexAddrA, ix, w, hl, i39, m2, m3, ha, h2.1, h2.2, w5, T, D, hi, dp, hne, El.avs, El.fl_keysr, El.fl_mem, w2, ne, ne2, ne3, f1, f2, f3, f4, f6, cp, El.fl_mk1]
theorem nodeC (key : Key) (st : List El) (hst : st.length ≤ 39) (hne : st.length ≠ 0) (hkey : ∃ m, key = (1, 49, m) ∨ key = (1, 92, m)) (k p : Nat) (hkp : st.length = k + p) (hk : k = 0)
    (q0 k1 : Nat) (f q) (l : List G) (i : Nat) (g : G) (hg : g.ok) (hx : l[i]? = some g) (hi : i < 39) (ha : g.a % 3 ≠ 0) (ll : l.length ≤ 9223372036854775807) (h2 : g.a % 3 ≠ 2 ∧ (if (st.length : Int) < g.b % 5 then (st.length : Int) else g.b % 5) = (k : Int)) (dd : Int)
    (T : ∀ h, aCall E q0 0 71 [.agg [.int .u8 g.c, .int .u8 1, .int .u32 g.n]] h = some (.ret (.agg [.int .u8 (g.c % 4), .bool true, .int .u32 (tn g.c 1 g.n)]), h))
    (D : ∀ h, aCall E q0 0 40 [(nd g (st.drop p)).av] h = some (.ret (.int .i64 dd), h)) :
    ∃ key', (∃ m, key' = (1, 49, m) ∨ key' = (1, 92, m)) ∧ rndO fn22 b22 q0 k1 (S f (l.map G.av) q key st i) = some (.normal, S f (l.map G.av) q key' (if dd < 15 then st.take p ++ [nd g (st.drop p)] else st) (i + 1)) := by
  have hl : i < l.length := (List.getElem?_eq_some_iff.1 hx).1
  have ix := at_ f q l i g hx
  have w := w64' ((i : Int) + 1) (by omega) (by omega)
  have m2 : Int.tmod g.a 3 = g.a % 3 := Int.tmod_eq_emod_of_nonneg hg.1.1
  have m3 : Int.tmod g.b 5 = g.b % 5 := Int.tmod_eq_emod_of_nonneg hg.2.1.1
  have w5 := w64' (g.b % 5) (by omega) (by omega)
  have i39 : (i : Int) < 39 := by omega
  have ne : st ≠ [] := fun h => hne (by rw [h]; rfl)
  have cp : st.length * 56 ≤ 70368744177664 := by omega
  obtain rfl : p = st.length := by omega
  subst hk
  have w2 := w64' (st.length : Int) (by omega) (by omega)
  have d0 : st.drop st.length = [] := List.drop_length
  have d1 : st.take st.length = st := List.take_length
  rw [d0] at D ⊢
  rw [d1]
  have f1 := El.fl_len st
  have f2 := El.fl_keys st
  have f3 : (El.fl st).take (st.length * 5) = El.fl st := by rw [El.fl_take, List.take_length]
  have f4 := El.fl_pure st
  have f6 := El.fl_chunk st
  have cp2 : (st.length + 1) * 56 ≤ 70368744177664 := by omega
  have ne2 : ¬ (0 = st.length) := fun h => hne h.symm
  have ne3 : ¬ (st.length ≤ 0) := by omega
  rw [El.av_eq] at D
  simp [El.c, El.k, El.n, El.fb, El.b, El.cb, El.fs, El.s, El.cs, El.avs, bs_nil] at D
  by_cases dp : dd < 15
  · rw [if_pos dp]
    refine ⟨(1, 92, if key.2.1 = 92 then key.2.2 + 1 else 0), ⟨_, .inr rfl⟩, ?_⟩
    obtain ⟨m, rfl | rfl⟩ := hkey <;> simp [b22, lp, lps, c22, Call.operands, -indexAddrA, ix, w, hl, i39, m2, m3, ha, h2.1, h2.2, w5, T, D, hi, dp, hne, El.avs, El.fl_keysr, El.fl_mem, w2, ne, ne2, ne3, f1, f2, f3, f4, f6, cp, cp2, El.fl_mkS]
  · rw [if_neg dp]
    refine ⟨key, hkey, ?_⟩
    obtain ⟨m, rfl | rfl⟩ := hkey <;> simp [b22, lp, lps, c22, Call.operands, -indexAddrA, ix, w, hl, i39, m2, m3, ha, h2.1, h2.2, w5, T, D, hi, dp, hne, El.avs, El.fl_keysr, El.fl_mem, w2, ne, ne2, ne3, f1, f2, f3, f4, f6, cp, cp2, El.fl_mkS]
end E24

end
section
/- The elements that E.Of builds, in plain Lean. No conditions. -/
open Ab Go TabE Sp E18 E20 E22 E23
set_option linter.unusedVariables false
set_option linter.unusedSimpArgs false
namespace Sp
mutual
theorem chk_of : ∀ (c : Cr) (d m l : Int), vld c → d + dep c ≤ 17 → m + cnt c ≤ 8192 → (chk c d m l).1 = 0
  | .mk c k n b s, d, m, l, hv, hd, hm => by
    unfold vld at hv
    unfold dep at hd
    unfold cnt at hm
    obtain ⟨h1, h2, h3, h4⟩ := hv
    have := deps_pos s
    have := cnts_pos s
    unfold chk
    rw [if_neg (by simp [h1]), if_neg (by
      intro h
      rcases h with ⟨a, b⟩ | ⟨a, b⟩
      · exact b (h2 a)
      · exact b (h3 a)), if_neg (by omega), if_neg (by omega)]
    exact chks_of s (d + 1) (m + 1) (max l d) h4 (by omega) (by omega)
theorem chks_of : ∀ (s : List Cr) (d m l : Int), vlds s → d + deps s ≤ 17 → m + cnts s ≤ 8192 → (chks s d m l).1 = 0
  | [], _, _, _, _, _, _ => rfl
  | x :: r, d, m, l, hv, hd, hm => by
    unfold vlds at hv
    unfold deps at hd
    unfold cnts at hm
    have := deps_pos r
    have := cnts_pos r
    have a := chk_of x d m l hv.1 (by omega) (by omega)
    unfold chks
    rw [if_neg (by simp [a])]
    have b := (chk_dep x d m l a).2.1
    exact chks_of r d _ _ hv.2 (by omega) (by rw [b]; omega)
end
theorem cnts_app (a b : List El) : cnts (El.cores (a ++ b)) = cnts (El.cores a) + cnts (El.cores b) := by
  induction a with
  | nil => simp [El.cores, cnts]
  | cons x a ih => simp only [List.cons_append, El.cores, cnts, ih]; omega
theorem cnts_len : ∀ a : List El, (a.length : Int) ≤ cnts (El.cores a)
  | [] => by simp [El.cores, cnts]
  | x :: a => by
    rw [El.cores, cnts, List.length_cons]
    have := cnt_pos x.core
    have := cnts_len a
    omega
theorem deps_le {m : Int} (h0 : 0 ≤ m) : ∀ a : List El, (∀ x ∈ a, dep x.core ≤ m) → deps (El.cores a) ≤ m
  | [], _ => by simp [El.cores, deps]; exact h0
  | x :: a, h => by
    rw [El.cores, deps]
    have := h x (List.mem_cons_self ..)
    have := deps_le h0 a fun y hy => h y (List.mem_cons_of_mem _ hy)
    omega
end Sp
namespace E26
def nx (st : List El) (g : G) : List El := if g.a % 3 = 0 then st ++ [leaf g] else if dep (nd g (st.drop (st.length - kk g st.length))).core < 15 then st.take (st.length - kk g st.length) ++ [nd g (st.drop (st.length - kk g st.length))] else st
def sq (l : List G) : Nat → List El
  | 0 => []
  | i + 1 => match l[i]? with
    | some g => nx (sq l i) g
    | none => sq l i
structure W (x : El) : Prop where
  ok : x.ok
  vld : vld x.core
  dep : dep x.core ≤ 14
  fw : Fw 20 x
theorem kk_le (g : G) (n : Nat) : kk g n ≤ n := by unfold kk; split <;> omega
theorem leaf_dep (g : G) : dep (leaf g).core = 1 := rfl
theorem leaf_W (g : G) (hg : g.ok) : W (leaf g) := by
  obtain ⟨h1, h2, h3, h4, h5, h6, h7⟩ := hg
  have t := tn_b g.c 0 g.n h5.1
  refine ⟨(El.ok_eq _).2 ⟨by simp only [leaf, El.c]; omega, by simp only [leaf, El.n]; omega, fun x hx => h6 x (List.mem_of_mem_take hx), by simp only [leaf, El.b, List.length_take]; omega, by simp [leaf, El.s], fun x hx => by cases hx⟩, ?_, by rw [leaf_dep]; omega, .mk _ (by simp only [leaf, El.b, List.length_take]; omega) fun x hx => by cases hx⟩
  rw [vld_eq]
  have q := tn_ok g.c 0 g.n h3.1 h5.1
  refine ⟨by simpa [leaf, El.c, El.k, El.n] using q, fun h => (by cases h), fun _ => rfl, trivial⟩
theorem nd_W (g : G) (hg : g.ok) (d : List El) (hd : ∀ x ∈ d, W x) (hl : d.length ≤ 1000) : (nd g d).ok ∧ vld (nd g d).core ∧ Fw 20 (nd g d) ∧ dep (nd g d).core ≤ 15 ∧ cnt (nd g d).core = 1 + cnts (El.cores d) := by
  obtain ⟨h1, h2, h3, h4, h5, h6, h7⟩ := hg
  have t := tn_b g.c 1 g.n h5.1
  refine ⟨(El.ok_eq _).2 ⟨by simp only [El.c]; omega, by simp only [El.n]; omega, isB_nil, by simp [El.b], by simp only [El.s]; omega, fun x hx => (hd x hx).ok⟩, ?_, .mk _ (by simp [El.b]) fun x hx => (hd x hx).fw, ?_, by rw [cnt_eq]; rfl⟩
  · rw [vld_eq]
    have q := tn_ok g.c 1 g.n h3.1 h5.1
    exact ⟨by simpa [El.c, El.k, El.n] using q, fun _ => rfl, fun h => (by cases h), vlds_all.2 fun x hx => (hd x hx).vld⟩
  · rw [dep_eq]
    have := deps_le (m := 14) (by omega) d fun x hx => (hd x hx).dep
    show deps (El.cores d) + 1 ≤ 15
    omega
theorem inv (l : List G) (hl : ∀ g ∈ l, g.ok) : ∀ i, i ≤ 1000 → cnts (El.cores (sq l i)) ≤ i ∧ ∀ x ∈ sq l i, W x
  | 0, _ => ⟨by simp [sq, El.cores, cnts], fun x h => by simp [sq] at h⟩
  | i + 1, hi => by
    obtain ⟨h1, h2⟩ := inv l hl i (by omega)
    unfold sq
    cases hg : l[i]? with
    | none => exact ⟨by simp only []; omega, h2⟩
    | some g =>
      have og := hl g (List.mem_of_getElem? hg)
      simp only []
      unfold nx
      by_cases ha : g.a % 3 = 0
      · rw [if_pos ha]
        refine ⟨?_, fun x hx => ?_⟩
        · rw [cnts_app]
          have : cnts (El.cores [leaf g]) = 1 := rfl
          omega
        · rcases List.mem_append.1 hx with h | h
          · exact h2 x h
          · obtain rfl := List.mem_singleton.1 h
            exact leaf_W g og
      · rw [if_neg ha]
        generalize hp : (sq l i).length - kk g (sq l i).length = p
        have ln := cnts_len (sq l i)
        have hw := nd_W g og ((sq l i).drop p) (fun x hx => h2 x (List.mem_of_mem_drop hx)) (by rw [List.length_drop]; omega)
        by_cases hd : dep (nd g ((sq l i).drop p)).core < 15
        · rw [if_pos hd]
          have sp : cnts (El.cores (sq l i)) = cnts (El.cores ((sq l i).take p)) + cnts (El.cores ((sq l i).drop p)) := by rw [← cnts_app, List.take_append_drop]
          refine ⟨?_, fun x hx => ?_⟩
          · rw [cnts_app]
            have : cnts (El.cores [nd g ((sq l i).drop p)]) = 1 + cnts (El.cores ((sq l i).drop p)) := by rw [El.cores, cnts, hw.2.2.2.2]; simp [El.cores, cnts]
            omega
          · rcases List.mem_append.1 hx with h | h
            · exact h2 x (List.mem_of_mem_take h)
            · obtain rfl := List.mem_singleton.1 h
              exact ⟨hw.1, hw.2.1, by omega, hw.2.2.1⟩
        · rw [if_neg hd]
          exact ⟨by omega, h2⟩
theorem sq_ne (l : List G) : ∀ i, i < l.length → (sq l (i + 1)).length ≠ 0
  | i, hi => by
    have hg : l[i]? = some l[i] := List.getElem?_eq_getElem hi
    unfold sq
    rw [hg]
    simp only []
    unfold nx
    split
    · simp
    split
    · simp
    · rename_i h
      cases i with
      | zero => exact absurd (by rw [dep_eq]; simp [sq, El.s, El.cores, deps]) h
      | succ i => exact sq_ne l i (by omega)
def top (st : List El) : El := match st with
  | [x] => x
  | _ => .mk 0 true 16 true [] (some 0) (decide (st = [])) st (if st = [] then some 0 else none)
def ofE (l : List G) : El := top (sq l (min 39 l.length))
structure Good (x : El) : Prop where
  ok : x.ok
  vld : vld x.core
  dep : dep x.core ≤ 15
  fw : Fw 20 x
  cnt : cnt x.core ≤ 40
theorem good (l : List G) (hl : ∀ g ∈ l, g.ok) : Good (ofE l) := by
  obtain ⟨h1, h2⟩ := inv l hl (min 39 l.length) (by omega)
  have ln := cnts_len (sq l (min 39 l.length))
  unfold ofE
  generalize sq l (min 39 l.length) = st at h1 h2 ln
  unfold top
  split
  · rename_i x
    have w := h2 x (by simp)
    exact ⟨w.ok, w.vld, by have := w.dep; omega, w.fw, by simp [El.cores, cnts] at h1; omega⟩
  · refine ⟨(El.ok_eq _).2 ⟨by simp [El.c], by simp [El.n], isB_nil, by simp [El.b], by simp only [El.s]; omega, fun x hx => (h2 x hx).ok⟩, ?_, ?_, .mk _ (by simp [El.b]) fun x hx => (h2 x hx).fw, ?_⟩
    · rw [vld_eq]
      exact ⟨rfl, fun _ => rfl, fun h => (by cases h), vlds_all.2 fun x hx => (h2 x hx).vld⟩
    · rw [dep_eq]
      have := deps_le (m := 14) (by omega) st fun x hx => (h2 x hx).dep
      show deps (El.cores st) + 1 ≤ 15
      omega
    · rw [cnt_eq]
      show 1 + cnts (El.cores st) ≤ 40
      omega
theorem Good.chk {x : El} (h : Good x) : (chk x.core 1 0 0).1 = 0 := chk_of _ _ _ _ h.vld (by have := h.dep; omega) (by have := h.cnt; omega)
theorem Good.sm {x : El} (h : Good x) : x.sm := fw_sm (by omega) x h.fw (by have := h.cnt; omega)
theorem Good.len {x : El} (h : Good x) : (enc x.core).length ≤ 1160 := by
  have := fw_len x h.fw
  have := h.cnt
  omega
end E26

end
section
/- elements.copied at the evaluator: bytes.Clone and slices.Clip. No conditions. -/
open Ab Go TabE Sp
set_option maxRecDepth 20000
set_option linter.unusedSimpArgs false
set_option linter.unusedVariables false
set_option maxHeartbeats 8000000
namespace E31
attribute [local simp ↓] s_seq s_reg s_regd s_cond s_block s_cons s_consG
attribute [local simp] s_nil s_loop s_round s_lpn s_lpe s_lpr firstReg s_gt s_gf s_wb s_wu s_val s_valN s_skip s_calls s_callP s_cax lookR flatR pureKs s_ret s_rgx s_sqn s_sqr s_sqe s_cdb s_bkn s_bkr s_bke s_exit s_ret' s_skip' s_finr s_finn s_fin1 s_fix s_clean s_gc0 o_tmp o_int o_bool o_nil o_str o_fn o_nil' l_hit l_miss l_nil ol_nil ol_cons ol_some x_move x_assign x_pick pk_t pk_f x_bin bn_s x_un x_extract x_callF cl_no x_callB x_callBF frzV x_conv cvx convA frame0 binA intOp resL resA results1 sealLW AV.pure AV.pureL keepT x_alloc x_box bxx x_build bdx x_buildSlice bsx x_buildSliceF bsf x_load ldx x_store stx x_slice slx x_fieldAddr x_field x_index ixx x_indexAddr iax x_makeSlice msx x_makeSliceF msf x_nilCheck newK genOf setK lookK fillA writeL writeC readC conts TyI.mk1 sliceA boundsA boundsB fitsA numA indexAddrA fieldAddrA partA fieldA indexA appendA copyA builtinA AV.cells chunk gcH reach keysT keepK inKs AV.keys AV.keysL Ty.isAgg eq1 eqL convA.go ltI w_u8 w_u32 w_u64 w_i64 w_fdiv w_tdiv w_tmod IntKind.bits unA sc_int sc_bool sc_str sc_sl sc_ref sc_ptr sc_pel sc_nilp sc_fn sc_nilf sc_if sc_nili sc_agg sc_tup sc_mem bs_pure bs_kl bs_length bs_cells bs_all sl_row sealRow sealY sl_int sl_bool sl_str sl_sl sl_nilp sl_nilf sl_nili sl_pel sl_agg sl_tup sl_fn sl_if nat_1 bs_cons bs_nil i_beq i_bne x_mkF x_mkI x_tassert x_panic s_pan s_sqp s_bkp s_finp s_fixp s_lpp s_rgp s_retp s_site s_stxN s_stxO x_callT clx El.avs_len
theorem clone (f : Bool) (b : List Int) (c : Option Nat) (hn : f = true → b = []) (hl : b.length ≤ 70368744177664) : ∃ c', (c' = none ∨ c' = some b.length) ∧ Con E 20 98 [.sl f (bs b) c] (.sl f (bs b) c') := by
  cases hf : f with
  | true =>
    have hb := hn hf
    subst hb
    refine ⟨some 0, .inr rfl, con_of E_fn98 (by simp [AV.pureL, AV.pure]) (Nat.le_of_ble_eq_true rfl) rfl rfl (g := []) ?_⟩
    rw [body_98, c98]
    simp [bs_nil]
  | false =>
    by_cases hb : b = []
    · subst hb
      refine ⟨some 0, .inr rfl, con_of E_fn98 (by simp [AV.pureL, AV.pure]) (Nat.le_of_ble_eq_true rfl) rfl rfl (g := []) ?_⟩
      rw [body_98, c98]
      simp [bs_nil]
    · refine ⟨none, .inl rfl, con_of E_fn98 (by simp [AV.pureL, AV.pure]) (Nat.le_of_ble_eq_true rfl) rfl rfl (g := []) ?_⟩
      rw [body_98, c98]
      simp [hb, hl]
theorem clip (f : Bool) (b : List Int) (c : Option Nat) (hc : c = none ∨ c = some b.length) : Con E 20 97 [.sl f (bs b) c] (.sl f (bs b) (some b.length)) := by
  refine con_of E_fn97 (by simp [AV.pureL, AV.pure]) (Nat.le_of_ble_eq_true rfl) rfl rfl (g := []) ?_
  rw [body_97, c97]
  have t : (bs b).take b.length = bs b := by rw [List.take_of_length_le]; rw [bs_len]; exact Nat.le_refl _
  rcases hc with rfl | rfl <;> simp [t]
mutual
def cp : El → El
  | .mk c k n fb b _ _ s _ => .mk c k n fb b (some b.length) s.isEmpty (cps s) (some s.length)
def cps : List El → List El
  | [] => []
  | x :: r => cp x :: cps r
end
theorem cps_map : ∀ l, cps l = l.map cp
  | [] => rfl
  | e :: r => by rw [cps, cps_map r]; rfl
theorem cp_eq (e : El) : cp e = .mk e.c e.k e.n e.fb e.b (some e.b.length) e.s.isEmpty (e.s.map cp) (some e.s.length) := by cases e; rw [cp, cps_map]; rfl
inductive Nn : El → Prop
  | mk (e : El) : (e.fb = true → e.b = []) → (e.fs = true → e.s = []) → (∀ x ∈ e.s, Nn x) → Nn e
end E31

end
section
/- elements.copied at the evaluator. No conditions. -/
open Ab Go TabE Sp E31
set_option maxRecDepth 20000
set_option linter.unusedSimpArgs false
set_option linter.unusedVariables false
set_option maxHeartbeats 8000000
namespace E32
attribute [local simp ↓] s_seq s_reg s_regd s_cond s_block s_cons s_consG s_regD
attribute [local simp] s_nil s_loop s_round s_lpn s_lpe s_lpr firstReg s_gt s_gf s_wb s_wu s_val s_valN s_skip s_calls s_callP s_cax lookR flatR pureKs s_ret s_rgx s_sqn s_sqr s_sqe s_cdb s_bkn s_bkr s_bke s_exit s_ret' s_skip' s_finr s_finn s_fin1 s_fix s_clean s_gc0 o_tmp o_int o_bool o_nil o_str o_fn o_nil' l_hit l_miss l_nil ol_nil ol_cons ol_some x_move x_assign x_pick pk_t pk_f x_bin bn_s x_un x_extract x_callF cl_no x_callB x_callBF frzV x_conv cvx convA frame0 binA intOp resL resA results1 sealLW AV.pure AV.pureL keepT x_alloc x_box bxx x_build bdx x_buildSlice bsx x_buildSliceF bsf x_load ldx x_store stx x_slice slx x_fieldAddr x_field x_index ixx x_indexAddr iax x_makeSlice msx x_makeSliceF msf x_nilCheck newK genOf setK lookK fillA writeL writeC readC conts TyI.mk1 sliceA boundsA boundsB fitsA numA indexAddrA fieldAddrA partA fieldA indexA appendA copyA builtinA AV.cells chunk gcH reach keysT keepK inKs AV.keys AV.keysL Ty.isAgg eq1 eqL convA.go ltI w_u8 w_u32 w_u64 w_i64 w_fdiv w_tdiv w_tmod IntKind.bits unA sc_int sc_bool sc_str sc_sl sc_ref sc_ptr sc_pel sc_nilp sc_fn sc_nilf sc_if sc_nili sc_agg sc_tup sc_mem bs_pure bs_kl bs_length bs_cells bs_all sl_row sealRow sealY sl_int sl_bool sl_str sl_sl sl_nilp sl_nilf sl_nili sl_pel sl_agg sl_tup sl_fn sl_if nat_1 bs_cons bs_nil i_beq i_bne x_mkF x_mkI x_tassert x_panic s_pan s_sqp s_bkp s_finp s_fixp s_lpp s_rgp s_retp s_site s_stxN s_stxO x_callT clx El.avs_len s_dyn0 s_rgy barOf dynChk footL dynOK disjK keysOp opVals Op.operands
theorem fl_set (r : List El) (i : Nat) (y : El) (h : i < r.length) : El.fl (r.set i y) = El.fl (r.take i) ++ .int .u8 y.c :: .bool y.k :: .int .u32 y.n :: .sl y.fb (bs y.b) y.cb :: .sl y.fs (El.avs y.s) y.cs :: El.fl (r.drop (i + 1)) := by
  rw [List.set_eq_take_append_cons_drop, if_pos h, El.fl_app]
  rfl
abbrev z0 : El := .mk 0 false 0 true [] (some 0) true [] (some 0)
theorem fl_rep : ∀ n, (List.replicate n [AV.int .u8 0, .bool false, .int .u32 0, .sl true [] (some 0), .sl true [] (some 0)]).flatten = El.fl (List.replicate n z0)
  | 0 => rfl
  | n + 1 => by rw [List.replicate_succ, List.replicate_succ, List.flatten_cons, fl_rep n]; rfl
theorem sealX_fl (n : Nat) (h : Heap) (key : Key) (st : List El) (cap : Option Nat) (mt ex : Bool) (hk : lookK h key = some ⟨El.fl st, true, mt, ex, 5, true⟩) : sealX (n + 2) h (.ref key 0 st.length cap) = some (.sl false (El.avs st) cap, setK h key ⟨El.fl st, true, false, ex, 5, true⟩) := by
  unfold sealX sealA
  have hp : (AV.ref key 0 st.length cap).pure = false := rfl
  have f3 : (El.fl st).take (st.length * 5) = El.fl st := by rw [El.fl_take, List.take_length]
  simp only [hp, Bool.false_eq_true, if_false, hk]
  rw [if_pos ⟨trivial, by rw [El.fl_len]; omega, by simp⟩]
  simp only [List.drop_zero, f3]
  rw [sealL_of_pure n _ _ (El.fl_pure st)]
  simp only [El.fl_chunk]
def row (e : El) (i : Nat) : List El := (e.s.map cp).take i ++ List.replicate (e.s.length - i) z0
theorem row_len (e : El) (i : Nat) (h : i ≤ e.s.length) : (row e i).length = e.s.length := by unfold row; simp; omega
theorem row_next (e x : El) (i : Nat) (hx : e.s[i]? = some x) : (row e i).set i (cp x) = row e (i + 1) := by
  have hi : i < e.s.length := (List.getElem?_eq_some_iff.1 hx).1
  apply List.ext_getElem?
  intro j
  have hm : (e.s.map cp)[i]? = some (cp x) := by rw [List.getElem?_map, hx]; rfl
  rw [List.getElem?_set, row_len e i (by omega)]
  unfold row
  by_cases hj : i = j
  · subst hj
    rw [if_pos rfl, if_pos hi, List.getElem?_append_left (by simp; omega), List.getElem?_take_of_lt (by omega), hm]
  · rw [if_neg hj]
    by_cases hl : j < i
    · rw [List.getElem?_append_left (by simp; omega), List.getElem?_append_left (by simp; omega), List.getElem?_take_of_lt hl, List.getElem?_take_of_lt (by omega)]
    · rw [List.getElem?_append_right (by simp; omega), List.getElem?_append_right (by simp; omega)]
      simp only [List.length_take, List.length_map, List.getElem?_replicate]
      have a : min i e.s.length = i := by omega
      have b : min (i + 1) e.s.length = i + 1 := by omega
      rw [a, b]
      by_cases hq : j < e.s.length
      · rw [if_pos (by omega), if_pos (by omega)]
      · rw [if_neg (by omega), if_neg (by omega)]
def b74 : Code := lp c74 0
abbrev S (e : El) (r : List El) (i : Nat) : St := ⟨[(2, .ptr (1, 2, 0) 0), (3, .ptr (1, 3, 0) 0), (23, .sl e.fs (El.avs e.s) e.cs), (24, .int .i64 (e.s.length : Int)), (25, .int .i64 (i : Int))], [((1, 2, 0), bx [.int .u8 0, .bool false, .int .u32 0, .sl true [] (some 0), .sl true [] (some 0)]), ((1, 3, 0), bx [.int .u8 e.c, .bool e.k, .int .u32 e.n, .sl e.fb (bs e.b) (some e.b.length), .ref (1, 20, 0) 0 e.s.length (some e.s.length)]), ((1, 20, 0), ⟨El.fl r, true, true, true, 5, true⟩)]⟩
theorem row_at (i n : Nat) (hi : i < n) (hn : n ≤ 1000000) : ∀ h o, lookK h (1, 20, 0) = some o → o.live = true → o.esz = 5 → n * 5 ≤ o.cells.length → indexAddrA E 28 (.ref (1, 20, 0) 0 n (some n)) (.int .i64 (i : Int)) h = some (.ptr (1, 20, 0) (i * 5)) := by
  intro h o h1 h2 h3 h4
  have a : i * 5 + 5 ≤ n * 5 := by omega
  simp [indexAddrA, h1, h2, h3, hi]
theorem go (q k1 : Nat) (e x : El) (r : List El) (i : Nat) (hx : e.s[i]? = some x) (hr : r.length = e.s.length) (le : e.s.length ≤ 1000000) (B : ∀ h, aCall E q 0 74 [x.av] h = some (.ret (cp x).av, h)) :
    rnd fn74 b74 q k1 (S e r i) = some (.normal, S e (r.set i (cp x)) (i + 1)) := by
  have hi : i < e.s.length := (List.getElem?_eq_some_iff.1 hx).1
  have ix := fun hp => El.at_ e.fs e.cs e.s i x hx hp
  have w := w64' ((i : Int) + 1) (by omega) (by omega)
  have ir := row_at i e.s.length hi (by omega)
  rw [El.av_eq, El.av_eq] at B
  have f1 := El.fl_len r
  have f2 : (El.fl r).take (i * 5) = El.fl (r.take i) := El.fl_take i r
  have f3 : (El.fl r).drop (i * 5 + 5) = El.fl (r.drop (i + 1)) := by rw [← El.fl_drop]; congr 1; omega
  have g1 : i * 5 + 5 ≤ e.s.length * 5 := by omega
  have f4 := El.fl_keys r
  have f5 := El.fl_keys (r.take i)
  have f6 := El.fl_keys (r.drop (i + 1))
  have fs := fl_set r i (cp x) (by omega)
  simp [b74, lp, lps, c74, -indexAddrA, ix, ir, fs, w, hi, B, f1, f2, f3, f4, f5, f6, g1, hr, El.fl_keysr]
end E32

end
section
/- elements.copied at the evaluator: what it answers. No conditions. -/
open Ab Go TabE Sp E31 E32
set_option maxRecDepth 20000
set_option linter.unusedSimpArgs false
set_option linter.unusedVariables false
set_option maxHeartbeats 8000000
namespace E33
attribute [local simp ↓] s_seq s_reg s_regd s_cond s_block s_cons s_consG s_regD
attribute [local simp] s_nil s_loop s_round s_lpn s_lpe s_lpr firstReg s_gt s_gf s_wb s_wu s_val s_valN s_skip s_calls s_callP s_cax lookR flatR pureKs s_ret s_rgx s_sqn s_sqr s_sqe s_cdb s_bkn s_bkr s_bke s_exit s_ret' s_skip' s_finr s_finn s_fin1 s_fix s_clean s_gc0 o_tmp o_int o_bool o_nil o_str o_fn o_nil' l_hit l_miss l_nil ol_nil ol_cons ol_some x_move x_assign x_pick pk_t pk_f x_bin bn_s x_un x_extract x_callF cl_no x_callB x_callBF frzV x_conv cvx convA frame0 binA intOp resL resA results1 sealLW AV.pure AV.pureL keepT x_alloc x_box bxx x_build bdx x_buildSlice bsx x_buildSliceF bsf x_load ldx x_store stx x_slice slx x_fieldAddr x_field x_index ixx x_indexAddr iax x_makeSlice msx x_makeSliceF msf x_nilCheck newK genOf setK lookK fillA writeL writeC readC conts TyI.mk1 sliceA boundsA boundsB fitsA numA indexAddrA fieldAddrA partA fieldA indexA appendA copyA builtinA AV.cells chunk gcH reach keysT keepK inKs AV.keys AV.keysL Ty.isAgg eq1 eqL convA.go ltI w_u8 w_u32 w_u64 w_i64 w_fdiv w_tdiv w_tmod IntKind.bits unA sc_int sc_bool sc_str sc_sl sc_ref sc_ptr sc_pel sc_nilp sc_fn sc_nilf sc_if sc_nili sc_agg sc_tup sc_mem bs_pure bs_kl bs_length bs_cells bs_all sl_row sealRow sealY sl_int sl_bool sl_str sl_sl sl_nilp sl_nilf sl_nili sl_pel sl_agg sl_tup sl_fn sl_if nat_1 bs_cons bs_nil i_beq i_bne x_mkF x_mkI x_tassert x_panic s_pan s_sqp s_bkp s_finp s_fixp s_lpp s_rgp s_retp s_site s_stxN s_stxO x_callT clx El.avs_len s_dyn0 s_rgy barOf dynChk footL dynOK disjK keysOp opVals Op.operands
theorem last (q k1 : Nat) (e : El) (r : List El) : rnd fn74 b74 q k1 (S e r e.s.length) = some (.exit 0, ⟨[(2, .ptr (1, 2, 0) 0), (3, .ptr (1, 3, 0) 0), (23, .sl e.fs (El.avs e.s) e.cs), (24, .int .i64 (e.s.length : Int)), (25, .int .i64 (e.s.length : Int)), (26, .bool false)], [((1, 2, 0), bx [.int .u8 0, .bool false, .int .u32 0, .sl true [] (some 0), .sl true [] (some 0)]), ((1, 3, 0), bx [.int .u8 e.c, .bool e.k, .int .u32 e.n, .sl e.fb (bs e.b) (some e.b.length), .ref (1, 20, 0) 0 e.s.length (some e.s.length)]), ((1, 20, 0), ⟨El.fl r, true, true, true, 5, true⟩)]⟩) := by
  have f4 := El.fl_keys r
  simp [b74, lp, lps, c74, f4]
inductive Sh : El → Prop
  | mk (e : El) : e.b.length ≤ 1000000 → e.s.length ≤ 1000000 → (∀ x ∈ e.s, Sh x) → Sh e
theorem copy : ∀ e : El, Nn e → Sh e → ∃ N, Con E N 74 [e.av] (cp e).av := by
  refine El.ind fun e ih hn hs => ?_
  obtain ⟨_, n1, n2, n3⟩ := hn
  obtain ⟨_, s1, s2, s3⟩ := hs
  obtain ⟨N, hN⟩ := unif (P := fun (x : El) (n : Nat) => Con E n 74 [x.av] (cp x).av) (fun x n m h hm => h.mono hm) e.s (fun x hx => ih x hx (n3 x hx) (s3 x hx))
  obtain ⟨c, hc, C⟩ := clone e.fb e.b e.cb n1 (by omega)
  have P := clip e.fb e.b c hc
  obtain ⟨K, hK⟩ : ∃ K, N + e.s.length + 60 = K := ⟨_, rfl⟩
  have C' := C K (by omega) 0
  have P' := P K (by omega) 0
  refine ⟨K + 1, con_of E_fn74 (by simp [AV.pureL, El.av_pure]) (Nat.le_of_ble_eq_true rfl) rfl rfl (g := []) ?_⟩
  rw [body_74, c74]
  have lv := El.avs_len e.s
  by_cases h0 : e.s.length = 0
  · have es : e.s = [] := List.length_eq_zero_iff.1 h0
    have t : (cp e).av = .agg [.int .u8 e.c, .bool e.k, .int .u32 e.n, .sl e.fb (bs e.b) (some e.b.length), .sl true [] (some 0)] := by rw [cp_eq, El.av, es]; rfl
    rw [t]
    obtain ⟨k, hk⟩ : ∃ k, K = k + 1 := ⟨K - 1, by omega⟩
    have L : aLoop (aCode E (aCall E K) (dcall (aRun E K)) K 1 fn74 b74) (cleanS 1 ((firstReg b74).bind fn74.head)) K ⟨[(2, .ptr (1, 2, 0) 0), (3, .ptr (1, 3, 0) 0), (23, .sl e.fs [] e.cs), (24, .int .i64 0), (25, .int .i64 0)], [((1, 2, 0), bx [.int .u8 0, .bool false, .int .u32 0, .sl true [] (some 0), .sl true [] (some 0)]), ((1, 3, 0), bx [.int .u8 e.c, .bool e.k, .int .u32 e.n, .sl e.fb (bs e.b) (some e.b.length), .sl true [] (some 0)])]⟩ = some (.exit 0, ⟨[(2, .ptr (1, 2, 0) 0), (3, .ptr (1, 3, 0) 0), (23, .sl e.fs [] e.cs), (24, .int .i64 0), (25, .int .i64 0), (26, .bool false)], [((1, 2, 0), bx [.int .u8 0, .bool false, .int .u32 0, .sl true [] (some 0), .sl true [] (some 0)]), ((1, 3, 0), bx [.int .u8 e.c, .bool e.k, .int .u32 e.n, .sl e.fb (bs e.b) (some e.b.length), .sl true [] (some 0)])]⟩) := by
      rw [hk]
      refine aLoop_end ?_ (by simp)
      simp [b74, lp, lps, c74]
    simp [b74, lp, lps, c74, firstReg, bx] at L
    simp [El.av_eq, El.avs, -s_round, L, es, C', P']
  · have es : e.s ≠ [] := fun h => h0 (by rw [h]; rfl)
    have rl : row e e.s.length = e.s.map cp := by unfold row; rw [Nat.sub_self, List.take_of_length_le (by simp)]; simp
    have r0 : row e 0 = List.replicate e.s.length z0 := by unfold row; simp
    have t : (cp e).av = .agg [.int .u8 e.c, .bool e.k, .int .u32 e.n, .sl e.fb (bs e.b) (some e.b.length), .sl false (El.avs (e.s.map cp)) (some e.s.length)] := by rw [cp_eq, El.av]; simp [es]
    rw [t]
    have L := loopQ (fn := fn74) (b := b74) (K := K) (k := K) (fun i => S e (row e i) i) e.s.length rfl (fun i hi => by
      obtain ⟨x, hx⟩ : ∃ x, e.s[i]? = some x := ⟨e.s[i], by simp⟩
      have := go K K e x (row e i) i hx (row_len e i (by omega)) s2 fun h => hN x (List.mem_of_getElem? hx) K (by omega) 0 h
      rwa [row_next e x i hx] at this) (last K K e _) (by simp) (by omega)
    rw [rl, r0] at L
    have sx := fun n h key => sealX_fl n h key (e.s.map cp) (some e.s.length) true true
    rw [List.length_map] at sx
    have f1 := El.fl_len (e.s.map cp)
    have f2 := El.fl_keys (e.s.map cp)
    have f3 := El.fl_keys (List.replicate e.s.length z0)
    have cp56 : (e.s.length : Int) * 56 ≤ 70368744177664 := by omega
    have h1 : 0 < e.s.length := by omega
    have h2 : (0 : Int) < e.s.length := by omega
    simp [b74, lp, lps, c74, firstReg, S, bx] at L
    simp [El.av_eq, -s_round, L, h0, h1, h2, lv, C', P', sx, f1, f2, f3, fl_rep, cp56, List.length_map]
end E33

end
section
/- elements.At at the evaluator. No conditions. -/
open Ab Go TabE Sp E31 E32 E33
set_option maxRecDepth 20000
set_option linter.unusedSimpArgs false
set_option linter.unusedVariables false
set_option maxHeartbeats 8000000
namespace E34
attribute [local simp ↓] s_seq s_reg s_regd s_cond s_block s_cons s_consG
attribute [local simp] s_nil s_loop s_round s_lpn s_lpe s_lpr firstReg s_gt s_gf s_wb s_wu s_val s_valN s_skip s_calls s_callP s_cax lookR flatR pureKs s_ret s_rgx s_sqn s_sqr s_sqe s_cdb s_bkn s_bkr s_bke s_exit s_ret' s_skip' s_finr s_finn s_fin1 s_fix s_clean s_gc0 o_tmp o_int o_bool o_nil o_str o_fn o_nil' l_hit l_miss l_nil ol_nil ol_cons ol_some x_move x_assign x_pick pk_t pk_f x_bin bn_s x_un x_extract x_callF cl_no x_callB x_callBF frzV x_conv cvx convA frame0 binA intOp resL resA results1 sealLW AV.pure AV.pureL keepT x_alloc x_box bxx x_build bdx x_buildSlice bsx x_buildSliceF bsf x_load ldx x_store stx x_slice slx x_fieldAddr x_field x_index ixx x_indexAddr iax x_makeSlice msx x_makeSliceF msf x_nilCheck newK genOf setK lookK fillA writeL writeC readC conts TyI.mk1 sliceA boundsA boundsB fitsA numA indexAddrA fieldAddrA partA fieldA indexA appendA copyA builtinA AV.cells chunk gcH reach keysT keepK inKs AV.keys AV.keysL Ty.isAgg eq1 eqL convA.go ltI w_u8 w_u32 w_u64 w_i64 w_fdiv w_tdiv w_tmod IntKind.bits unA sc_int sc_bool sc_str sc_sl sc_ref sc_ptr sc_pel sc_nilp sc_fn sc_nilf sc_if sc_nili sc_agg sc_tup sc_mem bs_pure bs_kl bs_length bs_cells bs_all sl_row sealRow sealY sl_int sl_bool sl_str sl_sl sl_nilp sl_nilf sl_nili sl_pel sl_agg sl_tup sl_fn sl_if nat_1 bs_cons bs_nil i_beq i_bne x_mkF x_mkI x_tassert x_panic s_pan s_sqp s_bkp s_finp s_fixp s_lpp s_rgp s_retp s_site s_stxN s_stxO x_callT clx El.avs_len
abbrev ns (ps : List Int) : List AV := ps.map (AV.int .i64)
theorem int_at (f c) (ps : List Int) (i : Nat) (p : Int) (h : ps[i]? = some p) : ∀ hp, indexAddrA E 47 (.sl f (ns ps) c) (.int .i64 i) hp = some (.pel [.int .i64 p]) := by
  intro hp
  have hi : i < ps.length := (List.getElem?_eq_some_iff.1 h).1
  unfold indexAddrA
  simp only [E_ty47, E_ty3]
  rw [if_pos ⟨by omega, by rw [List.length_map]; omega⟩]
  simp only [Int.toNat_natCast, ns, List.getElem?_map, h, Option.map_some]
  rfl
def walk : El → List Int → Option El
  | e, [] => some e
  | e, p :: r => if p < 0 then none else match e.s[p.toNat]? with
    | some x => walk x r
    | none => none
def b25 : Code := lp c25 0
abbrev S (f : Bool) (ps : List Int) (c : Option Nat) (i : Nat) (x : El) : St := ⟨[(2, .ptr (1, 2, 0) 0), (4, .ptr (1, 4, 0) 0), (15, .sl f (ns ps) c), (16, .int .i64 (ps.length : Int)), (17, .int .i64 (i : Int))], [((1, 2, 0), bx (ec x)), ((1, 4, 0), bx [.int .u8 0, .bool false, .int .u32 0, .sl true [] (some 0), .sl true [] (some 0)])]⟩
abbrev Bad : AExit × St := (.ret, ⟨[(4, .ptr (1, 4, 0) 0), (5, .int .i64 19)], [((1, 4, 0), bx [.int .u8 0, .bool false, .int .u32 0, .sl true [] (some 0), .sl true [] (some 0)])]⟩)
theorem go (q k1 : Nat) (f ps c) (i : Nat) (e x : El) (p : Int) (hp : ps[i]? = some p) (lp' : ps.length ≤ 1000) (p0 : 0 ≤ p) (hx : e.s[p.toNat]? = some x) : rnd fn25 b25 q k1 (S f ps c i e) = some (.normal, S f ps c (i + 1) x) := by
  have hi : i < ps.length := (List.getElem?_eq_some_iff.1 hp).1
  have hl : p.toNat < e.s.length := (List.getElem?_eq_some_iff.1 hx).1
  have ip := int_at f c ps i p hp
  have ix := El.at_ e.fs e.cs e.s p.toNat x hx
  have pp : (p.toNat : Int) = p := Int.toNat_of_nonneg p0
  rw [pp] at ix
  have w := w64' ((i : Int) + 1) (by omega) (by omega)
  have p1 : ¬ p < 0 := by omega
  have p2 : p < (e.s.length : Int) := by omega
  have p3 : ¬ ((e.s.length : Int) ≤ p) := by omega
  have lv := El.avs_len e.s
  simp [b25, lp, lps, c25, -indexAddrA, ip, ix, w, hi, p1, p2, p3, lv, p0]
theorem bad (q k1 : Nat) (f ps c) (i : Nat) (e : El) (p : Int) (hp : ps[i]? = some p) (lp' : ps.length ≤ 1000) (h : p < 0 ∨ e.s.length ≤ p) : rnd fn25 b25 q k1 (S f ps c i e) = some Bad := by
  have hi : i < ps.length := (List.getElem?_eq_some_iff.1 hp).1
  have ip := int_at f c ps i p hp
  have lv := El.avs_len e.s
  by_cases h0 : p < 0
  · simp [b25, lp, lps, c25, -indexAddrA, ip, hi, h0, lv]
  · have p2 : (e.s.length : Int) ≤ p := by omega
    have p3 : ¬ (p < (e.s.length : Int)) := by omega
    simp [b25, lp, lps, c25, -indexAddrA, ip, hi, h0, p2, p3, lv]
theorem last (q k1 : Nat) (f ps c) (e : El) : rnd fn25 b25 q k1 (S f ps c ps.length e) = some (.exit 0, ⟨[(2, .ptr (1, 2, 0) 0), (4, .ptr (1, 4, 0) 0), (15, .sl f (ns ps) c), (16, .int .i64 (ps.length : Int)), (17, .int .i64 (ps.length : Int)), (18, .bool false)], [((1, 2, 0), bx (ec e)), ((1, 4, 0), bx [.int .u8 0, .bool false, .int .u32 0, .sl true [] (some 0), .sl true [] (some 0)])]⟩) := by
  simp [b25, lp, lps, c25]
end E34

end
section
/- elements.At at the evaluator: what it answers. No conditions. -/
open Ab Go TabE Sp E31 E33 E34
set_option maxRecDepth 20000
set_option linter.unusedSimpArgs false
set_option linter.unusedVariables false
set_option maxHeartbeats 8000000
namespace E35
attribute [local simp ↓] s_seq s_reg s_regd s_cond s_block s_cons s_consG
attribute [local simp] s_nil s_loop s_round s_lpn s_lpe s_lpr firstReg s_gt s_gf s_wb s_wu s_val s_valN s_skip s_calls s_callP s_cax lookR flatR pureKs s_ret s_rgx s_sqn s_sqr s_sqe s_cdb s_bkn s_bkr s_bke s_exit s_ret' s_skip' s_finr s_finn s_fin1 s_fix s_clean s_gc0 o_tmp o_int o_bool o_nil o_str o_fn o_nil' l_hit l_miss l_nil ol_nil ol_cons ol_some x_move x_assign x_pick pk_t pk_f x_bin bn_s x_un x_extract x_callF cl_no x_callB x_callBF frzV x_conv cvx convA frame0 binA intOp resL resA results1 sealLW AV.pure AV.pureL keepT x_alloc x_box bxx x_build bdx x_buildSlice bsx x_buildSliceF bsf x_load ldx x_store stx x_slice slx x_fieldAddr x_field x_index ixx x_indexAddr iax x_makeSlice msx x_makeSliceF msf x_nilCheck newK genOf setK lookK fillA writeL writeC readC conts TyI.mk1 sliceA boundsA boundsB fitsA numA indexAddrA fieldAddrA partA fieldA indexA appendA copyA builtinA AV.cells chunk gcH reach keysT keepK inKs AV.keys AV.keysL Ty.isAgg eq1 eqL convA.go ltI w_u8 w_u32 w_u64 w_i64 w_fdiv w_tdiv w_tmod IntKind.bits unA sc_int sc_bool sc_str sc_sl sc_ref sc_ptr sc_pel sc_nilp sc_fn sc_nilf sc_if sc_nili sc_agg sc_tup sc_mem bs_pure bs_kl bs_length bs_cells bs_all sl_row sealRow sealY sl_int sl_bool sl_str sl_sl sl_nilp sl_nilf sl_nili sl_pel sl_agg sl_tup sl_fn sl_if nat_1 bs_cons bs_nil i_beq i_bne x_mkF x_mkI x_tassert x_panic s_pan s_sqp s_bkp s_finp s_fixp s_lpp s_rgp s_retp s_site s_stxN s_stxO x_callT clx El.avs_len
def nx (e : El) (p : Int) : El ⊕ (AExit × St) := if p < 0 then .inr Bad else match e.s[p.toNat]? with
  | some x => .inl x
  | none => .inr Bad
abbrev fin (f : Bool) (ps : List Int) (c : Option Nat) (e : El) : AExit × St := (.exit 0, ⟨[(2, .ptr (1, 2, 0) 0), (4, .ptr (1, 4, 0) 0), (15, .sl f (ns ps) c), (16, .int .i64 (ps.length : Int)), (17, .int .i64 (ps.length : Int)), (18, .bool false)], [((1, 2, 0), bx (ec e)), ((1, 4, 0), bx [.int .u8 0, .bool false, .int .u32 0, .sl true [] (some 0), .sl true [] (some 0)])]⟩)
end E35

end
section
/- Elements below elements, in plain Lean. No conditions. -/
open Ab Go TabE Sp E18 E20 E22 E23 E26 E31 E33
set_option linter.unusedVariables false
set_option linter.unusedSimpArgs false
namespace E36
mutual
theorem many_cnt : ∀ (c : Cr) (m : Int), 1 ≤ m → cnt c ≤ m → many c m = cnt c
  | .mk _ _ _ _ s, m, h0, h => by
    unfold cnt at h
    have := cnts_pos s
    unfold many cnt
    rw [if_neg (by omega)]
    exact manys_cnt s m 1 (by omega) h
theorem manys_cnt : ∀ (s : List Cr) (m n : Int), 1 ≤ n → n + cnts s ≤ m → manys s m n = n + cnts s
  | [], m, n, _, _ => by unfold manys cnts; omega
  | x :: r, m, n, h0, h => by
    unfold cnts at h
    have := cnts_pos r
    have := cnt_pos x
    unfold manys cnts
    rw [if_pos (by omega), many_cnt x (m - n) (by omega) (by omega), manys_cnt r m _ (by omega) (by omega)]
    omega
end
end E36

end
section
/- The examples of the chapters, at the evaluator. No conditions. -/
open Ab Go TabE
set_option maxRecDepth 100000
namespace LV
theorem l04 : Con E 200 18 [] (.bool true) := by
  obtain ⟨g, h⟩ := isT_some (show isT (aCall E 200 0 18 [] []) = true by kernel_rfl)
  exact .of (g := g) rfl h
end LV

end
section
/- The law ElementsCheck at the evaluator: true at every element. No conditions. -/
open Ab Go TabE Sp E13 E18
set_option maxRecDepth 20000
set_option linter.unusedSimpArgs false
set_option linter.unusedVariables false
set_option maxHeartbeats 8000000
namespace E18
attribute [local simp ↓] s_seq s_reg s_regd s_cond s_block s_cons s_consG
attribute [local simp] s_nil s_loop s_round s_lpn s_lpe s_lpr firstReg s_gt s_gf s_wb s_wu s_val s_valN s_skip s_calls s_callP s_cax lookR flatR pureKs s_ret s_rgx s_sqn s_sqr s_sqe s_cdb s_bkn s_bkr s_bke s_exit s_ret' s_skip' s_finr s_finn s_fin1 s_fix s_clean s_gc0 o_tmp o_int o_bool o_nil o_str o_fn o_nil' l_hit l_miss l_nil ol_nil ol_cons ol_some x_move x_assign x_pick pk_t pk_f x_bin bn_s x_un x_extract x_callF cl_no x_callB x_callBF frzV x_conv cvx convA frame0 binA intOp resL resA results1 sealLW AV.pure AV.pureL keepT x_alloc x_box bxx x_build bdx x_buildSlice bsx x_buildSliceF bsf x_load ldx x_store stx x_slice slx x_fieldAddr x_field x_index ixx x_indexAddr iax x_makeSlice msx x_makeSliceF msf x_nilCheck newK genOf setK lookK fillA writeL writeC readC conts TyI.mk1 sliceA boundsA boundsB fitsA numA indexAddrA fieldAddrA partA fieldA indexA appendA copyA builtinA AV.cells chunk gcH reach keysT keepK inKs AV.keys AV.keysL Ty.isAgg eq1 eqL convA.go ltI w_u8 w_u32 w_u64 w_i64 w_fdiv w_tdiv w_tmod IntKind.bits unA sc_int sc_bool sc_str sc_sl sc_ref sc_ptr sc_pel sc_nilp sc_fn sc_nilf sc_if sc_nili sc_agg sc_tup sc_mem bs_pure bs_kl bs_length bs_cells bs_all sl_row sealRow sealY sl_int sl_bool sl_str sl_sl sl_nilp sl_nilf sl_nili sl_pel sl_agg sl_tup sl_fn sl_if nat_1 bs_cons bs_nil i_beq i_bne x_mkF x_mkI x_tassert x_panic s_pan s_sqp s_bkp s_finp s_fixp s_lpp s_rgp s_retp s_site s_stxN s_stxO x_callT clx El.avs_len
def z : El := .mk 0 false 0 true [] (some 0) true [] (some 0)
def ex : El := .mk 0 true 16 true [] (some 0) false [.mk 0 false 2 false [7] (some 1) true [] (some 0), .mk 0 false 5 true [] (some 0) true [] (some 0)] (some 2)
theorem ex_con : Con E 20 41 [] ex.av := .of (g := []) rfl (by kernel_rfl)
theorem z_ok : z.ok := by simp [z, El.ok, El.oks, isB]
theorem ex_ok : ex.ok := by simp [ex, El.ok, El.oks, isB]
theorem ex_sm : ex.sm := by simp [ex, El.sm, El.sms]
theorem ex_chk : (chk ex.core 1 0 0).1 = 0 := by decide +kernel
theorem ex_enc : enc ex.core = [48, 5, 2, 1, 7, 5, 0] := by decide +kernel
theorem z_av : z.av = .agg [.int .u8 0, .bool false, .int .u32 0, .sl true [] (some 0), .sl true [] (some 0)] := rfl
theorem at_bad (e : El) (he : e.ok) (f c) (h : (chk e.core 1 0 0).1 ≠ 0) (ps : List AV) (hp : AV.pureL ps = true) : ∃ N, Con E N 25 [e.av, .sl f ps c] (.tup [z.av, .int .i64 (chk e.core 1 0 0).1]) := by
  obtain ⟨N, C⟩ := E10.check e he
  have C' := C (N + 10) (by omega) 0
  rw [El.av_eq] at C'
  refine ⟨N + 10 + 1, con_of E_fn25 (by simp [AV.pureL, El.av_pure, AV.pure, hp]) (Nat.le_of_ble_eq_true rfl) rfl rfl (g := []) ?_⟩
  rw [body_25, c25, z_av]
  simp [El.av_eq, C', h, hp]
theorem isB_app {a b : List Int} (ha : isB a) (hb : isB b) : isB (a ++ b) := fun x h => (List.mem_append.1 h).elim (ha x) (hb x)
theorem oct_B (v : Int) (k : Nat) : 0 ≤ TG.oct v k ∧ TG.oct v k < 256 := by
  unfold TG.oct
  generalize v / 2 ^ (7 * k) = w
  split <;> omega
theorem grp_B (v : Int) : isB (TG.grp v) := by
  unfold TG.grp
  split <;> intro x hx <;> simp at hx <;> (rcases hx with rfl | rfl | rfl | rfl) <;> exact oct_B _ _
theorem tagO_B (c k n) (hc : 0 ≤ c) (hc3 : c ≤ 3) (hn : 0 ≤ n) : isB (TG.tagO c k n) := by
  unfold TG.tagO
  split
  · intro x hx; simp at hx; subst hx; cases k <;> simp <;> omega
  · rw [isB_cons]; exact ⟨by cases k <;> simp <;> omega, grp_B n⟩
theorem lenO_B (n : Int) (h0 : 0 ≤ n) (h1 : n ≤ 16777215) : isB (lenO n) := by
  unfold lenO
  split
  · intro x hx; simp at hx; omega
  split
  · intro x hx; simp at hx; omega
  split
  · intro x hx; simp at hx; omega
  · intro x hx; simp at hx; omega
theorem encs_B : ∀ l : List El, (∀ x ∈ l, isB (enc x.core)) → isB (encs (El.cores l))
  | [], _ => isB_nil
  | x :: r, h => by
    rw [El.cores, encs]
    exact isB_app (h x (List.mem_cons_self ..)) (encs_B r fun y hy => h y (List.mem_cons_of_mem _ hy))
theorem encs_mem {x : El} : ∀ {l : List El}, x ∈ l → (enc x.core).length ≤ (encs (El.cores l)).length
  | y :: r, h => by
    rw [El.cores, encs, List.length_append]
    rcases List.mem_cons.1 h with rfl | h
    · omega
    · have := encs_mem h; omega
theorem enc_B : ∀ e : El, e.ok → vld e.core → (enc e.core).length ≤ 16777215 → isB (enc e.core) := by
  refine El.ind fun e ih he hv hl => ?_
  have v := (vld_eq e).1 hv
  have hs := encs_B e.s fun x hx => ih x hx (he.sub x hx) (vlds_all.1 v.2.2.2 x hx) (by
    have := encs_mem hx
    rw [enc_eq] at hl
    simp only [List.length_append] at hl
    omega)
  have t : e.c ≤ 3 := by
    have := v.1
    unfold tagE at this
    by_cases q : 3 < e.c ∨ 268435455 < e.n
    · rw [if_pos q] at this; cases this
    · omega
  rw [enc_eq] at hl ⊢
  simp only [List.length_append] at hl
  exact isB_app (tagO_B _ _ _ he.cb.1 t he.nb.1) (isB_app (lenO_B _ (by omega) (by simp only [List.length_append]; omega)) (isB_app he.bb hs))
theorem cmpI_refl : ∀ l : List Int, cmpI l l = 0
  | [] => rfl
  | a :: r => by rw [cmpI, if_pos rfl]; exact cmpI_refl r
theorem law (e : El) (he : e.ok) : ∃ N, Con E N 9 [e.av] (.bool true) := by
  obtain ⟨N0, r, B, hr⟩ := bounded e he
  rcases hr with rfl | ⟨rfl, hb⟩
  · have B' := B (N0 + 300) (by omega) 0
    rw [El.av_eq] at B'
    have l := LV.l04 (N0 + 300) (by omega) 0
    refine ⟨N0 + 300 + 1, con_of E_fn9 (by simp [AV.pureL, El.av_pure]) (Nat.le_of_ble_eq_true rfl) rfl rfl (g := []) ?_⟩
    rw [body_9, c9]
    simp [El.av_eq, B', l]
  have hcnt : cnt e.core ≤ 60 := by
    obtain ⟨_, _, _, hm⟩ := hb
    rw [cnt_many e.core 60 (by omega) hm]; exact hm
  have hf := fw_bd e hb
  have hs := fw_sm (by omega) e hf (by omega)
  have hl := fw_len e hf
  have hl2 : (enc e.core).length ≤ 1048576 := by omega
  obtain ⟨N1, C1⟩ := E11.check e he
  obtain ⟨N2, C2⟩ := E10.check e he
  obtain ⟨N3, C3⟩ := E10.count e he
  obtain ⟨N4, C4⟩ := E10.depth e he
  by_cases hw : (chk e.core 1 0 0).1 = 0
  · have hv := vld_of _ _ _ _ hw
    have cd := chk_dep e.core 1 0 0 hw
    have dp := dep_pos e.core
    have dc := dep_cnt e.core
    have rc1 : E11.rc e.core 1 0 = (0, cnt e.core) := by
      unfold E11.rc
      rw [if_pos hw, hw, cd.2.1, Int.zero_add]
    have m1 : (E5.meas e).2.1 = cnt e.core ∧ (E5.meas e).2.2 = dep e.core := by
      unfold E5.meas; rw [if_pos hw]; exact ⟨by rw [cd.2.1]; omega, by rw [cd.1]; omega⟩
    obtain ⟨N5, C5⟩ := E10.put_ok e he hs hw hl2
    obtain ⟨N6, v, C6, hv6⟩ := E14.same_ok e e he he hw hw
    obtain rfl := hv6.2 rfl
    obtain ⟨N7, C7⟩ := E17.rput e he hv (by omega)
    obtain ⟨N8, C8⟩ := E10.size_ok e he hs hw
    rw [if_pos hl2] at C8
    obtain ⟨N9, C9⟩ := E12.depth e he (by omega)
    obtain ⟨K, hK⟩ : ∃ K, N0 + N1 + N2 + N3 + N4 + N5 + N6 + N7 + N8 + N9 + 300 = K := ⟨_, rfl⟩
    have w0 := B K (by omega) 0
    have w1 := C1 K (by omega) 1 0 (by omega) (by omega) (by omega) (by omega)
    rw [rc1] at w1
    have w2 := C2 K (by omega) 0
    rw [hw] at w2
    have w3 := C3 K (by omega) 0
    rw [m1.1] at w3
    have w4 := C4 K (by omega) 0
    rw [m1.2] at w4
    have w5 := C5 K (by omega) 0
    have w6 := C6 K (by omega) 0
    have w7 := C7 K (by omega) 0
    have w8 := C8 K (by omega) 0
    have w9 := C9 K (by omega) 0
    have l := LV.l04 K (by omega) 0
    rw [El.av_eq] at w0 w1 w2 w3 w4 w5 w6 w7 w8 w9
    have eb : isB (enc e.core) := enc_B e he hv (by omega)
    have gb := bs_go eb
    refine ⟨K + 1, con_of E_fn9 (by simp [AV.pureL, El.av_pure]) (Nat.le_of_ble_eq_true rfl) rfl rfl (g := []) ?_⟩
    rw [body_9, c9]
    simp [El.av_eq, w0, w1, w2, w3, w4, w5, w6, w7, w8, w9, l, gb]
  · have m1 : (E5.meas e).2.1 = 0 ∧ (E5.meas e).2.2 = 0 := by unfold E5.meas; rw [if_neg hw]; exact ⟨rfl, rfl⟩
    have rc1 : E11.rc e.core 1 0 = ((chk e.core 1 0 0).1, 0) := by unfold E11.rc; rw [if_neg hw]
    obtain ⟨N5, C5⟩ := E10.put_bad e he hw
    obtain ⟨N6, C6⟩ := E14.same_bad e e he hw
    obtain ⟨N7, C7⟩ := at_bad e he true (some 0) hw [] rfl
    obtain ⟨N8, C8⟩ := E10.size_bad e he hw
    obtain ⟨N9, C9⟩ := E1.same z z z_ok rfl
    obtain ⟨N10, C10⟩ := E10.put_ok ex ex_ok ex_sm ex_chk (by rw [ex_enc]; decide)
    have C11 := E14.compare e ex _ _ _ _ [] _ isB_nil (by rw [ex_enc]; simp [isB]) (N5 + N10) _ _ (C5.mono (by omega)) (C10.mono (by omega))
    have C12 := E14.compare e e _ _ _ _ [] [] isB_nil isB_nil (N5 + N10) _ _ (C5.mono (by omega)) (C5.mono (by omega))
    obtain ⟨w, hw'⟩ : ∃ w, (chk e.core 1 0 0).1 = w := ⟨_, rfl⟩
    rw [hw'] at hw rc1
    obtain ⟨K, hK⟩ : ∃ K, N0 + N1 + N2 + N3 + N4 + N5 + N6 + N7 + N8 + N9 + N10 + 300 = K := ⟨_, rfl⟩
    have w0 := B K (by omega) 0
    have w1 := C1 K (by omega) 1 0 (by omega) (by omega) (by omega) (by omega)
    rw [rc1] at w1
    have w2 := C2 K (by omega) 0
    rw [hw'] at w2
    have w3 := C3 K (by omega) 0
    rw [m1.1] at w3
    have w4 := C4 K (by omega) 0
    rw [m1.2] at w4
    have w5 := C5 K (by omega) 0
    rw [hw'] at w5
    have w6 := C6 K (by omega) 0
    have w7 := C7 K (by omega) 0
    rw [hw'] at w7
    have w8 := C8 K (by omega) 0
    have w9 := C9 K (by omega) 0
    have w10 := ex_con K (by omega) 0
    have w11 := C11 K (by omega) 0
    have w12 := C12 K (by omega) 0
    rw [ex_enc] at w11
    rw [cmpI_refl] at w12
    have w13 : cmpI [] [48, 5, 2, 1, 7, 5, 0] = -1 := rfl
    rw [w13] at w11
    have l := LV.l04 K (by omega) 0
    have xa : ∃ cs, ex.av = .agg cs ∧ AV.pureL cs = true := ⟨_, rfl, rfl⟩
    obtain ⟨xs, xa, xp⟩ := xa
    rw [xa] at w10 w11
    rw [z_av] at w7 w9
    rw [El.av_eq] at w0 w1 w2 w3 w4 w5 w6 w7 w8 w11 w12
    refine ⟨K + 1, con_of E_fn9 (by simp [AV.pureL, El.av_pure]) (Nat.le_of_ble_eq_true rfl) rfl rfl (g := []) ?_⟩
    rw [body_9, c9]
    simp [El.av_eq, w0, w1, w2, w3, w4, w5, w6, w7, w8, w9, w10, w11, w12, l, hw, xp]
end E18

end
section
/- The law ElementsAt at the evaluator: its loops. No conditions. -/
open Ab Go TabE Sp E18 E22 E26 E31 E33 E34
set_option maxRecDepth 20000
set_option linter.unusedSimpArgs false
set_option linter.unusedVariables false
set_option maxHeartbeats 8000000
namespace E37
attribute [local simp ↓] s_seq s_reg s_regd s_cond s_block s_cons s_consG s_regD
attribute [local simp] s_nil s_loop s_round s_lpn s_lpe s_lpr firstReg s_gt s_gf s_wb s_wu s_val s_valN s_skip s_calls s_callP s_cax lookR flatR pureKs s_ret s_rgx s_sqn s_sqr s_sqe s_cdb s_bkn s_bkr s_bke s_exit s_ret' s_skip' s_finr s_finn s_fin1 s_fix s_clean s_gc0 o_tmp o_int o_bool o_nil o_str o_fn o_nil' l_hit l_miss l_nil ol_nil ol_cons ol_some x_move x_assign x_pick pk_t pk_f x_bin bn_s x_un x_extract x_callF cl_no x_callB x_callBF frzV x_conv cvx convA frame0 binA intOp resL resA results1 sealLW AV.pure AV.pureL keepT x_alloc x_box bxx x_build bdx x_buildSlice bsx x_buildSliceF bsf x_load ldx x_store stx x_slice slx x_fieldAddr x_field x_index ixx x_indexAddr iax x_makeSlice msx x_makeSliceF msf x_nilCheck newK genOf setK lookK fillA writeL writeC readC conts TyI.mk1 sliceA boundsA boundsB fitsA numA indexAddrA fieldAddrA partA fieldA indexA appendA copyA builtinA AV.cells chunk gcH reach keysT keepK inKs AV.keys AV.keysL Ty.isAgg eq1 eqL convA.go ltI w_u8 w_u32 w_u64 w_i64 w_fdiv w_tdiv w_tmod IntKind.bits unA sc_int sc_bool sc_str sc_sl sc_ref sc_ptr sc_pel sc_nilp sc_fn sc_nilf sc_if sc_nili sc_agg sc_tup sc_mem bs_pure bs_kl bs_length bs_cells bs_all sl_row sealRow sealY sl_int sl_bool sl_str sl_sl sl_nilp sl_nilf sl_nili sl_pel sl_agg sl_tup sl_fn sl_if nat_1 bs_cons bs_nil i_beq i_bne x_mkF x_mkI x_tassert x_panic s_pan s_sqp s_bkp s_finp s_fixp s_lpp s_rgp s_retp s_site s_stxN s_stxO x_callT clx El.avs_len s_dyn0 s_rgy barOf dynChk footL dynOK disjK keysOp opVals Op.operands
def b5 : Code := lp c5 0
abbrev Zc : List AV := [.int .u8 0, .bool false, .int .u32 0, .sl true [] (some 0), .sl true [] (some 0)]
abbrev S1 (f : Bool) (ps : List Int) (c : Option Nat) (cs : List AV) (r : Int) (i : Nat) (x : El) : St := ⟨[(1, .sl f (ns ps) c), (6, .ptr (1, 6, 0) 0), (7, .int .i64 r), (8, .ptr (1, 8, 0) 0), (9, .int .i64 (i : Int))], [((1, 6, 0), bx cs), ((1, 8, 0), bx (ec x))]⟩
theorem go (q k1 : Nat) (f ps c cs r) (i : Nat) (e x : El) (p : Int) (hk : AV.keysL cs = []) (hp : ps[i]? = some p) (lp' : ps.length ≤ 1000) (p0 : 0 ≤ p) (hx : e.s[p.toNat]? = some x) : rnd fn5 b5 q k1 (S1 f ps c cs r i e) = some (.normal, S1 f ps c cs r (i + 1) x) := by
  have hi : i < ps.length := (List.getElem?_eq_some_iff.1 hp).1
  have hl : p.toNat < e.s.length := (List.getElem?_eq_some_iff.1 hx).1
  have ip := int_at f c ps i p hp
  have ix := El.at_ e.fs e.cs e.s p.toNat x hx
  have pp : (p.toNat : Int) = p := Int.toNat_of_nonneg p0
  rw [pp] at ix
  have w := w64' ((i : Int) + 1) (by omega) (by omega)
  have p1 : ¬ p < 0 := by omega
  have p2 : p < (e.s.length : Int) := by omega
  have p3 : ¬ ((e.s.length : Int) ≤ p) := by omega
  have lv := El.avs_len e.s
  simp [b5, lp, lps, c5, -indexAddrA, ip, ix, w, hi, p1, p2, p3, lv, p0, hk]
theorem bad (q k1 : Nat) (f ps c) (i : Nat) (e : El) (p : Int) (hp : ps[i]? = some p) (lp' : ps.length ≤ 1000) (h : p < 0 ∨ e.s.length ≤ p)
    (B : ∀ h, aCall E q 0 24 [.agg Zc, .agg Zc] h = some (.ret (.bool true), h)) (V : ∀ h, aCall E q 0 18 [] h = some (.ret (.bool true), h)) :
    rnd fn5 b5 q k1 (S1 f ps c Zc 19 i e) = some (.ret, ⟨[(4, .bool true)], []⟩) := by
  have hi : i < ps.length := (List.getElem?_eq_some_iff.1 hp).1
  have ip := int_at f c ps i p hp
  have lv := El.avs_len e.s
  by_cases h0 : p < 0
  · simp [b5, lp, lps, c5, -indexAddrA, ip, hi, h0, lv, B, V]
  · have p2 : (e.s.length : Int) ≤ p := by omega
    have p3 : ¬ (p < (e.s.length : Int)) := by omega
    simp [b5, lp, lps, c5, -indexAddrA, ip, hi, h0, p2, p3, lv, B, V]
theorem last (q k1 : Nat) (f ps c cs r) (e : El) (hk : AV.keysL cs = []) : rnd fn5 b5 q k1 (S1 f ps c cs r ps.length e) = some (.exit 0, ⟨[(1, .sl f (ns ps) c), (6, .ptr (1, 6, 0) 0), (7, .int .i64 r), (8, .ptr (1, 8, 0) 0), (9, .int .i64 (ps.length : Int)), (31, .bool false)], [((1, 6, 0), bx cs), ((1, 8, 0), bx (ec e))]⟩) := by
  simp [b5, lp, lps, c5, hk]
def b6 : Code := lp c5 1
abbrev S2 (x : El) (i : Nat) (a b c : Int) : St := ⟨[(8, .ptr (1, 8, 0) 0), (10, .int .i64 a), (11, .int .i64 b), (12, .int .i64 c), (13, .int .i64 (i : Int))], [((1, 8, 0), bx (ec x))]⟩
end E37

end
section
/- tags.number and tags.Get at the evaluator. No conditions. -/
open Ab Go TabE Sp
set_option maxRecDepth 20000
set_option linter.unusedSimpArgs false
set_option linter.unusedVariables false
set_option maxHeartbeats 8000000
namespace E40
def num : List Int → Int → Int → Int × Int × Int
  | [], _, _ => (0, 0, 7)
  | x :: r, i, a => if (i = 1 ∧ x = 128) ∨ (i = 4 ∧ 128 ≤ x) then (0, 0, 9) else if x < 128 then (if 128 * a + x % 128 < 31 then (0, 0, 9) else (128 * a + x % 128, i + 1, 0)) else num r (i + 1) (128 * a + x % 128)
def gt : List Int → (Int × Bool × Int) × Int × Int
  | [] => ((0, false, 0), 0, 7)
  | x :: r =>
    let p := if x % 32 = 31 then num r 1 0 else (x % 32, 1, 0)
    let e := if p.2.2 = 0 then tagE (x / 64) (decide (x / 32 % 2 = 1)) p.1 else p.2.2
    if e ≠ 0 then ((0, false, 0), 0, e) else ((x / 64, decide (x / 32 % 2 = 1), p.1), p.2.1, 0)
theorem byte_at (f c) (xs : List Int) (i : Nat) (x : Int) (h : xs[i]? = some x) : ∀ hp, indexAddrA E 22 (.sl f (bs xs) c) (.int .i64 i) hp = some (.pel [.int .u8 x]) := by
  intro hp
  have hi : i < xs.length := (List.getElem?_eq_some_iff.1 h).1
  unfold indexAddrA
  simp only [E_ty22, E_ty5]
  rw [if_pos ⟨by omega, by rw [bs_len]; omega⟩]
  simp only [Int.toNat_natCast, bs, List.getElem?_map, h, Option.map_some]
  rfl
def b112 : Code := lp c112 0
abbrev S (f : Bool) (xs : List Int) (c : Option Nat) (a : Int) (i : Nat) : St := ⟨[(0, .sl f (bs xs) c), (2, .int .u32 a), (3, .int .i64 (i : Int))], []⟩
end E40

end
section
/- Reading tags and lengths, in plain Lean. No conditions. -/
open Ab Go TabE Sp E40
set_option linter.unusedSimpArgs false
set_option linter.unusedVariables false
namespace Sp
def gl : List Int → Int × Int × Int
  | [] => (0, 0, 7)
  | x :: r => if x ≤ 127 then (x, 1, 0)
    else if x = 128 ∨ 131 < x then (0, 0, 10)
    else if x = 129 then (match r with
      | y :: _ => if y ≤ 127 then (0, 0, 10) else (y, 2, 0)
      | _ => (0, 0, 7))
    else if x = 130 then (match r with
      | y :: z :: _ => if y = 0 then (0, 0, 10) else (256 * y + z, 3, 0)
      | _ => (0, 0, 7))
    else (match r with
      | y :: z :: u :: _ => if y = 0 then (0, 0, 10) else (256 * (256 * y + z) + u, 4, 0)
      | _ => (0, 0, 7))
theorem gl_cons (x : Int) (r : List Int) : gl (x :: r) = ((if x ≤ 127 then (x, 1, 0)
    else if x = 128 ∨ 131 < x then (0, 0, 10)
    else if x = 129 then (match r with
      | y :: _ => if y ≤ 127 then (0, 0, 10) else (y, 2, 0)
      | _ => (0, 0, 7))
    else if x = 130 then (match r with
      | y :: z :: _ => if y = 0 then (0, 0, 10) else (256 * y + z, 3, 0)
      | _ => (0, 0, 7))
    else (match r with
      | y :: z :: u :: _ => if y = 0 then (0, 0, 10) else (256 * (256 * y + z) + u, 4, 0)
      | _ => (0, 0, 7)) : Int × Int × Int)) := rfl
theorem gl_put (n : Int) (r : List Int) (h0 : 0 ≤ n) (h1 : n ≤ 16777215) : gl (lenO n ++ r) = (n, ((lenO n).length : Int), 0) := by
  unfold lenO
  by_cases a : n ≤ 127
  · rw [if_pos a]; simp [gl, a]
  rw [if_neg a]
  by_cases b : n ≤ 255
  · rw [if_pos b]; simp [gl, a]
  rw [if_neg b]
  by_cases c : n ≤ 65535
  · rw [if_pos c]
    have e1 : ¬ n / 256 = 0 := by omega
    have e2 : 256 * (n / 256) + n % 256 = n := by omega
    simp [gl, e1, e2]
  · rw [if_neg c]
    have e1 : ¬ n / 65536 = 0 := by omega
    have e2 : 256 * (256 * (n / 65536) + n / 256 % 256) + n % 256 = n := by omega
    simp [gl, e1, e2]
theorem gl_back (xs : List Int) (hb : isB xs) (n s : Int) (h : gl xs = (n, s, 0)) : ∃ r, xs = lenO n ++ r ∧ s = ((lenO n).length : Int) ∧ 0 ≤ n ∧ n ≤ 16777215 := by
  have nz : ∀ {a b c d : Int} {P : Prop}, ((0, 0, c) : Int × Int × Int) = (a, b, 0) → c ≠ 0 → P := by
    intro a b c d P h hc; simp at h; exact absurd h.2.2 hc
  cases xs with
  | nil => simp [gl] at h
  | cons x r =>
    have hx := hb x (by simp)
    rw [gl_cons] at h
    by_cases a : x ≤ 127
    · rw [if_pos a] at h
      simp at h
      obtain ⟨rfl, rfl⟩ := h
      exact ⟨r, by unfold lenO; rw [if_pos a]; rfl, by unfold lenO; rw [if_pos a]; rfl, hx.1, by omega⟩
    rw [if_neg a] at h
    by_cases b : x = 128 ∨ 131 < x
    · rw [if_pos b] at h; simp at h
    rw [if_neg b] at h
    by_cases c : x = 129
    · subst c
      rw [if_pos rfl] at h
      cases r with
      | nil => simp at h
      | cons y r =>
        have hy := hb y (by simp)
        simp only at h
        by_cases d : y ≤ 127
        · rw [if_pos d] at h; simp at h
        rw [if_neg d] at h
        simp at h
        obtain ⟨rfl, rfl⟩ := h
        have e : lenO y = [129, y] := by unfold lenO; rw [if_neg d, if_pos (by omega)]
        exact ⟨r, by rw [e]; rfl, by rw [e]; rfl, hy.1, by omega⟩
    rw [if_neg c] at h
    by_cases d : x = 130
    · subst d
      rw [if_pos rfl] at h
      match r, h, hb with
      | [], h, hb => simp at h
      | [y], h, hb => simp at h
      | y :: z :: r, h, hb =>
        have hy := hb y (by simp)
        have hz := hb z (by simp)
        simp only at h
        by_cases q : y = 0
        · rw [if_pos q] at h; simp at h
        rw [if_neg q] at h
        simp at h
        obtain ⟨rfl, rfl⟩ := h
        have e : lenO (256 * y + z) = [130, y, z] := by
          unfold lenO; rw [if_neg (by omega), if_neg (by omega), if_pos (by omega)]
          have e1 : (256 * y + z) / 256 = y := by omega
          have e2 : (256 * y + z) % 256 = z := by omega
          rw [e1, e2]
        exact ⟨r, by rw [e]; rfl, by rw [e]; rfl, by omega, by omega⟩
    rw [if_neg d] at h
    match r, h, hb with
    | [], h, hb => simp at h
    | [y], h, hb => simp at h
    | [y, z], h, hb => simp at h
    | y :: z :: u :: r, h, hb =>
      have hy := hb y (by simp)
      have hz := hb z (by simp)
      have hu := hb u (by simp)
      simp only at h
      by_cases q : y = 0
      · rw [if_pos q] at h; simp at h
      rw [if_neg q] at h
      simp at h
      obtain ⟨rfl, rfl⟩ := h
      have e : lenO (256 * (256 * y + z) + u) = [131, y, z, u] := by
        unfold lenO; rw [if_neg (by omega), if_neg (by omega), if_neg (by omega)]
        have e1 : (256 * (256 * y + z) + u) / 65536 = y := by omega
        have e2 : (256 * (256 * y + z) + u) / 256 % 256 = z := by omega
        have e3 : (256 * (256 * y + z) + u) % 256 = u := by omega
        rw [e1, e2, e3]
      exact ⟨r, by rw [e]; obtain rfl : x = 131 := by omega
                   rfl, by rw [e]; rfl, by omega, by omega⟩
theorem gl_short (n : Int) (h0 : 0 ≤ n) (h1 : n ≤ 16777215) (k : Nat) (hk : k < (lenO n).length) : gl ((lenO n).take k) = (0, 0, 7) := by
  unfold lenO at hk ⊢
  by_cases a : n ≤ 127
  · rw [if_pos a] at hk ⊢; simp at hk; subst hk; rfl
  rw [if_neg a] at hk ⊢
  by_cases b : n ≤ 255
  · rw [if_pos b] at hk ⊢
    simp at hk
    have : k = 0 ∨ k = 1 := by omega
    rcases this with rfl | rfl <;> simp [gl]
  rw [if_neg b] at hk ⊢
  by_cases c : n ≤ 65535
  · rw [if_pos c] at hk ⊢
    simp at hk
    have : k = 0 ∨ k = 1 ∨ k = 2 := by omega
    rcases this with rfl | rfl | rfl <;> simp [gl]
  · rw [if_neg c] at hk ⊢
    simp at hk
    have : k = 0 ∨ k = 1 ∨ k = 2 ∨ k = 3 := by omega
    rcases this with rfl | rfl | rfl | rfl <;> simp [gl]
theorem gl_n (xs : List Int) (h : (gl xs).2.2 ≠ 0) : gl xs = (0, 0, (gl xs).2.2) := by
  cases xs with
  | nil => rfl
  | cons x r =>
    rw [gl_cons] at h ⊢
    by_cases a : x ≤ 127
    · rw [if_pos a] at h; exact absurd rfl h
    rw [if_neg a] at h ⊢
    by_cases b : x = 128 ∨ 131 < x
    · rw [if_pos b]
    rw [if_neg b] at h ⊢
    by_cases c : x = 129
    · rw [if_pos c] at h ⊢
      split
      · rename_i y _
        simp only at h
        by_cases d : y ≤ 127
        · rw [if_pos d]
        · rw [if_neg d] at h; exact absurd rfl h
      · rfl
    rw [if_neg c] at h ⊢
    by_cases d : x = 130
    · rw [if_pos d] at h ⊢
      split
      · rename_i y z _
        simp only at h
        by_cases d : y = 0
        · rw [if_pos d]
        · rw [if_neg d] at h; exact absurd rfl h
      · rfl
    rw [if_neg d] at h ⊢
    split
    · rename_i y z u _
      simp only at h
      by_cases d : y = 0
      · rw [if_pos d]
      · rw [if_neg d] at h; exact absurd rfl h
    · rfl
theorem num_grp (v : Int) (r : List Int) (h0 : 31 ≤ v) (h1 : v ≤ 268435455) : num (TG.grp v ++ r) 1 0 = (v, ((TG.grp v).length : Int) + 1, 0) := by
  unfold TG.grp TG.top
  by_cases a : v < 128
  · have o : TG.oct v 0 = v := by unfold TG.oct; simp; omega
    rw [if_pos a]
    simp only [o, List.cons_append, List.nil_append]
    unfold num
    rw [if_neg (by omega), if_pos a, if_neg (by omega)]
    simp; omega
  rw [if_neg a]
  by_cases b : v < 16384
  · have o0 : TG.oct v 0 = v % 128 := by unfold TG.oct; simp
    have o1 : TG.oct v 1 = 128 + v / 128 := by unfold TG.oct; simp; omega
    rw [if_pos b]
    simp only [o0, o1, List.cons_append, List.nil_append]
    unfold num
    rw [if_neg (by omega), if_neg (by omega)]
    unfold num
    rw [if_neg (by omega), if_pos (by omega), if_neg (by omega)]
    simp; omega
  rw [if_neg b]
  by_cases c : v < 2097152
  · have o0 : TG.oct v 0 = v % 128 := by unfold TG.oct; simp
    have o1 : TG.oct v 1 = 128 + v / 128 % 128 := by unfold TG.oct; simp; omega
    have o2 : TG.oct v 2 = 128 + v / 16384 := by unfold TG.oct; simp; omega
    rw [if_pos c]
    simp only [o0, o1, o2, List.cons_append, List.nil_append]
    unfold num
    rw [if_neg (by omega), if_neg (by omega)]
    unfold num
    rw [if_neg (by omega), if_neg (by omega)]
    unfold num
    rw [if_neg (by omega), if_pos (by omega), if_neg (by omega)]
    simp; omega
  · have o0 : TG.oct v 0 = v % 128 := by unfold TG.oct; simp
    have o1 : TG.oct v 1 = 128 + v / 128 % 128 := by unfold TG.oct; simp; omega
    have o2 : TG.oct v 2 = 128 + v / 16384 % 128 := by unfold TG.oct; simp; omega
    have o3 : TG.oct v 3 = 128 + v / 2097152 := by unfold TG.oct; simp; omega
    rw [if_neg c]
    simp only [o0, o1, o2, o3, List.cons_append, List.nil_append]
    unfold num
    rw [if_neg (by omega), if_neg (by omega)]
    unfold num
    rw [if_neg (by omega), if_neg (by omega)]
    unfold num
    rw [if_neg (by omega), if_neg (by omega)]
    unfold num
    rw [if_neg (by omega), if_pos (by omega), if_neg (by omega)]
    simp; omega
theorem num_short (v : Int) (h0 : 31 ≤ v) (h1 : v ≤ 268435455) (k : Nat) (hk : k < (TG.grp v).length) : num ((TG.grp v).take k) 1 0 = (0, 0, 7) := by
  unfold TG.grp TG.top at hk ⊢
  by_cases a : v < 128
  · rw [if_pos a] at hk ⊢; simp at hk; subst hk; rfl
  rw [if_neg a] at hk ⊢
  by_cases b : v < 16384
  · have o1 : TG.oct v 1 = 128 + v / 128 := by unfold TG.oct; simp; omega
    rw [if_pos b] at hk ⊢
    simp at hk
    have : k = 0 ∨ k = 1 := by omega
    rcases this with rfl | rfl
    · rfl
    · simp only [List.take_succ_cons, List.take_zero, o1]
      unfold num; rw [if_neg (by omega), if_neg (by omega)]; rfl
  rw [if_neg b] at hk ⊢
  by_cases c : v < 2097152
  · have o1 : TG.oct v 1 = 128 + v / 128 % 128 := by unfold TG.oct; simp; omega
    have o2 : TG.oct v 2 = 128 + v / 16384 := by unfold TG.oct; simp; omega
    rw [if_pos c] at hk ⊢
    simp at hk
    have : k = 0 ∨ k = 1 ∨ k = 2 := by omega
    rcases this with rfl | rfl | rfl
    · rfl
    · simp only [List.take_succ_cons, List.take_zero, o2]
      unfold num; rw [if_neg (by omega), if_neg (by omega)]; rfl
    · simp only [List.take_succ_cons, List.take_zero, o2, o1]
      unfold num; rw [if_neg (by omega), if_neg (by omega)]
      unfold num; rw [if_neg (by omega), if_neg (by omega)]; rfl
  · have o1 : TG.oct v 1 = 128 + v / 128 % 128 := by unfold TG.oct; simp; omega
    have o2 : TG.oct v 2 = 128 + v / 16384 % 128 := by unfold TG.oct; simp; omega
    have o3 : TG.oct v 3 = 128 + v / 2097152 := by unfold TG.oct; simp; omega
    rw [if_neg c] at hk ⊢
    simp at hk
    have : k = 0 ∨ k = 1 ∨ k = 2 ∨ k = 3 := by omega
    rcases this with rfl | rfl | rfl | rfl
    · rfl
    · simp only [List.take_succ_cons, List.take_zero, o3]
      unfold num; rw [if_neg (by omega), if_neg (by omega)]; rfl
    · simp only [List.take_succ_cons, List.take_zero, o3, o2]
      unfold num; rw [if_neg (by omega), if_neg (by omega)]
      unfold num; rw [if_neg (by omega), if_neg (by omega)]; rfl
    · simp only [List.take_succ_cons, List.take_zero, o3, o2, o1]
      unfold num; rw [if_neg (by omega), if_neg (by omega)]
      unfold num; rw [if_neg (by omega), if_neg (by omega)]
      unfold num; rw [if_neg (by omega), if_neg (by omega)]; rfl
theorem num_back (xs : List Int) (hb : isB xs) (n s : Int) (h : num xs 1 0 = (n, s, 0)) : ∃ r, xs = TG.grp n ++ r ∧ s = ((TG.grp n).length : Int) + 1 ∧ 31 ≤ n ∧ n ≤ 268435455 := by
  cases xs with
  | nil => simp [num] at h
  | cons x xs =>
  have hx := hb x (by simp)
  unfold num at h
  by_cases a : ((1 : Int) = 1 ∧ x = 128) ∨ ((1 : Int) = 4 ∧ 128 ≤ x)
  · rw [if_pos a] at h; simp at h
  rw [if_neg a] at h
  by_cases b : x < 128
  · rw [if_pos b] at h
    by_cases c : 128 * (0 : Int) + x % 128 < 31
    · rw [if_pos c] at h; simp at h
    rw [if_neg c] at h
    simp at h
    obtain ⟨h1, rfl⟩ := h
    obtain rfl : n = x := by omega
    have e : TG.grp n = [n] := by unfold TG.grp TG.top; rw [if_pos b]; simp only [TG.oct]; simp; omega
    exact ⟨xs, by rw [e]; rfl, by rw [e]; rfl, by omega, by omega⟩
  rw [if_neg b] at h
  cases xs with
  | nil => simp [num] at h
  | cons y xs =>
  have hy := hb y (by simp)
  unfold num at h
  by_cases a2 : ((1 : Int) + 1 = 1 ∧ y = 128) ∨ ((1 : Int) + 1 = 4 ∧ 128 ≤ y)
  · omega
  rw [if_neg a2] at h
  by_cases b2 : y < 128
  · rw [if_pos b2] at h
    by_cases c : 128 * (128 * (0 : Int) + x % 128) + y % 128 < 31
    · rw [if_pos c] at h; simp at h
    rw [if_neg c] at h
    simp at h
    obtain ⟨h1, rfl⟩ := h
    have e : TG.grp n = [x, y] := by
      unfold TG.grp TG.top; rw [if_neg (by omega), if_pos (by omega)]; simp only [TG.oct]; simp; omega
    exact ⟨xs, by rw [e]; rfl, by rw [e]; rfl, by omega, by omega⟩
  rw [if_neg b2] at h
  cases xs with
  | nil => simp [num] at h
  | cons z xs =>
  have hz := hb z (by simp)
  unfold num at h
  by_cases a3 : ((1 : Int) + 1 + 1 = 1 ∧ z = 128) ∨ ((1 : Int) + 1 + 1 = 4 ∧ 128 ≤ z)
  · omega
  rw [if_neg a3] at h
  by_cases b3 : z < 128
  · rw [if_pos b3] at h
    by_cases c : 128 * (128 * (128 * (0 : Int) + x % 128) + y % 128) + z % 128 < 31
    · rw [if_pos c] at h; simp at h
    rw [if_neg c] at h
    simp at h
    obtain ⟨h1, rfl⟩ := h
    have e : TG.grp n = [x, y, z] := by
      unfold TG.grp TG.top; rw [if_neg (by omega), if_neg (by omega), if_pos (by omega)]; simp only [TG.oct]; simp; omega
    exact ⟨xs, by rw [e]; rfl, by rw [e]; rfl, by omega, by omega⟩
  rw [if_neg b3] at h
  cases xs with
  | nil => simp [num] at h
  | cons u xs =>
  have hu := hb u (by simp)
  unfold num at h
  by_cases a4 : ((1 : Int) + 1 + 1 + 1 = 1 ∧ u = 128) ∨ ((1 : Int) + 1 + 1 + 1 = 4 ∧ 128 ≤ u)
  · rw [if_pos a4] at h; simp at h
  rw [if_neg a4] at h
  rw [if_pos (by omega)] at h
  by_cases c : 128 * (128 * (128 * (128 * (0 : Int) + x % 128) + y % 128) + z % 128) + u % 128 < 31
  · rw [if_pos c] at h; simp at h
  rw [if_neg c] at h
  simp at h
  obtain ⟨h1, rfl⟩ := h
  have e : TG.grp n = [x, y, z, u] := by
    unfold TG.grp TG.top; rw [if_neg (by omega), if_neg (by omega), if_neg (by omega)]; simp only [TG.oct]; simp; omega
  exact ⟨xs, by rw [e]; rfl, by rw [e]; rfl, by omega, by omega⟩
theorem tagE_3 {c : Int} {k : Bool} {n : Int} (h : tagE c k n = 0) : c ≤ 3 ∧ n ≤ 268435455 := by
  unfold tagE at h
  by_cases q : 3 < c ∨ 268435455 < n
  · rw [if_pos q] at h; cases h
  · omega
theorem gt_put (c : Int) (k : Bool) (n : Int) (r : List Int) (h : tagE c k n = 0) (c0 : 0 ≤ c) (n0 : 0 ≤ n) : gt (TG.tagO c k n ++ r) = ((c, k, n), ((TG.tagO c k n).length : Int), 0) := by
  obtain ⟨c3, n3⟩ := tagE_3 h
  unfold TG.tagO
  by_cases a : n < 31
  · rw [if_pos a]
    have e1 : (64 * c + (if k then 32 else 0) + n) % 32 = n := by cases k <;> simp <;> omega
    have e2 : (64 * c + (if k then 32 else 0) + n) / 64 = c := by cases k <;> simp <;> omega
    have e3 : decide ((64 * c + (if k then 32 else 0) + n) / 32 % 2 = 1) = k := by cases k <;> simp <;> omega
    have n31 : ¬ n = 31 := by omega
    simp only [List.cons_append, List.nil_append, gt, e1, e2, e3, n31, if_false, if_true, h]
    simp
  · rw [if_neg a]
    have e1 : (64 * c + (if k then 32 else 0) + 31) % 32 = 31 := by cases k <;> simp <;> omega
    have e2 : (64 * c + (if k then 32 else 0) + 31) / 64 = c := by cases k <;> simp <;> omega
    have e3 : decide ((64 * c + (if k then 32 else 0) + 31) / 32 % 2 = 1) = k := by cases k <;> simp <;> omega
    have g := num_grp n r (by omega) n3
    simp only [List.cons_append, gt, e1, e2, e3, if_true, g, h]
    simp
theorem gt_back (xs : List Int) (hb : isB xs) (c : Int) (k : Bool) (n s : Int) (h : gt xs = ((c, k, n), s, 0)) : ∃ r, xs = TG.tagO c k n ++ r ∧ s = ((TG.tagO c k n).length : Int) ∧ tagE c k n = 0 ∧ 0 ≤ c ∧ 0 ≤ n := by
  cases xs with
  | nil => simp [gt] at h
  | cons x r =>
    have hx := hb x (by simp)
    have hr : isB r := fun y hy => hb y (by simp [hy])
    simp only [gt] at h
    by_cases a : x % 32 = 31
    · simp only [a, if_true] at h
      by_cases pe : (num r 1 0).2.2 = 0
      · simp only [pe, if_true] at h
        by_cases te : tagE (x / 64) (decide (x / 32 % 2 = 1)) (num r 1 0).1 = 0
        · simp only [te, ne_eq, not_true_eq_false, if_false, Prod.mk.injEq, and_true] at h
          obtain ⟨⟨rfl, rfl, hn⟩, hs⟩ := h
          have hq : num r 1 0 = (n, s, 0) := Prod.ext hn (Prod.ext hs pe)
          obtain ⟨r', e1, e2, e3, e4⟩ := num_back r hr n s hq
          have e5 : TG.tagO (x / 64) (decide (x / 32 % 2 = 1)) n = x :: TG.grp n := by
            unfold TG.tagO
            rw [if_neg (by omega)]
            congr 1
            by_cases q : x / 32 % 2 = 1
            · simp [q]; omega
            · simp [q]; omega
          exact ⟨r', by rw [e5, e1]; rfl, by rw [e5, e2]; simp, by rw [← hn]; exact te, by omega, by omega⟩
        · rw [if_pos te] at h
          exact absurd (congrArg (fun p => p.2.2) h) te
      · rw [if_neg pe, if_pos pe] at h
        exact absurd (congrArg (fun p => p.2.2) h) pe
    · simp only [a, if_false, if_true] at h
      by_cases te : tagE (x / 64) (decide (x / 32 % 2 = 1)) (x % 32) = 0
      · simp only [te, ne_eq, not_true_eq_false, if_false, Prod.mk.injEq, and_true] at h
        obtain ⟨⟨rfl, rfl, rfl⟩, rfl⟩ := h
        have e5 : TG.tagO (x / 64) (decide (x / 32 % 2 = 1)) (x % 32) = [x] := by
          unfold TG.tagO
          rw [if_pos (by omega)]
          congr 1
          by_cases q : x / 32 % 2 = 1
          · simp [q]; omega
          · simp [q]; omega
        exact ⟨r, by rw [e5]; rfl, by rw [e5]; rfl, te, by omega, by omega⟩
      · rw [if_pos te] at h
        exact absurd (congrArg (fun p => p.2.2) h) te
theorem gt_short (c : Int) (k : Bool) (n : Int) (h : tagE c k n = 0) (c0 : 0 ≤ c) (n0 : 0 ≤ n) (j : Nat) (hj : j < (TG.tagO c k n).length) : gt ((TG.tagO c k n).take j) = ((0, false, 0), 0, 7) := by
  obtain ⟨c3, n3⟩ := tagE_3 h
  unfold TG.tagO at hj ⊢
  by_cases a : n < 31
  · rw [if_pos a] at hj ⊢
    simp at hj; subst hj; rfl
  · rw [if_neg a] at hj ⊢
    cases j with
    | zero => rfl
    | succ j =>
      have g := num_short n (by omega) n3 j (by simpa using hj)
      have e1 : (64 * c + (if k then 32 else 0) + 31) % 32 = 31 := by cases k <;> simp <;> omega
      rw [List.take_succ_cons]
      simp only [gt, e1, if_true, g]
      simp
theorem ifn (e : Int) (q : (Int × Bool × Int) × Int × Int) (hq : q.2.2 = 0) (h : (if e ≠ 0 then ((0, false, 0), 0, e) else q).2.2 ≠ 0) : (if e ≠ 0 then ((0, false, 0), 0, e) else q) = ((0, false, 0), 0, (if e ≠ 0 then (((0 : Int), false, (0 : Int)), (0 : Int), e) else q).2.2) := by
  by_cases he : e ≠ 0
  · rw [if_pos he]
  · rw [if_neg he] at h; exact absurd hq h
theorem gt_n (xs : List Int) (h : (gt xs).2.2 ≠ 0) : gt xs = ((0, false, 0), 0, (gt xs).2.2) := by
  cases xs with
  | nil => rfl
  | cons x r =>
    unfold gt at h ⊢
    exact ifn _ _ rfl h
end Sp

end
