/- Own work, no conditions. -/
import Derived.Test.YtbiildmljbcmeaaE25
import Derived.Test.YtbiildmljbcmeaaP5
import Derived.Test.YtbiildmljbcmeaaB40
import Derived.KernelRfl
import Derived.Test.YtbiildmljbcmeaaE12
set_option maxRecDepth 20000
set_option linter.unusedSimpArgs false
set_option linter.unusedVariables false
set_option maxHeartbeats 16000000
section
open Ab Go TabE
attribute [local simp ↓] s_seq s_reg s_regd s_cond s_block s_cons s_consG s_regD
attribute [local simp] s_nil s_loop s_round s_lpn s_lpe s_lpr firstReg s_gt s_gf s_wb s_wu s_val s_valN s_skip s_calls s_callP s_cax lookR flatR pureKs s_ret s_rgx s_sqn s_sqr s_sqe s_cdb s_bkn s_bkr s_bke s_exit s_ret' s_skip' s_finr s_finn s_fin1 s_fix s_clean s_gc0 o_tmp o_int o_bool o_nil o_str o_fn o_nil' l_hit l_miss l_nil ol_nil ol_cons ol_some x_move x_assign x_pick pk_t pk_f x_bin bn_s x_un x_extract x_callF cl_no x_callB x_callBF frzV x_conv cvx convA frame0 binA intOp resL resA results1 sealLW AV.pure AV.pureL keepT x_alloc x_box bxx x_build bdx x_buildSlice bsx x_buildSliceF bsf x_load ldx x_store stx x_slice slx x_fieldAddr x_field x_index ixx x_indexAddr iax x_makeSlice msx x_makeSliceF msf x_nilCheck newK genOf setK lookK fillA writeL writeC readC conts TyI.mk1 sliceA boundsA boundsB fitsA numA indexAddrA fieldAddrA partA fieldA indexA appendA copyA builtinA AV.cells chunk gcH reach keysT keepK inKs AV.keys AV.keysL Ty.isAgg eq1 eqL convA.go ltI w_u8 w_u32 w_u64 w_i64 w_fdiv w_tdiv w_tmod IntKind.bits unA sc_int sc_bool sc_str sc_sl sc_ref sc_ptr sc_pel sc_nilp sc_fn sc_nilf sc_if sc_nili sc_agg sc_tup sc_mem bs_pure bs_kl bs_length bs_cells bs_all sl_row sealRow sealY sl_int sl_bool sl_str sl_sl sl_nilp sl_nilf sl_nili sl_pel sl_agg sl_tup sl_fn sl_if nat_1 bs_cons bs_nil i_beq i_bne x_mkF x_mkI x_tassert x_panic s_pan s_sqp s_bkp s_finp s_fixp s_lpp s_rgp s_retp s_site s_stxN s_stxO x_callT clx El.avs_len s_dyn0 s_rgy barOf dynChk footL dynOK disjK keysOp opVals Op.operands
section
open Ab Go TabE Sp E20 E22 E23
namespace E24
theorem nodeB (key : Key) (st : List El) (hst : st.length ≤ 39) (hne : st.length ≠ 0) (hkey : ∃ m, key = (1, 49, m) ∨ key = (1, 92, m)) (k p : Nat) (hkp : st.length = k + p) (hk : k = st.length)
    (q0 k1 : Nat) (f q) (l : List G) (i : Nat) (g : G) (hg : g.ok) (hx : l[i]? = some g) (hi : i < 39) (ha : g.a % 3 ≠ 0) (ll : l.length ≤ 9223372036854775807) (h2 : g.a % 3 ≠ 2 ∧ (if (st.length : Int) < g.b % 5 then (st.length : Int) else g.b % 5) = (k : Int)) (dd : Int)
    (T : ∀ h, aCall E q0 0 71 [.agg [.int .u8 g.c, .int .u8 1, .int .u32 g.n]] h = some (.ret (.agg [.int .u8 (g.c % 4), .bool true, .int .u32 (tn g.c 1 g.n)]), h))
    (D : ∀ h, aCall E q0 0 40 [(nd g (st.drop p)).av] h = some (.ret (.int .i64 dd), h)) :
    ∃ key', (∃ m, key' = (1, 49, m) ∨ key' = (1, 92, m)) ∧ rndO fn22 b22 q0 k1 (S f (l.map G.av) q key st i) = some (.normal, S f (l.map G.av) q key' (if dd < 15 then st.take p ++ [nd g (st.drop p)] else st) (i + 1)) := by
  have hl : i < l.length := (List.getElem?_eq_some_iff.1 hx).1
  have ix := at_ f q l i g hx
  have w := w64' ((i : Int) + 1) (by omega) (by omega)
  have m2 : Int.tmod g.a 3 = g.a % 3 := Int.tmod_eq_emod_of_nonneg hg.1.1
  have m3 : Int.tmod g.b 5 = g.b % 5 := Int.tmod_eq_emod_of_nonneg hg.2.1.1
  have w5 := w64' (g.b % 5) (by omega) (by omega)
  have i39 : (i : Int) < 39 := by omega
  have ne : st ≠ [] := fun h => hne (by rw [h]; rfl)
  have cp : st.length * 56 ≤ 70368744177664 := by omega
  obtain rfl : p = 0 := by omega
  subst hk
  have w2 : IntKind.i64.wrap ((st.length : Int) - (st.length : Int)) = 0 := by rw [Int.sub_self]; rfl
  have d0 : st.drop 0 = st := rfl
  rw [d0] at D ⊢
  have f1 := El.fl_len st
  have f2 := El.fl_keys st
  have f3 : (El.fl st).take (st.length * 5) = El.fl st := by rw [El.fl_take, List.take_length]
  have f4 := El.fl_pure st
  have f6 := El.fl_chunk st
  have ne2 : ¬ (0 = st.length) := fun h => hne h.symm
  have ne3 : ¬ (st.length ≤ 0) := by omega
  rw [El.av_eq] at D
  simp [El.c, El.k, El.n, El.fb, El.b, El.cb, El.fs, El.s, El.cs, El.avs, bs_nil, ne] at D
  by_cases dp : dd < 15
  · rw [if_pos dp]
    refine ⟨(1, 92, if key.2.1 = 92 then key.2.2 + 1 else 0), ⟨_, .inr rfl⟩, ?_⟩
    obtain ⟨m, rfl | rfl⟩ := hkey <;> simp [b22, lp, lps, c22, Call.operands, -indexAddrA, ix, w, hl, i39, m2, m3, ha, h2.1, h2.2, w5, T, D, hi, dp, hne, El.avs, El.fl_keysr, El.fl_mem, w2, ne, ne2, ne3, f1, f2, f3, f4, f6, cp, El.fl_mk1]
  · rw [if_neg dp]
    refine ⟨key, hkey, ?_⟩
    obtain ⟨m, rfl | rfl⟩ := hkey <;> simp [b22, lp, lps, c22, Call.operands, -indexAddrA, ix, w, hl, i39, m2, m3, ha, h2.1, h2.2, w5, T, D, hi, dp, hne, El.avs, El.fl_keysr, El.fl_mem, w2, ne, ne2, ne3, f1, f2, f3, f4, f6, cp, El.fl_mk1]
theorem nodeC (key : Key) (st : List El) (hst : st.length ≤ 39) (hne : st.length ≠ 0) (hkey : ∃ m, key = (1, 49, m) ∨ key = (1, 92, m)) (k p : Nat) (hkp : st.length = k + p) (hk : k = 0)
    (q0 k1 : Nat) (f q) (l : List G) (i : Nat) (g : G) (hg : g.ok) (hx : l[i]? = some g) (hi : i < 39) (ha : g.a % 3 ≠ 0) (ll : l.length ≤ 9223372036854775807) (h2 : g.a % 3 ≠ 2 ∧ (if (st.length : Int) < g.b % 5 then (st.length : Int) else g.b % 5) = (k : Int)) (dd : Int)
    (T : ∀ h, aCall E q0 0 71 [.agg [.int .u8 g.c, .int .u8 1, .int .u32 g.n]] h = some (.ret (.agg [.int .u8 (g.c % 4), .bool true, .int .u32 (tn g.c 1 g.n)]), h))
    (D : ∀ h, aCall E q0 0 40 [(nd g (st.drop p)).av] h = some (.ret (.int .i64 dd), h)) :
    ∃ key', (∃ m, key' = (1, 49, m) ∨ key' = (1, 92, m)) ∧ rndO fn22 b22 q0 k1 (S f (l.map G.av) q key st i) = some (.normal, S f (l.map G.av) q key' (if dd < 15 then st.take p ++ [nd g (st.drop p)] else st) (i + 1)) := by
  have hl : i < l.length := (List.getElem?_eq_some_iff.1 hx).1
  have ix := at_ f q l i g hx
  have w := w64' ((i : Int) + 1) (by omega) (by omega)
  have m2 : Int.tmod g.a 3 = g.a % 3 := Int.tmod_eq_emod_of_nonneg hg.1.1
  have m3 : Int.tmod g.b 5 = g.b % 5 := Int.tmod_eq_emod_of_nonneg hg.2.1.1
  have w5 := w64' (g.b % 5) (by omega) (by omega)
  have i39 : (i : Int) < 39 := by omega
  have ne : st ≠ [] := fun h => hne (by rw [h]; rfl)
  have cp : st.length * 56 ≤ 70368744177664 := by omega
  obtain rfl : p = st.length := by omega
  subst hk
  have w2 := w64' (st.length : Int) (by omega) (by omega)
  have d0 : st.drop st.length = [] := List.drop_length
  have d1 : st.take st.length = st := List.take_length
  rw [d0] at D ⊢
  rw [d1]
  have f1 := El.fl_len st
  have f2 := El.fl_keys st
  have f3 : (El.fl st).take (st.length * 5) = El.fl st := by rw [El.fl_take, List.take_length]
  have f4 := El.fl_pure st
  have f6 := El.fl_chunk st
  have cp2 : (st.length + 1) * 56 ≤ 70368744177664 := by omega
  have ne2 : ¬ (0 = st.length) := fun h => hne h.symm
  have ne3 : ¬ (st.length ≤ 0) := by omega
  rw [El.av_eq] at D
  simp [El.c, El.k, El.n, El.fb, El.b, El.cb, El.fs, El.s, El.cs, El.avs, bs_nil] at D
  by_cases dp : dd < 15
  · rw [if_pos dp]
    refine ⟨(1, 92, if key.2.1 = 92 then key.2.2 + 1 else 0), ⟨_, .inr rfl⟩, ?_⟩
    obtain ⟨m, rfl | rfl⟩ := hkey <;> simp [b22, lp, lps, c22, Call.operands, -indexAddrA, ix, w, hl, i39, m2, m3, ha, h2.1, h2.2, w5, T, D, hi, dp, hne, El.avs, El.fl_keysr, El.fl_mem, w2, ne, ne2, ne3, f1, f2, f3, f4, f6, cp, cp2, El.fl_mkS]
  · rw [if_neg dp]
    refine ⟨key, hkey, ?_⟩
    obtain ⟨m, rfl | rfl⟩ := hkey <;> simp [b22, lp, lps, c22, Call.operands, -indexAddrA, ix, w, hl, i39, m2, m3, ha, h2.1, h2.2, w5, T, D, hi, dp, hne, El.avs, El.fl_keysr, El.fl_mem, w2, ne, ne2, ne3, f1, f2, f3, f4, f6, cp, cp2, El.fl_mkS]
end E24
end
end
section
open Ab Go TabE Sp E18 E20 E22 E23
namespace Sp
mutual
theorem chk_of : ∀ (c : Cr) (d m l : Int), vld c → d + dep c ≤ 17 → m + cnt c ≤ 8192 → (chk c d m l).1 = 0
  | .mk c k n b s, d, m, l, hv, hd, hm => by
    unfold vld at hv
    unfold dep at hd
    unfold cnt at hm
    obtain ⟨h1, h2, h3, h4⟩ := hv
    have := deps_pos s
    have := cnts_pos s
    unfold chk
    rw [if_neg (by simp [h1]), if_neg (by
      intro h
      rcases h with ⟨a, b⟩ | ⟨a, b⟩
      · exact b (h2 a)
      · exact b (h3 a)), if_neg (by omega), if_neg (by omega)]
    exact chks_of s (d + 1) (m + 1) (max l d) h4 (by omega) (by omega)
theorem chks_of : ∀ (s : List Cr) (d m l : Int), vlds s → d + deps s ≤ 17 → m + cnts s ≤ 8192 → (chks s d m l).1 = 0
  | [], _, _, _, _, _, _ => rfl
  | x :: r, d, m, l, hv, hd, hm => by
    unfold vlds at hv
    unfold deps at hd
    unfold cnts at hm
    have := deps_pos r
    have := cnts_pos r
    have a := chk_of x d m l hv.1 (by omega) (by omega)
    unfold chks
    rw [if_neg (by simp [a])]
    have b := (chk_dep x d m l a).2.1
    exact chks_of r d _ _ hv.2 (by omega) (by rw [b]; omega)
end
theorem cnts_app (a b : List El) : cnts (El.cores (a ++ b)) = cnts (El.cores a) + cnts (El.cores b) := by
  induction a with
  | nil => simp [El.cores, cnts]
  | cons x a ih => simp only [List.cons_append, El.cores, cnts, ih]; omega
theorem cnts_len : ∀ a : List El, (a.length : Int) ≤ cnts (El.cores a)
  | [] => by simp [El.cores, cnts]
  | x :: a => by
    rw [El.cores, cnts, List.length_cons]
    have := cnt_pos x.core
    have := cnts_len a
    omega
theorem deps_le {m : Int} (h0 : 0 ≤ m) : ∀ a : List El, (∀ x ∈ a, dep x.core ≤ m) → deps (El.cores a) ≤ m
  | [], _ => by simp [El.cores, deps]; exact h0
  | x :: a, h => by
    rw [El.cores, deps]
    have := h x (List.mem_cons_self ..)
    have := deps_le h0 a fun y hy => h y (List.mem_cons_of_mem _ hy)
    omega
end Sp
namespace E26
def nx (st : List El) (g : G) : List El := if g.a % 3 = 0 then st ++ [leaf g] else if dep (nd g (st.drop (st.length - kk g st.length))).core < 15 then st.take (st.length - kk g st.length) ++ [nd g (st.drop (st.length - kk g st.length))] else st
def sq (l : List G) : Nat → List El
  | 0 => []
  | i + 1 => match l[i]? with
    | some g => nx (sq l i) g
    | none => sq l i
structure W (x : El) : Prop where
  ok : x.ok
  vld : vld x.core
  dep : dep x.core ≤ 14
  fw : Fw 20 x
theorem kk_le (g : G) (n : Nat) : kk g n ≤ n := by unfold kk; split <;> omega
theorem leaf_dep (g : G) : dep (leaf g).core = 1 := rfl
theorem leaf_W (g : G) (hg : g.ok) : W (leaf g) := by
  obtain ⟨h1, h2, h3, h4, h5, h6, h7⟩ := hg
  have t := tn_b g.c 0 g.n h5.1
  refine ⟨(El.ok_eq _).2 ⟨by simp only [leaf, El.c]; omega, by simp only [leaf, El.n]; omega, fun x hx => h6 x (List.mem_of_mem_take hx), by simp only [leaf, El.b, List.length_take]; omega, by simp [leaf, El.s], fun x hx => by cases hx⟩, ?_, by rw [leaf_dep]; omega, .mk _ (by simp only [leaf, El.b, List.length_take]; omega) fun x hx => by cases hx⟩
  rw [vld_eq]
  have q := tn_ok g.c 0 g.n h3.1 h5.1
  refine ⟨by simpa [leaf, El.c, El.k, El.n] using q, fun h => (by cases h), fun _ => rfl, trivial⟩
theorem nd_W (g : G) (hg : g.ok) (d : List El) (hd : ∀ x ∈ d, W x) (hl : d.length ≤ 1000) : (nd g d).ok ∧ vld (nd g d).core ∧ Fw 20 (nd g d) ∧ dep (nd g d).core ≤ 15 ∧ cnt (nd g d).core = 1 + cnts (El.cores d) := by
  obtain ⟨h1, h2, h3, h4, h5, h6, h7⟩ := hg
  have t := tn_b g.c 1 g.n h5.1
  refine ⟨(El.ok_eq _).2 ⟨by simp only [El.c]; omega, by simp only [El.n]; omega, isB_nil, by simp [El.b], by simp only [El.s]; omega, fun x hx => (hd x hx).ok⟩, ?_, .mk _ (by simp [El.b]) fun x hx => (hd x hx).fw, ?_, by rw [cnt_eq]; rfl⟩
  · rw [vld_eq]
    have q := tn_ok g.c 1 g.n h3.1 h5.1
    exact ⟨by simpa [El.c, El.k, El.n] using q, fun _ => rfl, fun h => (by cases h), vlds_all.2 fun x hx => (hd x hx).vld⟩
  · rw [dep_eq]
    have := deps_le (m := 14) (by omega) d fun x hx => (hd x hx).dep
    show deps (El.cores d) + 1 ≤ 15
    omega
theorem inv (l : List G) (hl : ∀ g ∈ l, g.ok) : ∀ i, i ≤ 1000 → cnts (El.cores (sq l i)) ≤ i ∧ ∀ x ∈ sq l i, W x
  | 0, _ => ⟨by simp [sq, El.cores, cnts], fun x h => by simp [sq] at h⟩
  | i + 1, hi => by
    obtain ⟨h1, h2⟩ := inv l hl i (by omega)
    unfold sq
    cases hg : l[i]? with
    | none => exact ⟨by simp only []; omega, h2⟩
    | some g =>
      have og := hl g (List.mem_of_getElem? hg)
      simp only []
      unfold nx
      by_cases ha : g.a % 3 = 0
      · rw [if_pos ha]
        refine ⟨?_, fun x hx => ?_⟩
        · rw [cnts_app]
          have : cnts (El.cores [leaf g]) = 1 := rfl
          omega
        · rcases List.mem_append.1 hx with h | h
          · exact h2 x h
          · obtain rfl := List.mem_singleton.1 h
            exact leaf_W g og
      · rw [if_neg ha]
        generalize hp : (sq l i).length - kk g (sq l i).length = p
        have ln := cnts_len (sq l i)
        have hw := nd_W g og ((sq l i).drop p) (fun x hx => h2 x (List.mem_of_mem_drop hx)) (by rw [List.length_drop]; omega)
        by_cases hd : dep (nd g ((sq l i).drop p)).core < 15
        · rw [if_pos hd]
          have sp : cnts (El.cores (sq l i)) = cnts (El.cores ((sq l i).take p)) + cnts (El.cores ((sq l i).drop p)) := by rw [← cnts_app, List.take_append_drop]
          refine ⟨?_, fun x hx => ?_⟩
          · rw [cnts_app]
            have : cnts (El.cores [nd g ((sq l i).drop p)]) = 1 + cnts (El.cores ((sq l i).drop p)) := by rw [El.cores, cnts, hw.2.2.2.2]; simp [El.cores, cnts]
            omega
          · rcases List.mem_append.1 hx with h | h
            · exact h2 x (List.mem_of_mem_take h)
            · obtain rfl := List.mem_singleton.1 h
              exact ⟨hw.1, hw.2.1, by omega, hw.2.2.1⟩
        · rw [if_neg hd]
          exact ⟨by omega, h2⟩
theorem sq_ne (l : List G) : ∀ i, i < l.length → (sq l (i + 1)).length ≠ 0
  | i, hi => by
    have hg : l[i]? = some l[i] := List.getElem?_eq_getElem hi
    unfold sq
    rw [hg]
    simp only []
    unfold nx
    split
    · simp
    split
    · simp
    · rename_i h
      cases i with
      | zero => exact absurd (by rw [dep_eq]; simp [sq, El.s, El.cores, deps]) h
      | succ i => exact sq_ne l i (by omega)
def top (st : List El) : El := match st with
  | [x] => x
  | _ => .mk 0 true 16 true [] (some 0) (decide (st = [])) st (if st = [] then some 0 else none)
def ofE (l : List G) : El := top (sq l (min 39 l.length))
structure Good (x : El) : Prop where
  ok : x.ok
  vld : vld x.core
  dep : dep x.core ≤ 15
  fw : Fw 20 x
  cnt : cnt x.core ≤ 40
theorem good (l : List G) (hl : ∀ g ∈ l, g.ok) : Good (ofE l) := by
  obtain ⟨h1, h2⟩ := inv l hl (min 39 l.length) (by omega)
  have ln := cnts_len (sq l (min 39 l.length))
  unfold ofE
  generalize sq l (min 39 l.length) = st at h1 h2 ln
  unfold top
  split
  · rename_i x
    have w := h2 x (by simp)
    exact ⟨w.ok, w.vld, by have := w.dep; omega, w.fw, by simp [El.cores, cnts] at h1; omega⟩
  · refine ⟨(El.ok_eq _).2 ⟨by simp [El.c], by simp [El.n], isB_nil, by simp [El.b], by simp only [El.s]; omega, fun x hx => (h2 x hx).ok⟩, ?_, ?_, .mk _ (by simp [El.b]) fun x hx => (h2 x hx).fw, ?_⟩
    · rw [vld_eq]
      exact ⟨rfl, fun _ => rfl, fun h => (by cases h), vlds_all.2 fun x hx => (h2 x hx).vld⟩
    · rw [dep_eq]
      have := deps_le (m := 14) (by omega) st fun x hx => (h2 x hx).dep
      show deps (El.cores st) + 1 ≤ 15
      omega
    · rw [cnt_eq]
      show 1 + cnts (El.cores st) ≤ 40
      omega
theorem Good.chk {x : El} (h : Good x) : (chk x.core 1 0 0).1 = 0 := chk_of _ _ _ _ h.vld (by have := h.dep; omega) (by have := h.cnt; omega)
theorem Good.sm {x : El} (h : Good x) : x.sm := fw_sm (by omega) x h.fw (by have := h.cnt; omega)
theorem Good.len {x : El} (h : Good x) : (enc x.core).length ≤ 1160 := by
  have := fw_len x h.fw
  have := h.cnt
  omega
end E26
end
section
open Ab Go TabE
attribute [local simp ↓] s_seq s_reg s_regd s_cond s_block s_cons s_consG
attribute [local simp] s_nil s_loop s_round s_lpn s_lpe s_lpr firstReg s_gt s_gf s_wb s_wu s_val s_valN s_skip s_calls s_callP s_cax lookR flatR pureKs s_ret s_rgx s_sqn s_sqr s_sqe s_cdb s_bkn s_bkr s_bke s_exit s_ret' s_skip' s_finr s_finn s_fin1 s_fix s_clean s_gc0 o_tmp o_int o_bool o_nil o_str o_fn o_nil' l_hit l_miss l_nil ol_nil ol_cons ol_some x_move x_assign x_pick pk_t pk_f x_bin bn_s x_un x_extract x_callF cl_no x_callB x_callBF frzV x_conv cvx convA frame0 binA intOp resL resA results1 sealLW AV.pure AV.pureL keepT x_alloc x_box bxx x_build bdx x_buildSlice bsx x_buildSliceF bsf x_load ldx x_store stx x_slice slx x_fieldAddr x_field x_index ixx x_indexAddr iax x_makeSlice msx x_makeSliceF msf x_nilCheck newK genOf setK lookK fillA writeL writeC readC conts TyI.mk1 sliceA boundsA boundsB fitsA numA indexAddrA fieldAddrA partA fieldA indexA appendA copyA builtinA AV.cells chunk gcH reach keysT keepK inKs AV.keys AV.keysL Ty.isAgg eq1 eqL convA.go ltI w_u8 w_u32 w_u64 w_i64 w_fdiv w_tdiv w_tmod IntKind.bits unA sc_int sc_bool sc_str sc_sl sc_ref sc_ptr sc_pel sc_nilp sc_fn sc_nilf sc_if sc_nili sc_agg sc_tup sc_mem bs_pure bs_kl bs_length bs_cells bs_all sl_row sealRow sealY sl_int sl_bool sl_str sl_sl sl_nilp sl_nilf sl_nili sl_pel sl_agg sl_tup sl_fn sl_if nat_1 bs_cons bs_nil i_beq i_bne x_mkF x_mkI x_tassert x_panic s_pan s_sqp s_bkp s_finp s_fixp s_lpp s_rgp s_retp s_site s_stxN s_stxO x_callT clx El.avs_len
section
open Ab Go TabE Sp
namespace E31
theorem clone (f : Bool) (b : List Int) (c : Option Nat) (hn : f = true → b = []) (hl : b.length ≤ 70368744177664) : ∃ c', (c' = none ∨ c' = some b.length) ∧ Con E 20 98 [.sl f (bs b) c] (.sl f (bs b) c') := by
  cases hf : f with
  | true =>
    have hb := hn hf
    subst hb
    refine ⟨some 0, .inr rfl, con_of E_fn98 (by simp [AV.pureL, AV.pure]) (Nat.le_of_ble_eq_true rfl) rfl rfl (g := []) ?_⟩
    rw [body_98, c98]
    simp [bs_nil]
  | false =>
    by_cases hb : b = []
    · subst hb
      refine ⟨some 0, .inr rfl, con_of E_fn98 (by simp [AV.pureL, AV.pure]) (Nat.le_of_ble_eq_true rfl) rfl rfl (g := []) ?_⟩
      rw [body_98, c98]
      simp [bs_nil]
    · refine ⟨none, .inl rfl, con_of E_fn98 (by simp [AV.pureL, AV.pure]) (Nat.le_of_ble_eq_true rfl) rfl rfl (g := []) ?_⟩
      rw [body_98, c98]
      simp [hb, hl]
theorem clip (f : Bool) (b : List Int) (c : Option Nat) (hc : c = none ∨ c = some b.length) : Con E 20 97 [.sl f (bs b) c] (.sl f (bs b) (some b.length)) := by
  refine con_of E_fn97 (by simp [AV.pureL, AV.pure]) (Nat.le_of_ble_eq_true rfl) rfl rfl (g := []) ?_
  rw [body_97, c97]
  have t : (bs b).take b.length = bs b := by rw [List.take_of_length_le]; rw [bs_len]; exact Nat.le_refl _
  rcases hc with rfl | rfl <;> simp [t]
end E31
end
end
section
open Ab Go TabE
attribute [local simp ↓] s_seq s_reg s_regd s_cond s_block s_cons s_consG s_regD
attribute [local simp] s_nil s_loop s_round s_lpn s_lpe s_lpr firstReg s_gt s_gf s_wb s_wu s_val s_valN s_skip s_calls s_callP s_cax lookR flatR pureKs s_ret s_rgx s_sqn s_sqr s_sqe s_cdb s_bkn s_bkr s_bke s_exit s_ret' s_skip' s_finr s_finn s_fin1 s_fix s_clean s_gc0 o_tmp o_int o_bool o_nil o_str o_fn o_nil' l_hit l_miss l_nil ol_nil ol_cons ol_some x_move x_assign x_pick pk_t pk_f x_bin bn_s x_un x_extract x_callF cl_no x_callB x_callBF frzV x_conv cvx convA frame0 binA intOp resL resA results1 sealLW AV.pure AV.pureL keepT x_alloc x_box bxx x_build bdx x_buildSlice bsx x_buildSliceF bsf x_load ldx x_store stx x_slice slx x_fieldAddr x_field x_index ixx x_indexAddr iax x_makeSlice msx x_makeSliceF msf x_nilCheck newK genOf setK lookK fillA writeL writeC readC conts TyI.mk1 sliceA boundsA boundsB fitsA numA indexAddrA fieldAddrA partA fieldA indexA appendA copyA builtinA AV.cells chunk gcH reach keysT keepK inKs AV.keys AV.keysL Ty.isAgg eq1 eqL convA.go ltI w_u8 w_u32 w_u64 w_i64 w_fdiv w_tdiv w_tmod IntKind.bits unA sc_int sc_bool sc_str sc_sl sc_ref sc_ptr sc_pel sc_nilp sc_fn sc_nilf sc_if sc_nili sc_agg sc_tup sc_mem bs_pure bs_kl bs_length bs_cells bs_all sl_row sealRow sealY sl_int sl_bool sl_str sl_sl sl_nilp sl_nilf sl_nili sl_pel sl_agg sl_tup sl_fn sl_if nat_1 bs_cons bs_nil i_beq i_bne x_mkF x_mkI x_tassert x_panic s_pan s_sqp s_bkp s_finp s_fixp s_lpp s_rgp s_retp s_site s_stxN s_stxO x_callT clx El.avs_len s_dyn0 s_rgy barOf dynChk footL dynOK disjK keysOp opVals Op.operands
section
open Ab Go TabE Sp E31
namespace E32
theorem sealX_fl (n : Nat) (h : Heap) (key : Key) (st : List El) (cap : Option Nat) (mt ex : Bool) (hk : lookK h key = some ⟨El.fl st, true, mt, ex, 5, true⟩) : sealX (n + 2) h (.ref key 0 st.length cap) = some (.sl false (El.avs st) cap, setK h key ⟨El.fl st, true, false, ex, 5, true⟩) := by
  unfold sealX sealA
  have hp : (AV.ref key 0 st.length cap).pure = false := rfl
  have f3 : (El.fl st).take (st.length * 5) = El.fl st := by rw [El.fl_take, List.take_length]
  simp only [hp, Bool.false_eq_true, if_false, hk]
  rw [if_pos ⟨trivial, by rw [El.fl_len]; omega, by simp⟩]
  simp only [List.drop_zero, f3]
  rw [sealL_of_pure n _ _ (El.fl_pure st)]
  simp only [El.fl_chunk]
end E32
end
end
section
open Ab Go TabE Sp E18 E20 E22 E23 E26 E31
namespace E36
mutual
theorem many_cnt : ∀ (c : Cr) (m : Int), 1 ≤ m → cnt c ≤ m → many c m = cnt c
  | .mk _ _ _ _ s, m, h0, h => by
    unfold cnt at h
    have := cnts_pos s
    unfold many cnt
    rw [if_neg (by omega)]
    exact manys_cnt s m 1 (by omega) h
theorem manys_cnt : ∀ (s : List Cr) (m n : Int), 1 ≤ n → n + cnts s ≤ m → manys s m n = n + cnts s
  | [], m, n, _, _ => by unfold manys cnts; omega
  | x :: r, m, n, h0, h => by
    unfold cnts at h
    have := cnts_pos r
    have := cnt_pos x
    unfold manys cnts
    rw [if_pos (by omega), many_cnt x (m - n) (by omega) (by omega), manys_cnt r m _ (by omega) (by omega)]
    omega
end
end E36
end
section
open Ab Go TabE
set_option maxRecDepth 100000
namespace LV
theorem l04 : Con E 200 18 [] (.bool true) := by
  obtain ⟨g, h⟩ := isT_some (show isT (aCall E 200 0 18 [] []) = true by kernel_rfl)
  exact .of (g := g) rfl h
end LV
end
section
open Ab Go TabE
attribute [local simp ↓] s_seq s_reg s_regd s_cond s_block s_cons s_consG
attribute [local simp] s_nil s_loop s_round s_lpn s_lpe s_lpr firstReg s_gt s_gf s_wb s_wu s_val s_valN s_skip s_calls s_callP s_cax lookR flatR pureKs s_ret s_rgx s_sqn s_sqr s_sqe s_cdb s_bkn s_bkr s_bke s_exit s_ret' s_skip' s_finr s_finn s_fin1 s_fix s_clean s_gc0 o_tmp o_int o_bool o_nil o_str o_fn o_nil' l_hit l_miss l_nil ol_nil ol_cons ol_some x_move x_assign x_pick pk_t pk_f x_bin bn_s x_un x_extract x_callF cl_no x_callB x_callBF frzV x_conv cvx convA frame0 binA intOp resL resA results1 sealLW AV.pure AV.pureL keepT x_alloc x_box bxx x_build bdx x_buildSlice bsx x_buildSliceF bsf x_load ldx x_store stx x_slice slx x_fieldAddr x_field x_index ixx x_indexAddr iax x_makeSlice msx x_makeSliceF msf x_nilCheck newK genOf setK lookK fillA writeL writeC readC conts TyI.mk1 sliceA boundsA boundsB fitsA numA indexAddrA fieldAddrA partA fieldA indexA appendA copyA builtinA AV.cells chunk gcH reach keysT keepK inKs AV.keys AV.keysL Ty.isAgg eq1 eqL convA.go ltI w_u8 w_u32 w_u64 w_i64 w_fdiv w_tdiv w_tmod IntKind.bits unA sc_int sc_bool sc_str sc_sl sc_ref sc_ptr sc_pel sc_nilp sc_fn sc_nilf sc_if sc_nili sc_agg sc_tup sc_mem bs_pure bs_kl bs_length bs_cells bs_all sl_row sealRow sealY sl_int sl_bool sl_str sl_sl sl_nilp sl_nilf sl_nili sl_pel sl_agg sl_tup sl_fn sl_if nat_1 bs_cons bs_nil i_beq i_bne x_mkF x_mkI x_tassert x_panic s_pan s_sqp s_bkp s_finp s_fixp s_lpp s_rgp s_retp s_site s_stxN s_stxO x_callT clx El.avs_len
section
open Ab Go TabE Sp E13 E18
namespace E18
def z : El := .mk 0 false 0 true [] (some 0) true [] (some 0)
def ex : El := .mk 0 true 16 true [] (some 0) false [.mk 0 false 2 false [7] (some 1) true [] (some 0), .mk 0 false 5 true [] (some 0) true [] (some 0)] (some 2)
theorem ex_con : Con E 20 41 [] ex.av := .of (g := []) rfl (by kernel_rfl)
theorem z_ok : z.ok := by simp [z, El.ok, El.oks, isB]
theorem ex_ok : ex.ok := by simp [ex, El.ok, El.oks, isB]
theorem ex_sm : ex.sm := by simp [ex, El.sm, El.sms]
theorem ex_chk : (chk ex.core 1 0 0).1 = 0 := by decide +kernel
theorem ex_enc : enc ex.core = [48, 5, 2, 1, 7, 5, 0] := by decide +kernel
theorem z_av : z.av = .agg [.int .u8 0, .bool false, .int .u32 0, .sl true [] (some 0), .sl true [] (some 0)] := rfl
theorem at_bad (e : El) (he : e.ok) (f c) (h : (chk e.core 1 0 0).1 ≠ 0) (ps : List AV) (hp : AV.pureL ps = true) : ∃ N, Con E N 25 [e.av, .sl f ps c] (.tup [z.av, .int .i64 (chk e.core 1 0 0).1]) := by
  obtain ⟨N, C⟩ := E10.check e he
  have C' := C (N + 10) (by omega) 0
  rw [El.av_eq] at C'
  refine ⟨N + 10 + 1, con_of E_fn25 (by simp [AV.pureL, El.av_pure, AV.pure, hp]) (Nat.le_of_ble_eq_true rfl) rfl rfl (g := []) ?_⟩
  rw [body_25, c25, z_av]
  simp [El.av_eq, C', h, hp]
theorem isB_app {a b : List Int} (ha : isB a) (hb : isB b) : isB (a ++ b) := fun x h => (List.mem_append.1 h).elim (ha x) (hb x)
theorem oct_B (v : Int) (k : Nat) : 0 ≤ TG.oct v k ∧ TG.oct v k < 256 := by
  unfold TG.oct
  generalize v / 2 ^ (7 * k) = w
  split <;> omega
theorem grp_B (v : Int) : isB (TG.grp v) := by
  unfold TG.grp
  split <;> intro x hx <;> simp at hx <;> (rcases hx with rfl | rfl | rfl | rfl) <;> exact oct_B _ _
theorem tagO_B (c k n) (hc : 0 ≤ c) (hc3 : c ≤ 3) (hn : 0 ≤ n) : isB (TG.tagO c k n) := by
  unfold TG.tagO
  split
  · intro x hx; simp at hx; subst hx; cases k <;> simp <;> omega
  · rw [isB_cons]; exact ⟨by cases k <;> simp <;> omega, grp_B n⟩
theorem lenO_B (n : Int) (h0 : 0 ≤ n) (h1 : n ≤ 16777215) : isB (lenO n) := by
  unfold lenO
  split
  · intro x hx; simp at hx; omega
  split
  · intro x hx; simp at hx; omega
  split
  · intro x hx; simp at hx; omega
  · intro x hx; simp at hx; omega
theorem encs_B : ∀ l : List El, (∀ x ∈ l, isB (enc x.core)) → isB (encs (El.cores l))
  | [], _ => isB_nil
  | x :: r, h => by
    rw [El.cores, encs]
    exact isB_app (h x (List.mem_cons_self ..)) (encs_B r fun y hy => h y (List.mem_cons_of_mem _ hy))
theorem encs_mem {x : El} : ∀ {l : List El}, x ∈ l → (enc x.core).length ≤ (encs (El.cores l)).length
  | y :: r, h => by
    rw [El.cores, encs, List.length_append]
    rcases List.mem_cons.1 h with rfl | h
    · omega
    · have := encs_mem h; omega
theorem enc_B : ∀ e : El, e.ok → vld e.core → (enc e.core).length ≤ 16777215 → isB (enc e.core) := by
  refine El.ind fun e ih he hv hl => ?_
  have v := (vld_eq e).1 hv
  have hs := encs_B e.s fun x hx => ih x hx (he.sub x hx) (vlds_all.1 v.2.2.2 x hx) (by
    have := encs_mem hx
    rw [enc_eq] at hl
    simp only [List.length_append] at hl
    omega)
  have t : e.c ≤ 3 := by
    have := v.1
    unfold tagE at this
    by_cases q : 3 < e.c ∨ 268435455 < e.n
    · rw [if_pos q] at this; cases this
    · omega
  rw [enc_eq] at hl ⊢
  simp only [List.length_append] at hl
  exact isB_app (tagO_B _ _ _ he.cb.1 t he.nb.1) (isB_app (lenO_B _ (by omega) (by simp only [List.length_append]; omega)) (isB_app he.bb hs))
theorem cmpI_refl : ∀ l : List Int, cmpI l l = 0
  | [] => rfl
  | a :: r => by rw [cmpI, if_pos rfl]; exact cmpI_refl r
theorem law (e : El) (he : e.ok) : ∃ N, Con E N 9 [e.av] (.bool true) := by
  obtain ⟨N0, r, B, hr⟩ := bounded e he
  rcases hr with rfl | ⟨rfl, hb⟩
  · have B' := B (N0 + 300) (by omega) 0
    rw [El.av_eq] at B'
    have l := LV.l04 (N0 + 300) (by omega) 0
    refine ⟨N0 + 300 + 1, con_of E_fn9 (by simp [AV.pureL, El.av_pure]) (Nat.le_of_ble_eq_true rfl) rfl rfl (g := []) ?_⟩
    rw [body_9, c9]
    simp [El.av_eq, B', l]
  have hcnt : cnt e.core ≤ 60 := by
    obtain ⟨_, _, _, hm⟩ := hb
    rw [cnt_many e.core 60 (by omega) hm]; exact hm
  have hf := fw_bd e hb
  have hs := fw_sm (by omega) e hf (by omega)
  have hl := fw_len e hf
  have hl2 : (enc e.core).length ≤ 1048576 := by omega
  obtain ⟨N1, C1⟩ := E11.check e he
  obtain ⟨N2, C2⟩ := E10.check e he
  obtain ⟨N3, C3⟩ := E10.count e he
  obtain ⟨N4, C4⟩ := E10.depth e he
  by_cases hw : (chk e.core 1 0 0).1 = 0
  · have hv := vld_of _ _ _ _ hw
    have cd := chk_dep e.core 1 0 0 hw
    have dp := dep_pos e.core
    have dc := dep_cnt e.core
    have rc1 : E11.rc e.core 1 0 = (0, cnt e.core) := by
      unfold E11.rc
      rw [if_pos hw, hw, cd.2.1, Int.zero_add]
    have m1 : (E5.meas e).2.1 = cnt e.core ∧ (E5.meas e).2.2 = dep e.core := by
      unfold E5.meas; rw [if_pos hw]; exact ⟨by rw [cd.2.1]; omega, by rw [cd.1]; omega⟩
    obtain ⟨N5, C5⟩ := E10.put_ok e he hs hw hl2
    obtain ⟨N6, v, C6, hv6⟩ := E14.same_ok e e he he hw hw
    obtain rfl := hv6.2 rfl
    obtain ⟨N7, C7⟩ := E17.rput e he hv (by omega)
    obtain ⟨N8, C8⟩ := E10.size_ok e he hs hw
    rw [if_pos hl2] at C8
    obtain ⟨N9, C9⟩ := E12.depth e he (by omega)
    obtain ⟨K, hK⟩ : ∃ K, N0 + N1 + N2 + N3 + N4 + N5 + N6 + N7 + N8 + N9 + 300 = K := ⟨_, rfl⟩
    have w0 := B K (by omega) 0
    have w1 := C1 K (by omega) 1 0 (by omega) (by omega) (by omega) (by omega)
    rw [rc1] at w1
    have w2 := C2 K (by omega) 0
    rw [hw] at w2
    have w3 := C3 K (by omega) 0
    rw [m1.1] at w3
    have w4 := C4 K (by omega) 0
    rw [m1.2] at w4
    have w5 := C5 K (by omega) 0
    have w6 := C6 K (by omega) 0
    have w7 := C7 K (by omega) 0
    have w8 := C8 K (by omega) 0
    have w9 := C9 K (by omega) 0
    have l := LV.l04 K (by omega) 0
    rw [El.av_eq] at w0 w1 w2 w3 w4 w5 w6 w7 w8 w9
    have eb : isB (enc e.core) := enc_B e he hv (by omega)
    have gb := bs_go eb
    refine ⟨K + 1, con_of E_fn9 (by simp [AV.pureL, El.av_pure]) (Nat.le_of_ble_eq_true rfl) rfl rfl (g := []) ?_⟩
    rw [body_9, c9]
    simp [El.av_eq, w0, w1, w2, w3, w4, w5, w6, w7, w8, w9, l, gb]
  · have m1 : (E5.meas e).2.1 = 0 ∧ (E5.meas e).2.2 = 0 := by unfold E5.meas; rw [if_neg hw]; exact ⟨rfl, rfl⟩
    have rc1 : E11.rc e.core 1 0 = ((chk e.core 1 0 0).1, 0) := by unfold E11.rc; rw [if_neg hw]
    obtain ⟨N5, C5⟩ := E10.put_bad e he hw
    obtain ⟨N6, C6⟩ := E14.same_bad e e he hw
    obtain ⟨N7, C7⟩ := at_bad e he true (some 0) hw [] rfl
    obtain ⟨N8, C8⟩ := E10.size_bad e he hw
    obtain ⟨N9, C9⟩ := E1.same z z z_ok rfl
    obtain ⟨N10, C10⟩ := E10.put_ok ex ex_ok ex_sm ex_chk (by rw [ex_enc]; decide)
    have C11 := E14.compare e ex _ _ _ _ [] _ isB_nil (by rw [ex_enc]; simp [isB]) (N5 + N10) _ _ (C5.mono (by omega)) (C10.mono (by omega))
    have C12 := E14.compare e e _ _ _ _ [] [] isB_nil isB_nil (N5 + N10) _ _ (C5.mono (by omega)) (C5.mono (by omega))
    obtain ⟨w, hw'⟩ : ∃ w, (chk e.core 1 0 0).1 = w := ⟨_, rfl⟩
    rw [hw'] at hw rc1
    obtain ⟨K, hK⟩ : ∃ K, N0 + N1 + N2 + N3 + N4 + N5 + N6 + N7 + N8 + N9 + N10 + 300 = K := ⟨_, rfl⟩
    have w0 := B K (by omega) 0
    have w1 := C1 K (by omega) 1 0 (by omega) (by omega) (by omega) (by omega)
    rw [rc1] at w1
    have w2 := C2 K (by omega) 0
    rw [hw'] at w2
    have w3 := C3 K (by omega) 0
    rw [m1.1] at w3
    have w4 := C4 K (by omega) 0
    rw [m1.2] at w4
    have w5 := C5 K (by omega) 0
    rw [hw'] at w5
    have w6 := C6 K (by omega) 0
    have w7 := C7 K (by omega) 0
    rw [hw'] at w7
    have w8 := C8 K (by omega) 0
    have w9 := C9 K (by omega) 0
    have w10 := ex_con K (by omega) 0
    have w11 := C11 K (by omega) 0
    have w12 := C12 K (by omega) 0
    rw [ex_enc] at w11
    rw [cmpI_refl] at w12
    have w13 : cmpI [] [48, 5, 2, 1, 7, 5, 0] = -1 := rfl
    rw [w13] at w11
    have l := LV.l04 K (by omega) 0
    have xa : ∃ cs, ex.av = .agg cs ∧ AV.pureL cs = true := ⟨_, rfl, rfl⟩
    obtain ⟨xs, xa, xp⟩ := xa
    rw [xa] at w10 w11
    rw [z_av] at w7 w9
    rw [El.av_eq] at w0 w1 w2 w3 w4 w5 w6 w7 w8 w11 w12
    refine ⟨K + 1, con_of E_fn9 (by simp [AV.pureL, El.av_pure]) (Nat.le_of_ble_eq_true rfl) rfl rfl (g := []) ?_⟩
    rw [body_9, c9]
    simp [El.av_eq, w0, w1, w2, w3, w4, w5, w6, w7, w8, w9, w10, w11, w12, l, hw, xp]
end E18
end
end
section
open Ab Go TabE Sp
namespace E40
def num : List Int → Int → Int → Int × Int × Int
  | [], _, _ => (0, 0, 7)
  | x :: r, i, a => if (i = 1 ∧ x = 128) ∨ (i = 4 ∧ 128 ≤ x) then (0, 0, 9) else if x < 128 then (if 128 * a + x % 128 < 31 then (0, 0, 9) else (128 * a + x % 128, i + 1, 0)) else num r (i + 1) (128 * a + x % 128)
def gt : List Int → (Int × Bool × Int) × Int × Int
  | [] => ((0, false, 0), 0, 7)
  | x :: r =>
    let p := if x % 32 = 31 then num r 1 0 else (x % 32, 1, 0)
    let e := if p.2.2 = 0 then tagE (x / 64) (decide (x / 32 % 2 = 1)) p.1 else p.2.2
    if e ≠ 0 then ((0, false, 0), 0, e) else ((x / 64, decide (x / 32 % 2 = 1), p.1), p.2.1, 0)
theorem byte_at (f c) (xs : List Int) (i : Nat) (x : Int) (h : xs[i]? = some x) : ∀ hp, indexAddrA E 22 (.sl f (bs xs) c) (.int .i64 i) hp = some (.pel [.int .u8 x]) := by
  intro hp
  have hi : i < xs.length := (List.getElem?_eq_some_iff.1 h).1
  unfold indexAddrA
  simp only [E_ty22, E_ty5]
  rw [if_pos ⟨by omega, by rw [bs_len]; omega⟩]
  simp only [Int.toNat_natCast, bs, List.getElem?_map, h, Option.map_some]
  rfl
def b112 : Code := lp c112 0
abbrev S (f : Bool) (xs : List Int) (c : Option Nat) (a : Int) (i : Nat) : St := ⟨[(0, .sl f (bs xs) c), (2, .int .u32 a), (3, .int .i64 (i : Int))], []⟩
end E40
end
section
open Ab Go TabE Sp E40
namespace Sp
def gl : List Int → Int × Int × Int
  | [] => (0, 0, 7)
  | x :: r => if x ≤ 127 then (x, 1, 0)
    else if x = 128 ∨ 131 < x then (0, 0, 10)
    else if x = 129 then (match r with
      | y :: _ => if y ≤ 127 then (0, 0, 10) else (y, 2, 0)
      | _ => (0, 0, 7))
    else if x = 130 then (match r with
      | y :: z :: _ => if y = 0 then (0, 0, 10) else (256 * y + z, 3, 0)
      | _ => (0, 0, 7))
    else (match r with
      | y :: z :: u :: _ => if y = 0 then (0, 0, 10) else (256 * (256 * y + z) + u, 4, 0)
      | _ => (0, 0, 7))
theorem gl_cons (x : Int) (r : List Int) : gl (x :: r) = ((if x ≤ 127 then (x, 1, 0)
    else if x = 128 ∨ 131 < x then (0, 0, 10)
    else if x = 129 then (match r with
      | y :: _ => if y ≤ 127 then (0, 0, 10) else (y, 2, 0)
      | _ => (0, 0, 7))
    else if x = 130 then (match r with
      | y :: z :: _ => if y = 0 then (0, 0, 10) else (256 * y + z, 3, 0)
      | _ => (0, 0, 7))
    else (match r with
      | y :: z :: u :: _ => if y = 0 then (0, 0, 10) else (256 * (256 * y + z) + u, 4, 0)
      | _ => (0, 0, 7)) : Int × Int × Int)) := rfl
theorem gl_put (n : Int) (r : List Int) (h0 : 0 ≤ n) (h1 : n ≤ 16777215) : gl (lenO n ++ r) = (n, ((lenO n).length : Int), 0) := by
  unfold lenO
  by_cases a : n ≤ 127
  · rw [if_pos a]; simp [gl, a]
  rw [if_neg a]
  by_cases b : n ≤ 255
  · rw [if_pos b]; simp [gl, a]
  rw [if_neg b]
  by_cases c : n ≤ 65535
  · rw [if_pos c]
    have e1 : ¬ n / 256 = 0 := by omega
    have e2 : 256 * (n / 256) + n % 256 = n := by omega
    simp [gl, e1, e2]
  · rw [if_neg c]
    have e1 : ¬ n / 65536 = 0 := by omega
    have e2 : 256 * (256 * (n / 65536) + n / 256 % 256) + n % 256 = n := by omega
    simp [gl, e1, e2]
theorem gl_back (xs : List Int) (hb : isB xs) (n s : Int) (h : gl xs = (n, s, 0)) : ∃ r, xs = lenO n ++ r ∧ s = ((lenO n).length : Int) ∧ 0 ≤ n ∧ n ≤ 16777215 := by
  have nz : ∀ {a b c d : Int} {P : Prop}, ((0, 0, c) : Int × Int × Int) = (a, b, 0) → c ≠ 0 → P := by
    intro a b c d P h hc; simp at h; exact absurd h.2.2 hc
  cases xs with
  | nil => simp [gl] at h
  | cons x r =>
    have hx := hb x (by simp)
    rw [gl_cons] at h
    by_cases a : x ≤ 127
    · rw [if_pos a] at h
      simp at h
      obtain ⟨rfl, rfl⟩ := h
      exact ⟨r, by unfold lenO; rw [if_pos a]; rfl, by unfold lenO; rw [if_pos a]; rfl, hx.1, by omega⟩
    rw [if_neg a] at h
    by_cases b : x = 128 ∨ 131 < x
    · rw [if_pos b] at h; simp at h
    rw [if_neg b] at h
    by_cases c : x = 129
    · subst c
      rw [if_pos rfl] at h
      cases r with
      | nil => simp at h
      | cons y r =>
        have hy := hb y (by simp)
        simp only at h
        by_cases d : y ≤ 127
        · rw [if_pos d] at h; simp at h
        rw [if_neg d] at h
        simp at h
        obtain ⟨rfl, rfl⟩ := h
        have e : lenO y = [129, y] := by unfold lenO; rw [if_neg d, if_pos (by omega)]
        exact ⟨r, by rw [e]; rfl, by rw [e]; rfl, hy.1, by omega⟩
    rw [if_neg c] at h
    by_cases d : x = 130
    · subst d
      rw [if_pos rfl] at h
      match r, h, hb with
      | [], h, hb => simp at h
      | [y], h, hb => simp at h
      | y :: z :: r, h, hb =>
        have hy := hb y (by simp)
        have hz := hb z (by simp)
        simp only at h
        by_cases q : y = 0
        · rw [if_pos q] at h; simp at h
        rw [if_neg q] at h
        simp at h
        obtain ⟨rfl, rfl⟩ := h
        have e : lenO (256 * y + z) = [130, y, z] := by
          unfold lenO; rw [if_neg (by omega), if_neg (by omega), if_pos (by omega)]
          have e1 : (256 * y + z) / 256 = y := by omega
          have e2 : (256 * y + z) % 256 = z := by omega
          rw [e1, e2]
        exact ⟨r, by rw [e]; rfl, by rw [e]; rfl, by omega, by omega⟩
    rw [if_neg d] at h
    match r, h, hb with
    | [], h, hb => simp at h
    | [y], h, hb => simp at h
    | [y, z], h, hb => simp at h
    | y :: z :: u :: r, h, hb =>
      have hy := hb y (by simp)
      have hz := hb z (by simp)
      have hu := hb u (by simp)
      simp only at h
      by_cases q : y = 0
      · rw [if_pos q] at h; simp at h
      rw [if_neg q] at h
      simp at h
      obtain ⟨rfl, rfl⟩ := h
      have e : lenO (256 * (256 * y + z) + u) = [131, y, z, u] := by
        unfold lenO; rw [if_neg (by omega), if_neg (by omega), if_neg (by omega)]
        have e1 : (256 * (256 * y + z) + u) / 65536 = y := by omega
        have e2 : (256 * (256 * y + z) + u) / 256 % 256 = z := by omega
        have e3 : (256 * (256 * y + z) + u) % 256 = u := by omega
        rw [e1, e2, e3]
      exact ⟨r, by rw [e]; obtain rfl : x = 131 := by omega
                   rfl, by rw [e]; rfl, by omega, by omega⟩
theorem gl_n (xs : List Int) (h : (gl xs).2.2 ≠ 0) : gl xs = (0, 0, (gl xs).2.2) := by
  cases xs with
  | nil => rfl
  | cons x r =>
    rw [gl_cons] at h ⊢
    by_cases a : x ≤ 127
    · rw [if_pos a] at h; exact absurd rfl h
    rw [if_neg a] at h ⊢
    by_cases b : x = 128 ∨ 131 < x
    · rw [if_pos b]
    rw [if_neg b] at h ⊢
    by_cases c : x = 129
    · rw [if_pos c] at h ⊢
      split
      · rename_i y _
        simp only at h
        by_cases d : y ≤ 127
        · rw [if_pos d]
        · rw [if_neg d] at h; exact absurd rfl h
      · rfl
    rw [if_neg c] at h ⊢
    by_cases d : x = 130
    · rw [if_pos d] at h ⊢
      split
      · rename_i y z _
        simp only at h
        by_cases d : y = 0
        · rw [if_pos d]
        · rw [if_neg d] at h; exact absurd rfl h
      · rfl
    rw [if_neg d] at h ⊢
    split
    · rename_i y z u _
      simp only at h
      by_cases d : y = 0
      · rw [if_pos d]
      · rw [if_neg d] at h; exact absurd rfl h
    · rfl
theorem num_grp (v : Int) (r : List Int) (h0 : 31 ≤ v) (h1 : v ≤ 268435455) : num (TG.grp v ++ r) 1 0 = (v, ((TG.grp v).length : Int) + 1, 0) := by
  unfold TG.grp TG.top
  by_cases a : v < 128
  · have o : TG.oct v 0 = v := by unfold TG.oct; simp; omega
    rw [if_pos a]
    simp only [o, List.cons_append, List.nil_append]
    unfold num
    rw [if_neg (by omega), if_pos a, if_neg (by omega)]
    simp; omega
  rw [if_neg a]
  by_cases b : v < 16384
  · have o0 : TG.oct v 0 = v % 128 := by unfold TG.oct; simp
    have o1 : TG.oct v 1 = 128 + v / 128 := by unfold TG.oct; simp; omega
    rw [if_pos b]
    simp only [o0, o1, List.cons_append, List.nil_append]
    unfold num
    rw [if_neg (by omega), if_neg (by omega)]
    unfold num
    rw [if_neg (by omega), if_pos (by omega), if_neg (by omega)]
    simp; omega
  rw [if_neg b]
  by_cases c : v < 2097152
  · have o0 : TG.oct v 0 = v % 128 := by unfold TG.oct; simp
    have o1 : TG.oct v 1 = 128 + v / 128 % 128 := by unfold TG.oct; simp; omega
    have o2 : TG.oct v 2 = 128 + v / 16384 := by unfold TG.oct; simp; omega
    rw [if_pos c]
    simp only [o0, o1, o2, List.cons_append, List.nil_append]
    unfold num
    rw [if_neg (by omega), if_neg (by omega)]
    unfold num
    rw [if_neg (by omega), if_neg (by omega)]
    unfold num
    rw [if_neg (by omega), if_pos (by omega), if_neg (by omega)]
    simp; omega
  · have o0 : TG.oct v 0 = v % 128 := by unfold TG.oct; simp
    have o1 : TG.oct v 1 = 128 + v / 128 % 128 := by unfold TG.oct; simp; omega
    have o2 : TG.oct v 2 = 128 + v / 16384 % 128 := by unfold TG.oct; simp; omega
    have o3 : TG.oct v 3 = 128 + v / 2097152 := by unfold TG.oct; simp; omega
    rw [if_neg c]
    simp only [o0, o1, o2, o3, List.cons_append, List.nil_append]
    unfold num
    rw [if_neg (by omega), if_neg (by omega)]
    unfold num
    rw [if_neg (by omega), if_neg (by omega)]
    unfold num
    rw [if_neg (by omega), if_neg (by omega)]
    unfold num
    rw [if_neg (by omega), if_pos (by omega), if_neg (by omega)]
    simp; omega
theorem num_back (xs : List Int) (hb : isB xs) (n s : Int) (h : num xs 1 0 = (n, s, 0)) : ∃ r, xs = TG.grp n ++ r ∧ s = ((TG.grp n).length : Int) + 1 ∧ 31 ≤ n ∧ n ≤ 268435455 := by
  cases xs with
  | nil => simp [num] at h
  | cons x xs =>
  have hx := hb x (by simp)
  unfold num at h
  by_cases a : ((1 : Int) = 1 ∧ x = 128) ∨ ((1 : Int) = 4 ∧ 128 ≤ x)
  · rw [if_pos a] at h; simp at h
  rw [if_neg a] at h
  by_cases b : x < 128
  · rw [if_pos b] at h
    by_cases c : 128 * (0 : Int) + x % 128 < 31
    · rw [if_pos c] at h; simp at h
    rw [if_neg c] at h
    simp at h
    obtain ⟨h1, rfl⟩ := h
    obtain rfl : n = x := by omega
    have e : TG.grp n = [n] := by unfold TG.grp TG.top; rw [if_pos b]; simp only [TG.oct]; simp; omega
    exact ⟨xs, by rw [e]; rfl, by rw [e]; rfl, by omega, by omega⟩
  rw [if_neg b] at h
  cases xs with
  | nil => simp [num] at h
  | cons y xs =>
  have hy := hb y (by simp)
  unfold num at h
  by_cases a2 : ((1 : Int) + 1 = 1 ∧ y = 128) ∨ ((1 : Int) + 1 = 4 ∧ 128 ≤ y)
  · omega
  rw [if_neg a2] at h
  by_cases b2 : y < 128
  · rw [if_pos b2] at h
    by_cases c : 128 * (128 * (0 : Int) + x % 128) + y % 128 < 31
    · rw [if_pos c] at h; simp at h
    rw [if_neg c] at h
    simp at h
    obtain ⟨h1, rfl⟩ := h
    have e : TG.grp n = [x, y] := by
      unfold TG.grp TG.top; rw [if_neg (by omega), if_pos (by omega)]; simp only [TG.oct]; simp; omega
    exact ⟨xs, by rw [e]; rfl, by rw [e]; rfl, by omega, by omega⟩
  rw [if_neg b2] at h
  cases xs with
  | nil => simp [num] at h
  | cons z xs =>
  have hz := hb z (by simp)
  unfold num at h
  by_cases a3 : ((1 : Int) + 1 + 1 = 1 ∧ z = 128) ∨ ((1 : Int) + 1 + 1 = 4 ∧ 128 ≤ z)
  · omega
  rw [if_neg a3] at h
  by_cases b3 : z < 128
  · rw [if_pos b3] at h
    by_cases c : 128 * (128 * (128 * (0 : Int) + x % 128) + y % 128) + z % 128 < 31
    · rw [if_pos c] at h; simp at h
    rw [if_neg c] at h
    simp at h
    obtain ⟨h1, rfl⟩ := h
    have e : TG.grp n = [x, y, z] := by
      unfold TG.grp TG.top; rw [if_neg (by omega), if_neg (by omega), if_pos (by omega)]; simp only [TG.oct]; simp; omega
    exact ⟨xs, by rw [e]; rfl, by rw [e]; rfl, by omega, by omega⟩
  rw [if_neg b3] at h
  cases xs with
  | nil => simp [num] at h
  | cons u xs =>
  have hu := hb u (by simp)
  unfold num at h
  by_cases a4 : ((1 : Int) + 1 + 1 + 1 = 1 ∧ u = 128) ∨ ((1 : Int) + 1 + 1 + 1 = 4 ∧ 128 ≤ u)
  · rw [if_pos a4] at h; simp at h
  rw [if_neg a4] at h
  rw [if_pos (by omega)] at h
  by_cases c : 128 * (128 * (128 * (128 * (0 : Int) + x % 128) + y % 128) + z % 128) + u % 128 < 31
  · rw [if_pos c] at h; simp at h
  rw [if_neg c] at h
  simp at h
  obtain ⟨h1, rfl⟩ := h
  have e : TG.grp n = [x, y, z, u] := by
    unfold TG.grp TG.top; rw [if_neg (by omega), if_neg (by omega), if_neg (by omega)]; simp only [TG.oct]; simp; omega
  exact ⟨xs, by rw [e]; rfl, by rw [e]; rfl, by omega, by omega⟩
theorem tagE_3 {c : Int} {k : Bool} {n : Int} (h : tagE c k n = 0) : c ≤ 3 ∧ n ≤ 268435455 := by
  unfold tagE at h
  by_cases q : 3 < c ∨ 268435455 < n
  · rw [if_pos q] at h; cases h
  · omega
theorem gt_put (c : Int) (k : Bool) (n : Int) (r : List Int) (h : tagE c k n = 0) (c0 : 0 ≤ c) (n0 : 0 ≤ n) : gt (TG.tagO c k n ++ r) = ((c, k, n), ((TG.tagO c k n).length : Int), 0) := by
  obtain ⟨c3, n3⟩ := tagE_3 h
  unfold TG.tagO
  by_cases a : n < 31
  · rw [if_pos a]
    have e1 : (64 * c + (if k then 32 else 0) + n) % 32 = n := by cases k <;> simp <;> omega
    have e2 : (64 * c + (if k then 32 else 0) + n) / 64 = c := by cases k <;> simp <;> omega
    have e3 : decide ((64 * c + (if k then 32 else 0) + n) / 32 % 2 = 1) = k := by cases k <;> simp <;> omega
    have n31 : ¬ n = 31 := by omega
    simp only [List.cons_append, List.nil_append, gt, e1, e2, e3, n31, if_false, if_true, h]
    simp
  · rw [if_neg a]
    have e1 : (64 * c + (if k then 32 else 0) + 31) % 32 = 31 := by cases k <;> simp <;> omega
    have e2 : (64 * c + (if k then 32 else 0) + 31) / 64 = c := by cases k <;> simp <;> omega
    have e3 : decide ((64 * c + (if k then 32 else 0) + 31) / 32 % 2 = 1) = k := by cases k <;> simp <;> omega
    have g := num_grp n r (by omega) n3
    simp only [List.cons_append, gt, e1, e2, e3, if_true, g, h]
    simp
theorem gt_back (xs : List Int) (hb : isB xs) (c : Int) (k : Bool) (n s : Int) (h : gt xs = ((c, k, n), s, 0)) : ∃ r, xs = TG.tagO c k n ++ r ∧ s = ((TG.tagO c k n).length : Int) ∧ tagE c k n = 0 ∧ 0 ≤ c ∧ 0 ≤ n := by
  cases xs with
  | nil => simp [gt] at h
  | cons x r =>
    have hx := hb x (by simp)
    have hr : isB r := fun y hy => hb y (by simp [hy])
    simp only [gt] at h
    by_cases a : x % 32 = 31
    · simp only [a, if_true] at h
      by_cases pe : (num r 1 0).2.2 = 0
      · simp only [pe, if_true] at h
        by_cases te : tagE (x / 64) (decide (x / 32 % 2 = 1)) (num r 1 0).1 = 0
        · simp only [te, ne_eq, not_true_eq_false, if_false, Prod.mk.injEq, and_true] at h
          obtain ⟨⟨rfl, rfl, hn⟩, hs⟩ := h
          have hq : num r 1 0 = (n, s, 0) := Prod.ext hn (Prod.ext hs pe)
          obtain ⟨r', e1, e2, e3, e4⟩ := num_back r hr n s hq
          have e5 : TG.tagO (x / 64) (decide (x / 32 % 2 = 1)) n = x :: TG.grp n := by
            unfold TG.tagO
            rw [if_neg (by omega)]
            congr 1
            by_cases q : x / 32 % 2 = 1
            · simp [q]; omega
            · simp [q]; omega
          exact ⟨r', by rw [e5, e1]; rfl, by rw [e5, e2]; simp, by rw [← hn]; exact te, by omega, by omega⟩
        · rw [if_pos te] at h
          exact absurd (congrArg (fun p => p.2.2) h) te
      · rw [if_neg pe, if_pos pe] at h
        exact absurd (congrArg (fun p => p.2.2) h) pe
    · simp only [a, if_false, if_true] at h
      by_cases te : tagE (x / 64) (decide (x / 32 % 2 = 1)) (x % 32) = 0
      · simp only [te, ne_eq, not_true_eq_false, if_false, Prod.mk.injEq, and_true] at h
        obtain ⟨⟨rfl, rfl, rfl⟩, rfl⟩ := h
        have e5 : TG.tagO (x / 64) (decide (x / 32 % 2 = 1)) (x % 32) = [x] := by
          unfold TG.tagO
          rw [if_pos (by omega)]
          congr 1
          by_cases q : x / 32 % 2 = 1
          · simp [q]; omega
          · simp [q]; omega
        exact ⟨r, by rw [e5]; rfl, by rw [e5]; rfl, te, by omega, by omega⟩
      · rw [if_pos te] at h
        exact absurd (congrArg (fun p => p.2.2) h) te
theorem ifn (e : Int) (q : (Int × Bool × Int) × Int × Int) (hq : q.2.2 = 0) (h : (if e ≠ 0 then ((0, false, 0), 0, e) else q).2.2 ≠ 0) : (if e ≠ 0 then ((0, false, 0), 0, e) else q) = ((0, false, 0), 0, (if e ≠ 0 then (((0 : Int), false, (0 : Int)), (0 : Int), e) else q).2.2) := by
  by_cases he : e ≠ 0
  · rw [if_pos he]
  · rw [if_neg he] at h; exact absurd hq h
theorem gt_n (xs : List Int) (h : (gt xs).2.2 ≠ 0) : gt xs = ((0, false, 0), 0, (gt xs).2.2) := by
  cases xs with
  | nil => rfl
  | cons x r =>
    unfold gt at h ⊢
    exact ifn _ _ rfl h
end Sp
end
section
open Ab Go TabE Sp E40
namespace Sp
inductive Rr where
  | ok (c : Cr) (n : Nat) (m : Int)
  | bad (a : Int) (e : Int)
mutual
def rd : Nat → List Int → Nat → Nat → Int → Int → Rr
  | 0, _, _, _, _, _ => .bad 0 7
  | f + 1, b, a, e, d, m =>
    if (gt ((b.take e).drop a)).2.2 = 7 then .bad e 7
    else if (gt ((b.take e).drop a)).2.2 ≠ 0 then .bad a (gt ((b.take e).drop a)).2.2
    else if 16 < d then .bad a 12
    else if m = 8192 then .bad a 3
    else if (gl ((b.take e).drop (a + (gt ((b.take e).drop a)).2.1.toNat))).2.2 = 7 then .bad e 7
    else if (gl ((b.take e).drop (a + (gt ((b.take e).drop a)).2.1.toNat))).2.2 ≠ 0 then .bad ((a + (gt ((b.take e).drop a)).2.1.toNat : Nat) : Int) (gl ((b.take e).drop (a + (gt ((b.take e).drop a)).2.1.toNat))).2.2
    else if e < a + (gt ((b.take e).drop a)).2.1.toNat + (gl ((b.take e).drop (a + (gt ((b.take e).drop a)).2.1.toNat))).2.1.toNat + (gl ((b.take e).drop (a + (gt ((b.take e).drop a)).2.1.toNat))).1.toNat then .bad e 7
    else
      let p := a + (gt ((b.take e).drop a)).2.1.toNat + (gl ((b.take e).drop (a + (gt ((b.take e).drop a)).2.1.toNat))).2.1.toNat
      let q := p + (gl ((b.take e).drop (a + (gt ((b.take e).drop a)).2.1.toNat))).1.toNat
      if (gt ((b.take e).drop a)).1.2.1 = false then .ok (.mk (gt ((b.take e).drop a)).1.1 false (gt ((b.take e).drop a)).1.2.2 ((b.take q).drop p) []) q (m + 1)
      else match rds f b p q (d + 1) (m + 1) with
        | .inl (s, m') => .ok (.mk (gt ((b.take e).drop a)).1.1 true (gt ((b.take e).drop a)).1.2.2 [] s) q m'
        | .inr (x, y) => .bad x y
def rds : Nat → List Int → Nat → Nat → Int → Int → (List Cr × Int) ⊕ (Int × Int)
  | 0, _, _, _, _, _ => .inr (0, 7)
  | f + 1, b, a, e, d, m => if e ≤ a then .inl ([], m) else
    match rd f b a e d m with
    | .bad x y => .inr (x, y)
    | .ok c a' m' => match rds f b a' e d m' with
      | .inl (s, m'') => .inl (c :: s, m'')
      | .inr r => .inr r
end
theorem rd_eq {f : Nat} {b : List Int} {a e : Nat} {d m : Int} {c : Int} {k : Bool} {n : Int} {tl : Nat} {te : Int} {L : Int} {ll : Nat} {le : Int} (h1 : gt ((b.take e).drop a) = ((c, k, n), (tl : Int), te)) (h2 : gl ((b.take e).drop (a + tl)) = (L, (ll : Int), le)) :
    rd (f + 1) b a e d m = if te = 7 then .bad e 7 else if te ≠ 0 then .bad a te else if 16 < d then .bad a 12 else if m = 8192 then .bad a 3 else if le = 7 then .bad e 7 else if le ≠ 0 then .bad ((a + tl : Nat) : Int) le else if e < a + tl + ll + L.toNat then .bad e 7
      else if k = false then .ok (.mk c false n ((b.take (a + tl + ll + L.toNat)).drop (a + tl + ll)) []) (a + tl + ll + L.toNat) (m + 1)
      else match rds f b (a + tl + ll) (a + tl + ll + L.toNat) (d + 1) (m + 1) with
        | .inl (s, m') => .ok (.mk c true n [] s) (a + tl + ll + L.toNat) m'
        | .inr (x, y) => .bad x y := by
  rw [rd]
  simp only [h1, Int.toNat_natCast, h2]
theorem rd_tag {f : Nat} {b : List Int} {a e : Nat} {d m : Int} (h : (gt ((b.take e).drop a)).2.2 ≠ 0) : rd (f + 1) b a e d m = if (gt ((b.take e).drop a)).2.2 = 7 then .bad e 7 else .bad a (gt ((b.take e).drop a)).2.2 := by
  by_cases q : (gt ((b.take e).drop a)).2.2 = 7
  · rw [rd, if_pos q, if_pos q]
  · rw [rd, if_neg q, if_pos h, if_neg q]
mutual
def okc : Cr → Prop
  | .mk c _ n b s => 0 ≤ c ∧ 0 ≤ n ∧ isB b ∧ okcs s
def okcs : List Cr → Prop
  | [] => True
  | x :: r => okc x ∧ okcs r
end
theorem tkdr {α : Type} (b : List α) {p q e : Nat} (h1 : p ≤ q) (h2 : q ≤ e) : (b.take q).drop p = ((b.take e).drop p).take (q - p) := by
  rw [List.drop_take, List.drop_take, List.take_take]
  congr 1; omega
theorem xs_len {α : Type} (b : List α) {a e : Nat} (h : e ≤ b.length) : ((b.take e).drop a).length = e - a := by rw [List.length_drop, List.length_take]; omega
theorem enc_len2 (c : Cr) : 2 ≤ (enc c).length := by
  cases c with
  | mk c k n b s =>
    rw [enc, List.length_append, List.length_append]
    have := (tagO_len c k n).1
    have := (lenO_len ((b ++ encs s).length : Int)).1
    omega
mutual
theorem rd_put : ∀ (c : Cr) (f : Nat) (b : List Int) (a e : Nat) (d m : Int) (r : List Int), okc c → vld c → (b.take e).drop a = enc c ++ r → e ≤ b.length → a ≤ e → d + dep c ≤ 17 → m + cnt c ≤ 8192 → 0 ≤ m → (enc c).length ≤ 16777215 → e - a + 1 ≤ f → rd f b a e d m = .ok c (a + (enc c).length) (m + cnt c)
  | .mk c k n x s, f, b, a, e, d, m, r, ho, hv, hx, he, ha, hd, hm, m0, hl, hf => by
    obtain ⟨f, rfl⟩ : ∃ j, f = j + 1 := ⟨f - 1, by omega⟩
    unfold okc at ho
    unfold vld at hv
    unfold dep at hd
    unfold cnt at hm ⊢
    obtain ⟨o1, o2, o3, o4⟩ := ho
    obtain ⟨v1, v2, v3, v4⟩ := hv
    have xl := xs_len b (a := a) he
    rw [hx] at xl
    rw [enc] at hx hl xl ⊢
    have d0 := deps_pos s
    have c0 := cnts_pos s
    obtain ⟨co, hco⟩ : ∃ co, x ++ encs s = co := ⟨_, rfl⟩
    rw [hco] at hx hl xl ⊢
    simp only [List.length_append] at hl xl ⊢
    have g1 : gt ((b.take e).drop a) = ((c, k, n), ((TG.tagO c k n).length : Int), 0) := by
      rw [hx, List.append_assoc]; exact gt_put c k n _ v1 o1 o2
    have x2 : (b.take e).drop (a + (TG.tagO c k n).length) = lenO (co.length : Int) ++ (co ++ r) := by
      rw [← List.drop_drop, hx, List.append_assoc, List.drop_left', List.append_assoc]; rfl
    have g2 : gl ((b.take e).drop (a + (TG.tagO c k n).length)) = ((co.length : Int), ((lenO (co.length : Int)).length : Int), 0) := by
      rw [x2]; exact gl_put _ _ (by omega) (by omega)
    have x3 : (b.take e).drop (a + (TG.tagO c k n).length + (lenO (co.length : Int)).length) = co ++ r := by
      rw [← List.drop_drop, x2, List.drop_left']; rfl
    have x4 : (b.take (a + (TG.tagO c k n).length + (lenO (co.length : Int)).length + co.length)).drop (a + (TG.tagO c k n).length + (lenO (co.length : Int)).length) = co := by
      rw [tkdr b (e := e) (by omega) (by omega), x3, Nat.add_sub_cancel_left, List.take_left']; rfl
    have tl1 := (tagO_len c k n).1
    have ll1 := (lenO_len (co.length : Int)).1
    rw [rd_eq g1 g2, if_neg (by omega), if_neg (by simp), if_neg (by omega), if_neg (by omega), if_neg (by omega), if_neg (by simp), Int.toNat_natCast, if_neg (by omega)]
    have q1 : a + ((TG.tagO c k n).length + ((lenO (co.length : Int)).length + co.length)) = a + (TG.tagO c k n).length + (lenO (co.length : Int)).length + co.length := by omega
    cases k with
    | false =>
      obtain rfl := v3 rfl
      have : co = x := by rw [← hco]; simp [encs]
      rw [if_pos rfl, x4, q1, this]
      simp [cnts]
    | true =>
      obtain rfl := v2 rfl
      have : co = encs s := by rw [← hco]; simp
      have R := rds_put s f b (a + (TG.tagO c true n).length + (lenO (co.length : Int)).length) (a + (TG.tagO c true n).length + (lenO (co.length : Int)).length + co.length) (d + 1) (m + 1) o4 v4 (by rw [x4, this]) (by omega) (by omega) (by omega) (by omega) (by omega) (by rw [← this]; omega) (by omega)
      rw [if_neg (by simp), R, q1, Int.add_assoc]
theorem rds_put : ∀ (s : List Cr) (f : Nat) (b : List Int) (a e : Nat) (d m : Int), okcs s → vlds s → (b.take e).drop a = encs s → e ≤ b.length → a ≤ e → d + deps s ≤ 17 → m + cnts s ≤ 8192 → 0 ≤ m → (encs s).length ≤ 16777215 → e - a + 2 ≤ f → rds f b a e d m = .inl (s, m + cnts s)
  | [], f, b, a, e, d, m, ho, hv, hx, he, ha, hd, hm, m0, hl, hf => by
    obtain ⟨f, rfl⟩ : ∃ j, f = j + 1 := ⟨f - 1, by omega⟩
    have xl := xs_len b (a := a) he
    rw [hx] at xl
    simp [encs] at xl
    rw [rds, if_pos (by omega)]
    simp [cnts]
  | x :: s, f, b, a, e, d, m, ho, hv, hx, he, ha, hd, hm, m0, hl, hf => by
    obtain ⟨f, rfl⟩ : ∃ j, f = j + 1 := ⟨f - 1, by omega⟩
    unfold okcs at ho
    unfold vlds at hv
    unfold deps at hd
    unfold cnts at hm ⊢
    have xl := xs_len b (a := a) he
    rw [hx] at xl
    rw [encs] at hx xl hl
    rw [List.length_append] at xl hl
    have x2 := enc_len2 x
    have d0 := deps_pos s
    have c0 := cnts_pos s
    have c1 := cnt_pos x
    have R := rd_put x f b a e d m (encs s) ho.1 hv.1 hx he ha (by omega) (by omega) m0 (by omega) (by omega)
    have R2 := rds_put s f b (a + (enc x).length) e d (m + cnt x) ho.2 hv.2 (by rw [← List.drop_drop, hx, List.drop_left']; rfl) he (by omega) (by omega) (by omega) (by omega) (by omega) (by omega)
    rw [rds, if_neg (by omega), R]
    simp only [R2, Int.add_assoc]
end
structure Rok (b : List Int) (a e : Nat) (d m : Int) (c : Cr) (a' : Nat) (m' : Int) : Prop where
  o : okc c
  v : vld c
  x : (b.take a').drop a = enc c
  l : a < a'
  r : a' ≤ e
  n : m' = m + cnt c
  k : m' ≤ 8192
  d : d + dep c ≤ 17
structure Roks (b : List Int) (a e : Nat) (d m : Int) (s : List Cr) (m' : Int) : Prop where
  o : okcs s
  v : vlds s
  x : (b.take e).drop a = encs s
  n : m' = m + cnts s
  k : m' ≤ 8192
  d : d + deps s ≤ 17
theorem drop_at {b : List Int} {a p e : Nat} (h1 : a ≤ p) (h2 : p ≤ e) : (b.take e).drop a = (b.take p).drop a ++ (b.take e).drop p := by
  have : (b.take e).drop a = ((b.take e).drop a).take (p - a) ++ ((b.take e).drop a).drop (p - a) := (List.take_append_drop _ _).symm
  rw [this, ← tkdr b h1 h2, List.drop_drop]
  congr 2; omega
theorem back : ∀ f : Nat, (∀ (b : List Int) (a e : Nat) (d m : Int) (c : Cr) (a' : Nat) (m' : Int), isB b → e ≤ b.length → a ≤ e → m ≤ 8192 → rd f b a e d m = .ok c a' m' → Rok b a e d m c a' m') ∧
    (∀ (b : List Int) (a e : Nat) (d m : Int) (s : List Cr) (m' : Int), isB b → e ≤ b.length → a ≤ e → m ≤ 8192 → d ≤ 17 → rds f b a e d m = .inl (s, m') → Roks b a e d m s m') := by
  intro f
  induction f with
  | zero => exact ⟨fun b a e d m c a' m' _ _ _ _ h => by simp [rd] at h, fun b a e d m s m' _ _ _ _ _ h => by simp [rds] at h⟩
  | succ f ih =>
    obtain ⟨ih1, ih2⟩ := ih
    refine ⟨fun b a e d m c a' m' hb he ha hm h => ?_, fun b a e d m s m' hb he ha hm hd h => ?_⟩
    · have xb : isB ((b.take e).drop a) := fun y hy => hb y (List.mem_of_mem_take (List.mem_of_mem_drop hy))
      obtain ⟨te, hte⟩ : ∃ te, (gt ((b.take e).drop a)).2.2 = te := ⟨_, rfl⟩
      by_cases te0 : te = 0
      case neg =>
        rw [rd_tag (by rw [hte]; exact te0)] at h
        split at h <;> cases h
      subst te0
      obtain ⟨⟨⟨tc, tk, tn⟩, ts, te'⟩, hg⟩ : ∃ g, gt ((b.take e).drop a) = g := ⟨_, rfl⟩
      have hz : te' = 0 := by rw [hg] at hte; exact hte
      subst hz
      obtain ⟨r, x1, rfl, t1, t2, t3⟩ := gt_back _ xb tc tk tn ts hg
      have xl := xs_len b (a := a) he
      rw [x1, List.length_append] at xl
      have tl1 := (tagO_len tc tk tn).1
      have x2 : (b.take e).drop (a + (TG.tagO tc tk tn).length) = r := by rw [← List.drop_drop, x1, List.drop_left']; rfl
      have rb : isB r := fun y hy => xb y (by rw [x1]; simp [hy])
      obtain ⟨⟨L, lS, le⟩, hl⟩ : ∃ g, gl ((b.take e).drop (a + (TG.tagO tc tk tn).length)) = g := ⟨_, rfl⟩
      have hl2 := hl
      rw [x2] at hl2
      by_cases le0 : le = 0
      case neg =>
        have := gl_n r (by rw [hl2]; exact le0)
        rw [hl2] at this
        simp only [Prod.mk.injEq] at this
        obtain ⟨rfl, rfl, _⟩ := this
        rw [rd_eq (ll := 0) hg hl] at h
        rw [if_neg (by omega), if_neg (by simp)] at h
        split at h
        · cases h
        split at h
        · cases h
        split at h
        · cases h
        first | cases h | (rw [if_pos le0] at h; cases h)
      subst le0
      obtain ⟨r2, x3, rfl, l1, l2⟩ := gl_back r rb L lS hl2
      rw [rd_eq hg hl] at h
      rw [if_neg (by omega), if_neg (by simp)] at h
      by_cases hd : 16 < d
      · rw [if_pos hd] at h; cases h
      rw [if_neg hd] at h
      by_cases hm2 : m = 8192
      · rw [if_pos hm2] at h; cases h
      rw [if_neg hm2, if_neg (by omega), if_neg (by simp)] at h
      obtain ⟨n, rfl⟩ := Int.eq_ofNat_of_zero_le l1
      rw [Int.toNat_natCast] at h
      generalize hp : a + (TG.tagO tc tk tn).length + (lenO (n : Int)).length = p at h
      by_cases hq : e < p + n
      · rw [if_pos hq] at h; cases h
      rw [if_neg hq] at h
      rw [x3, List.length_append] at xl
      have ll1 := (lenO_len (n : Int)).1
      have x4 : (b.take p).drop a = TG.tagO tc tk tn ++ lenO (n : Int) := by
        rw [tkdr b (e := e) (by omega) (by omega), x1, x3, ← List.append_assoc, List.take_left']
        rw [List.length_append]; omega
      have cl : ((b.take (p + n)).drop p).length = n := by rw [xs_len b (by omega)]; omega
      have cb : isB ((b.take (p + n)).drop p) := fun y hy => hb y (List.mem_of_mem_take (List.mem_of_mem_drop hy))
      have key : (b.take (p + n)).drop a = TG.tagO tc tk tn ++ (lenO (((b.take (p + n)).drop p).length : Int) ++ (b.take (p + n)).drop p) := by
        rw [drop_at (p := p) (by omega) (by omega), x4, cl, List.append_assoc]
      cases tk with
      | false =>
        rw [if_pos rfl] at h
        cases h
        refine ⟨?_, ?_, ?_, by omega, by omega, by simp [cnt, cnts], by omega, by simp [dep, deps]; omega⟩
        · unfold okc; exact ⟨t2, t3, cb, trivial⟩
        · unfold vld; exact ⟨t1, fun q => absurd q (by decide), fun _ => rfl, trivial⟩
        · rw [enc, encs, List.append_nil]; exact key
      | true =>
        rw [if_neg (by simp)] at h
        cases hr : rds f b p (p + n) (d + 1) (m + 1) with
        | inr y => rw [hr] at h; obtain ⟨y1, y2⟩ := y; cases h
        | inl y =>
          obtain ⟨s, mm⟩ := y
          rw [hr] at h
          cases h
          have R := ih2 b p (p + n) (d + 1) (m + 1) s _ hb (by omega) (by omega) (by omega) (by omega) hr
          refine ⟨?_, ?_, ?_, by omega, by omega, by rw [R.n, cnt]; omega, R.k, ?_⟩
          · unfold okc; exact ⟨t2, t3, isB_nil, R.o⟩
          · unfold vld; exact ⟨t1, fun _ => rfl, fun q => absurd q (by decide), R.v⟩
          · rw [enc, List.nil_append, ← R.x]; exact key
          · have := R.d; unfold dep; omega
    · rw [rds] at h
      by_cases q : e ≤ a
      · rw [if_pos q] at h
        cases h
        obtain rfl : a = e := by omega
        exact ⟨trivial, trivial, by rw [encs, List.drop_eq_nil_of_le]; rw [List.length_take]; omega, by simp [cnts], hm, by simp [deps]; omega⟩
      rw [if_neg q] at h
      cases hr : rd f b a e d m with
      | bad x y => rw [hr] at h; cases h
      | ok c a' mm =>
        rw [hr] at h
        simp only at h
        have R := ih1 b a e d m c a' mm hb he ha hm hr
        cases hr2 : rds f b a' e d mm with
        | inr y => rw [hr2] at h; cases h
        | inl y =>
          obtain ⟨s2, m2⟩ := y
          rw [hr2] at h
          cases h
          have R2 := ih2 b a' e d mm s2 m' hb he R.r R.k hd hr2
          refine ⟨⟨R.o, R2.o⟩, ⟨R.v, R2.v⟩, ?_, by rw [R2.n, R.n, cnts]; omega, R2.k, ?_⟩
          · rw [drop_at (p := a') (by have := R.l; omega) R.r, R.x, R2.x, encs]
          · have a1 := R.d
            have a2 := R2.d
            unfold deps; omega
theorem rd_back (f : Nat) (b : List Int) (a e : Nat) (d m : Int) (c : Cr) (a' : Nat) (m' : Int) (hb : isB b) (he : e ≤ b.length) (ha : a ≤ e) (hm : m ≤ 8192) (h : rd f b a e d m = .ok c a' m') : Rok b a e d m c a' m' := (back f).1 b a e d m c a' m' hb he ha hm h
theorem bad_ne : ∀ f : Nat, (∀ (b : List Int) (a e : Nat) (d m : Int) (x y : Int), rd f b a e d m = .bad x y → y ≠ 0) ∧ (∀ (b : List Int) (a e : Nat) (d m : Int) (x y : Int), rds f b a e d m = .inr (x, y) → y ≠ 0) := by
  intro f
  induction f with
  | zero => exact ⟨fun b a e d m x y h => by rw [rd] at h; cases h; decide, fun b a e d m x y h => by rw [rds] at h; cases h; decide⟩
  | succ f ih =>
    refine ⟨fun b a e d m x y h => ?_, fun b a e d m x y h => ?_⟩
    · rw [rd] at h
      split at h
      · cases h; decide
      split at h
      · cases h; assumption
      split at h
      · cases h; decide
      split at h
      · cases h; decide
      split at h
      · cases h; decide
      split at h
      · cases h; assumption
      split at h
      · cases h; decide
      simp only at h
      split at h
      · cases h
      split at h
      · cases h
      · rename_i hq; cases h; exact ih.2 _ _ _ _ _ _ _ hq
    · rw [rds] at h
      split at h
      · cases h
      split at h
      · rename_i hq; cases h; exact ih.1 _ _ _ _ _ _ _ hq
      · split at h
        · cases h
        · rename_i hq; cases h; exact ih.2 _ _ _ _ _ _ _ hq
mutual
def dec1 : Cr → El
  | .mk c k n b s => .mk c k n k b (some b.length) s.isEmpty (decs1 s) (some s.length)
def decs1 : List Cr → List El
  | [] => []
  | x :: r => dec1 x :: decs1 r
end
mutual
theorem dec1_core : ∀ c : Cr, (dec1 c).core = c
  | .mk c k n b s => by rw [dec1, El.core, decs1_core s]
theorem decs1_core : ∀ s : List Cr, El.cores (decs1 s) = s
  | [] => rfl
  | x :: r => by rw [decs1, El.cores, dec1_core x, decs1_core r]
end
theorem decs1_len : ∀ s : List Cr, (decs1 s).length = s.length
  | [] => rfl
  | x :: r => by rw [decs1, List.length_cons, decs1_len r]; rfl
end Sp
end
section
open Ab Go TabE Sp
namespace E50
theorem lget (f : Bool) (c : Option Nat) (xs : List Int) (hb : isB xs) : Con E 10 96 [.sl f (bs xs) c] (.tup [.int .i64 (gl xs).1, .int .i64 (gl xs).2.1, .int .i64 (gl xs).2.2]) := by
  have use : ∀ v : Int × Int × Int, gl xs = v → Con E 10 96 [.sl f (bs xs) c] (.tup [.int .i64 v.1, .int .i64 v.2.1, .int .i64 v.2.2]) → Con E 10 96 [.sl f (bs xs) c] (.tup [.int .i64 (gl xs).1, .int .i64 (gl xs).2.1, .int .i64 (gl xs).2.2]) := fun v e h => by rw [e]; exact h
  match xs, hb with
  | [], _ => exact P7.get_A f c
  | x :: r, hb =>
    have hx := hb x (by simp)
    by_cases a : x ≤ 127
    · exact use (x, 1, 0) (by rw [gl_cons, if_pos a]) (P7.get_B f c x r hx.1 a)
    by_cases b : x = 128
    · subst b; exact use (0, 0, 10) (by simp [gl_cons]) (P7.get_C0 f c r)
    by_cases b2 : 131 < x
    · exact use (0, 0, 10) (by simp [gl_cons, a, b2]) (P7.get_C1 f c x r (by omega) (by omega))
    by_cases c1 : x = 129
    · subst c1
      match r, hb with
      | [], _ => exact P7.get_D1 f c
      | y :: r, hb =>
        have hy := hb y (by simp)
        by_cases d : y ≤ 127
        · by_cases y0 : y = 0
          · subst y0; exact use (0, 0, 10) (by simp [gl_cons]) (P8.get_Z1 f c r)
          · exact use (0, 0, 10) (by simp [gl_cons, d]) (P8.get_F1 f c y r (by omega) d)
        · exact use (y, 2, 0) (by simp [gl_cons, d]) (P8.get_E1 f c y r (by omega) hy.2)
    by_cases c2 : x = 130
    · subst c2
      match r, hb with
      | [], _ => exact P7.get_D2 f c
      | [y], _ => exact P7.get_D2a f c y
      | y :: z :: r, hb =>
        have hy := hb y (by simp)
        have hz := hb z (by simp)
        by_cases y0 : y = 0
        · subst y0; exact use (0, 0, 10) (by simp [gl_cons]) (P8.get_Z2 f c z r hz.1 hz.2)
        · exact use (256 * y + z, 3, 0) (by simp [gl_cons, y0]) (P8.get_E2 f c y z r (by omega) hy.2 hz.1 hz.2)
    obtain rfl : x = 131 := by omega
    match r, hb with
    | [], _ => exact P7.get_D3 f c
    | [y], _ => exact P7.get_D3a f c y
    | [y, z], _ => exact P7.get_D3b f c y z
    | y :: z :: u :: r, hb =>
      have hy := hb y (by simp)
      have hz := hb z (by simp)
      have hu := hb u (by simp)
      by_cases y0 : y = 0
      · subst y0; exact use (0, 0, 10) (by simp [gl_cons]) (P9.get_Z3 f c z u r hz.1 hz.2 hu.1 hu.2)
      · exact use (256 * (256 * y + z) + u, 4, 0) (by simp [gl_cons, y0]) (P9.get_E3 f c y z u r (by omega) hy.2 hz.1 hz.2 hu.1 hu.2)
end E50
end
section
open Ab Go TabE
attribute [local simp ↓] s_seq s_reg s_regd s_cond s_block s_cons s_consG
attribute [local simp] s_nil s_loop s_round s_lpn s_lpe s_lpr firstReg s_gt s_gf s_wb s_wu s_val s_valN s_skip s_calls s_callP s_cax lookR flatR pureKs s_ret s_rgx s_sqn s_sqr s_sqe s_cdb s_bkn s_bkr s_bke s_exit s_ret' s_skip' s_finr s_finn s_fin1 s_fix s_clean s_gc0 o_tmp o_int o_bool o_nil o_str o_fn o_nil' l_hit l_miss l_nil ol_nil ol_cons ol_some x_move x_assign x_pick pk_t pk_f x_bin bn_s x_un x_extract x_callF cl_no x_callB x_callBF frzV x_conv cvx convA frame0 binA intOp resL resA results1 sealLW AV.pure AV.pureL keepT x_alloc x_box bxx x_build bdx x_buildSlice bsx x_buildSliceF bsf x_load ldx x_store stx x_slice slx x_fieldAddr x_field x_index ixx x_indexAddr iax x_makeSlice msx x_makeSliceF msf x_nilCheck newK genOf setK lookK fillA writeL writeC readC conts TyI.mk1 sliceA boundsA boundsB fitsA numA indexAddrA fieldAddrA partA fieldA indexA appendA copyA builtinA AV.cells chunk gcH reach keysT keepK inKs AV.keys AV.keysL Ty.isAgg eq1 eqL convA.go ltI w_u8 w_u32 w_u64 w_i64 w_fdiv w_tdiv w_tmod IntKind.bits unA sc_int sc_bool sc_str sc_sl sc_ref sc_ptr sc_pel sc_nilp sc_fn sc_nilf sc_if sc_nili sc_agg sc_tup sc_mem bs_pure bs_kl bs_length bs_cells bs_all sl_row sealRow sealY sl_int sl_bool sl_str sl_sl sl_nilp sl_nilf sl_nili sl_pel sl_agg sl_tup sl_fn sl_if nat_1 bs_cons bs_nil i_beq i_bne x_mkF x_mkI x_tassert x_panic s_pan s_sqp s_bkp s_finp s_fixp s_lpp s_rgp s_retp s_site s_stxN s_stxO x_callT clx El.avs_len
section
open Ab Go TabE Sp E40
namespace E51
theorem aLoop_cl {g : St → Option (AExit × St)} {cl : St → St} {n : Nat} {s s' : St} (h : cl s = cl s') : aLoop g cl n s = aLoop g cl n s' := by cases n <;> simp only [aLoop, h]
end E51
end
end
section
open Ab Go TabE
attribute [local simp ↓] s_seq s_reg s_regd s_cond s_block s_cons s_consG s_regD
attribute [local simp] s_nil s_loop s_round s_lpn s_lpe s_lpr firstReg s_gt s_gf s_wb s_wu s_val s_valN s_skip s_calls s_callP s_cax lookR flatR pureKs s_ret s_rgx s_sqn s_sqr s_sqe s_cdb s_bkn s_bkr s_bke s_exit s_ret' s_skip' s_finr s_finn s_fin1 s_fix s_clean s_gc0 o_tmp o_int o_bool o_nil o_str o_fn o_nil' l_hit l_miss l_nil ol_nil ol_cons ol_some x_move x_assign x_pick pk_t pk_f x_bin bn_s x_un x_extract x_callF cl_no x_callB x_callBF frzV x_conv cvx convA frame0 binA intOp resL resA results1 sealLW AV.pure AV.pureL keepT x_alloc x_box bxx x_build bdx x_buildSlice bsx x_buildSliceF bsf x_load ldx x_store stx x_slice slx x_fieldAddr x_field x_index ixx x_indexAddr iax x_makeSlice msx x_makeSliceF msf x_nilCheck newK genOf setK lookK fillA writeL writeC readC conts TyI.mk1 sliceA boundsA boundsB fitsA numA indexAddrA fieldAddrA partA fieldA indexA appendA copyA builtinA AV.cells chunk gcH reach keysT keepK inKs AV.keys AV.keysL Ty.isAgg eq1 eqL convA.go ltI w_u8 w_u32 w_u64 w_i64 w_fdiv w_tdiv w_tmod IntKind.bits unA sc_int sc_bool sc_str sc_sl sc_ref sc_ptr sc_pel sc_nilp sc_fn sc_nilf sc_if sc_nili sc_agg sc_tup sc_mem bs_pure bs_kl bs_length bs_cells bs_all sl_row sealRow sealY sl_int sl_bool sl_str sl_sl sl_nilp sl_nilf sl_nili sl_pel sl_agg sl_tup sl_fn sl_if nat_1 bs_cons bs_nil i_beq i_bne x_mkF x_mkI x_tassert x_panic s_pan s_sqp s_bkp s_finp s_fixp s_lpp s_rgp s_retp s_site s_stxN s_stxO x_callT clx El.avs_len s_dyn0 s_rgy barOf dynChk footL dynOK disjK keysOp opVals Op.operands
section
open Ab Go TabE Sp
namespace E53
theorem cutR (f : Bool) (cp : Option Nat) (b : List Int) (a e : Nat) (h1 : a ≤ e) (h2 : e ≤ b.length) : ∀ h, sliceA E 22 (.sl f (bs b) cp) (some (.int .i64 (a : Int))) (some (.int .i64 (e : Int))) none h = some (.sl f (bs ((b.take e).drop a)) (cp.map fun q => q - a)) := by
  intro h
  have t : ((bs b).take e).drop a = bs ((b.take e).drop a) := by simp [bs, List.map_take, List.map_drop]
  simp [sliceA, boundsA, fitsA, numA, boundsB, h1, h2, t, bs_length]
  intro n0 n1
  have : a < b.length := by omega
  exact ⟨.int .u8 b[a], by simp [bs, this], rfl⟩
abbrev Z : List AV := [.int .u8 0, .bool false, .int .u32 0, .sl true [] (some 0), .sl true [] (some 0)]
abbrev zv : AV := .agg [.int .u8 0, .bool false, .int .u32 0, .sl true [] (some 0), .sl true [] (some 0)]
end E53
end
end
section
open Ab Go TabE Sp E40 E53
namespace E55
theorem isB_sub {b : List Int} (hb : isB b) (a e : Nat) : isB ((b.take e).drop a) := fun y hy => hb y (List.mem_of_mem_take (List.mem_of_mem_drop hy))
end E55
end
section
open Ab Go TabE
attribute [local simp ↓] s_seq s_reg s_regd s_cond s_block s_cons s_consG s_regD
attribute [local simp] s_nil s_loop s_round s_lpn s_lpe s_lpr firstReg s_gt s_gf s_wb s_wu s_val s_valN s_skip s_calls s_callP s_cax lookR flatR pureKs s_ret s_rgx s_sqn s_sqr s_sqe s_cdb s_bkn s_bkr s_bke s_exit s_ret' s_skip' s_finr s_finn s_fin1 s_fix s_clean s_gc0 o_tmp o_int o_bool o_nil o_str o_fn o_nil' l_hit l_miss l_nil ol_nil ol_cons ol_some x_move x_assign x_pick pk_t pk_f x_bin bn_s x_un x_extract x_callF cl_no x_callB x_callBF frzV x_conv cvx convA frame0 binA intOp resL resA results1 sealLW AV.pure AV.pureL keepT x_alloc x_box bxx x_build bdx x_buildSlice bsx x_buildSliceF bsf x_load ldx x_store stx x_slice slx x_fieldAddr x_field x_index ixx x_indexAddr iax x_makeSlice msx x_makeSliceF msf x_nilCheck newK genOf setK lookK fillA writeL writeC readC conts TyI.mk1 sliceA boundsA boundsB fitsA numA indexAddrA fieldAddrA partA fieldA indexA appendA copyA builtinA AV.cells chunk gcH reach keysT keepK inKs AV.keys AV.keysL Ty.isAgg eq1 eqL convA.go ltI w_u8 w_u32 w_u64 w_i64 w_fdiv w_tdiv w_tmod IntKind.bits unA sc_int sc_bool sc_str sc_sl sc_ref sc_ptr sc_pel sc_nilp sc_fn sc_nilf sc_if sc_nili sc_agg sc_tup sc_mem bs_pure bs_kl bs_length bs_cells bs_all sl_row sealRow sealY sl_int sl_bool sl_str sl_sl sl_nilp sl_nilf sl_nili sl_pel sl_agg sl_tup sl_fn sl_if nat_1 bs_cons bs_nil i_beq i_bne x_mkF x_mkI x_tassert x_panic s_pan s_sqp s_bkp s_finp s_fixp s_lpp s_rgp s_retp s_site s_stxN s_stxO x_callT clx El.avs_len s_dyn0 s_rgy barOf dynChk footL dynOK disjK keysOp opVals Op.operands sealA AV.scal
section
open Ab Go TabE Sp E53
namespace E56
theorem clipE (f : Bool) (xs : List AV) (c : Option Nat) (hp : AV.pureL xs = true) : Con E 5 99 [.sl f xs c] (.sl f xs (some xs.length)) := by
  refine .of (g := []) (by simp [AV.pureL, AV.pure]) ?_
  rw [aCall_fn rfl E_fn99 (by simp [AV.pureL, AV.pure]) (Nat.le_of_ble_eq_true rfl) rfl rfl, body_99, c99]
  simp [hp]
abbrev R (fl : Bool) (b : List Int) (cp : Option Nat) (m : Int) : AObj := bx [.sl fl (bs b) cp, .int .i64 m]
theorem R_keys (fl b cp m) : AV.keysL (R fl b cp m).cells = [] := rfl
theorem R_rn (fl b cp m φ) : AV.rnL φ (R fl b cp m).cells = (R fl b cp m).cells := rfl
abbrev flt (x y : Int) : AV := .iface 110 (.agg [.int .i64 x, .int .i64 y])
theorem lent (h : Heap) (key : Key) (o : AObj) (hk : lookK h key = some o) (hl : o.live = true) (ko : AV.keysL o.cells = []) (ro : ∀ φ, AV.rnL φ o.cells = o.cells) (slot : Nat) (sr : Bool) (run : List AV → Heap → Option (ARes × Heap)) (x y z : Int) :
    lendA (dd (reach h 3 (AV.keysL [AV.ptr key 0, .int .i64 x, .int .i64 y, .int .i64 z]))) slot h [.ptr key 0, .int .i64 x, .int .i64 y, .int .i64 z] sr run = backR [key] slot h sr (run [.ptr (0, 0, 0) 0, .int .i64 x, .int .i64 y, .int .i64 z] [((0, 0, 0), o)]) := by
  have e0 : AV.keysL [AV.ptr key 0, .int .i64 x, .int .i64 y, .int .i64 z] = [key] := rfl
  rw [e0]
  have e1 : dd (reach h 3 [key]) = [key] := by simp [reach, hk, hl, ko, dd]
  rw [e1]
  unfold lendA
  have e2 : lendH h (inK [key]) [key] = some [((0, 0, 0), o)] := by simp [lendH, hk, inK, posK, ro]
  rw [e2]
  have e3 : closedH h [key] [key] = true := by simp [closedH, hk, ko]
  simp only [e0]
  rw [if_pos ⟨e3, by simp [inKs]⟩]
  have e4 : AV.rnL (inK [key]) [AV.ptr key 0, .int .i64 x, .int .i64 y, .int .i64 z] = [.ptr (0, 0, 0) 0, .int .i64 x, .int .i64 y, .int .i64 z] := by simp [AV.rnL, AV.rn, inK, posK]
  rw [e4]
theorem backK (h hf : Heap) (key : Key) (o' : AObj) (slot : Nat) (vs : List AV) (hp : AV.pureL vs = true) (hk : lookK hf (0, 0, 0) = some o') (hl : o'.live = true) (ko : AV.keysL o'.cells = []) (ro : ∀ φ, AV.rnL φ o'.cells = o'.cells) : Ab.back [key] slot h hf vs = some (vs, setK h key o') := by
  have kv : AV.keysL vs = [] := AV.keysL_pure _ hp
  have rv : ∀ φ, AV.rnL φ vs = vs := fun φ => rnL_pure vs hp
  unfold Ab.back
  have e9 : lentKs 1 = [(0, 0, 0)] := rfl
  have e7 : dd (reach hf 3 ([(0, 0, 0)] ++ [])) = [(0, 0, 0)] := by simp [reach, hk, hl, ko, dd]
  simp only [List.length_singleton, e9, kv, e7, backA]
  have e10 : closedH hf [(0, 0, 0)] [(0, 0, 0)] = true := by simp [closedH, hk, ko]
  rw [if_pos ⟨e10, by rfl, by rfl, by rfl⟩]
  simp [rv, outK, putAll, hk, ro]
theorem op_ok {run : RunF} {slot : Nat} {h hf : Heap} {key : Key} {o o' : AObj} {x y z : Int} {v : AV} (hk : lookK h key = some o) (hl : o.live = true) (ko : AV.keysL o.cells = []) (ro : ∀ φ, AV.rnL φ o.cells = o.cells) (hl' : o'.live = true) (ko' : AV.keysL o'.cells = []) (ro' : ∀ φ, AV.rnL φ o'.cells = o'.cells)
    (hv : v.pure = true) (hr : run 73 [.ptr (0, 0, 0) 0, .int .i64 x, .int .i64 y, .int .i64 z] [((0, 0, 0), o)] = some (.ret v, hf)) (hq : lookK hf (0, 0, 0) = some o') :
    opened [true, false, false, false] true run slot 73 [.ptr key 0, .int .i64 x, .int .i64 y, .int .i64 z] h = some (.ret v, setK h key o') := by
  unfold opened
  have e1 : sealM (sealA 20) [true, false, false, false] h [.ptr key 0, .int .i64 x, .int .i64 y, .int .i64 z] = some ([.ptr key 0, .int .i64 x, .int .i64 y, .int .i64 z], h) := by simp [sealM, sealA, AV.pure]
  rw [e1]
  simp only
  rw [lent h key o hk hl ko ro, hr]
  have e2 : sealA 20 hf v = some (v, hf) := by unfold sealA; rw [if_pos hv]
  simp only [backR, if_true, e2, backV]
  rw [backK h hf key o' slot [v] (by simp [AV.pureL, hv]) hq hl' ko' ro']
theorem op_bad {run : RunF} {slot : Nat} {h hf : Heap} {key : Key} {o o' : AObj} {x y z : Int} {ch : List AV} (hk : lookK h key = some o) (hl : o.live = true) (ko : AV.keysL o.cells = []) (ro : ∀ φ, AV.rnL φ o.cells = o.cells) (hl' : o'.live = true) (ko' : AV.keysL o'.cells = []) (ro' : ∀ φ, AV.rnL φ o'.cells = o'.cells)
    (hv : AV.pureL ch = true) (hr : run 73 [.ptr (0, 0, 0) 0, .int .i64 x, .int .i64 y, .int .i64 z] [((0, 0, 0), o)] = some (.panic ch, hf)) (hq : lookK hf (0, 0, 0) = some o') :
    opened [true, false, false, false] true run slot 73 [.ptr key 0, .int .i64 x, .int .i64 y, .int .i64 z] h = some (.panic ch, setK h key o') := by
  unfold opened
  have e1 : sealM (sealA 20) [true, false, false, false] h [.ptr key 0, .int .i64 x, .int .i64 y, .int .i64 z] = some ([.ptr key 0, .int .i64 x, .int .i64 y, .int .i64 z], h) := by simp [sealM, sealA, AV.pure]
  rw [e1]
  simp only
  rw [lent h key o hk hl ko ro, hr]
  simp only [backR, hv, if_true]
  rw [backK h hf key o' slot [] rfl hq hl' ko' ro']
def panA : Option (AExit × St) → Option (List AV × Option AObj)
  | some (.panic ch, s) => some (ch, lookK s.h (0, 0, 0))
  | _ => none
theorem panA_eq {x : Option (AExit × St)} {ch o} (h : panA x = some (ch, o)) : ∃ s, x = some (.panic ch, s) ∧ lookK s.h (0, 0, 0) = o := by
  unfold panA at h
  split at h
  · cases h; exact ⟨_, rfl, rfl⟩
  · cases h
theorem s_retp2 {E : Env} {call : CallF} {lvl n : Nat} {d r} {t : Fr} {h g : Heap} {ch} : nxc E call lvl n d r ⟨t, h⟩ (some (.panic ch, g)) = some (.panic ch, ⟨t, g⟩) := rfl
def lpE : Code := lp c73 0
abbrev St0 (fl : Bool) (b : List Int) (cp : Option Nat) (c n d m : Int) (a e : Nat) : St := ⟨[(0, .ptr (0, 0, 0) 0), (1, .int .i64 (a : Int)), (2, .int .i64 (e : Int)), (3, .int .i64 d), (8, .ptr (1, 8, 0) 0), (14, .ptr (1, 14, 0) 0)], [((0, 0, 0), R fl b cp m), ((1, 8, 0), bx Z), ((1, 14, 0), bx [.int .u8 c, .bool true, .int .u32 n, .sl true [] (some 0), .sl true [] (some 0)])]⟩
abbrev StR (fl : Bool) (b : List Int) (cp : Option Nat) (c n d m : Int) (a e : Nat) (l : List El) (g : Nat) : St := ⟨[(0, .ptr (0, 0, 0) 0), (1, .int .i64 (a : Int)), (2, .int .i64 (e : Int)), (3, .int .i64 d), (8, .ptr (1, 8, 0) 0), (14, .ptr (1, 14, 0) 0)], [((0, 0, 0), R fl b cp m), ((1, 8, 0), bx Z), ((1, 14, 0), bx [.int .u8 c, .bool true, .int .u32 n, .sl true [] (some 0), .ref (1, 143, g) 0 l.length none]), ((1, 143, g), ⟨El.fl l, true, true, false, 5, true⟩)]⟩
abbrev OkC (q : Nat) (fl : Bool) (b : List Int) (cp : Option Nat) (a e : Nat) (d m : Int) (v : AV) (m' : Int) : Prop := ∀ h, lookK h (0, 0, 0) = some (R fl b cp m) → opened [true, false, false, false] true (aRun E q) 136 73 [.ptr (0, 0, 0) 0, .int .i64 (a : Int), .int .i64 (e : Int), .int .i64 d] h = some (.ret v, setK h (0, 0, 0) (R fl b cp m'))
abbrev BadC (q : Nat) (fl : Bool) (b : List Int) (cp : Option Nat) (a e : Nat) (d m : Int) (x y : Int) (m' : Int) : Prop := ∀ h, lookK h (0, 0, 0) = some (R fl b cp m) → opened [true, false, false, false] true (aRun E q) 136 73 [.ptr (0, 0, 0) 0, .int .i64 (a : Int), .int .i64 (e : Int), .int .i64 d] h = some (.panic [flt x y], setK h (0, 0, 0) (R fl b cp m'))
theorem go0 (q k1 : Nat) (fl b cp) (c n d m : Int) (a e a' : Nat) (m' : Int) (x : El) (hae : a < e) (d0 : 0 ≤ d) (d1 : d ≤ 100) (he : e ≤ 100000000) (C : OkC q fl b cp a e (d + 1) m (.tup [x.av, .int .i64 (a' : Int)]) m') :
    rndO fn73 lpE q k1 (St0 fl b cp c n d m a e) = some (.normal, StR fl b cp c n d m' a' e [x] 0) := by
  have w := w64' (d + 1) (by omega) (by omega)
  have h1 : (a : Int) < e := by omega
  rw [El.av_eq] at C
  simp [lpE, lp, lps, c73, w, h1, hae, C, El.fl_one]
theorem goR (q k1 : Nat) (fl b cp) (c n d m : Int) (a e a' : Nat) (m' : Int) (l : List El) (g : Nat) (x : El) (hae : a < e) (d0 : 0 ≤ d) (d1 : d ≤ 100) (he : e ≤ 100000000) (hl : l.length ≤ 100000000) (C : OkC q fl b cp a e (d + 1) m (.tup [x.av, .int .i64 (a' : Int)]) m') :
    rndO fn73 lpE q k1 (StR fl b cp c n d m a e l g) = some (.normal, StR fl b cp c n d m' a' e (l ++ [x]) (g + 1)) := by
  have w := w64' (d + 1) (by omega) (by omega)
  have h1 : (a : Int) < e := by omega
  rw [El.av_eq] at C
  have cs5 : (l.length + 1) * 56 ≤ 70368744177664 := by omega
  have f1 := El.fl_len l
  have f2 := El.fl_keys l
  have f3 : (El.fl l).take (l.length * 5) = El.fl l := by rw [El.fl_take, List.take_length]
  have f4 := El.fl_pure l
  have f5 := El.fl_scal l
  simp [lpE, lp, lps, c73, w, h1, hae, C, El.fl_snoc, f1, f2, f3, f4, f5, cs5, El.fl_keysr]
theorem bad0 (q k1 : Nat) (fl b cp) (c n d m : Int) (a e : Nat) (x y m' : Int) (hae : a < e) (d0 : 0 ≤ d) (d1 : d ≤ 100) (he : e ≤ 100000000) (C : BadC q fl b cp a e (d + 1) m x y m') :
    panA (rndO fn73 lpE q k1 (St0 fl b cp c n d m a e)) = some ([flt x y], some (R fl b cp m')) := by
  have w := w64' (d + 1) (by omega) (by omega)
  have h1 : (a : Int) < e := by omega
  simp [lpE, lp, lps, c73, w, h1, hae, C, panA, s_retp2]
theorem badR (q k1 : Nat) (fl b cp) (c n d m : Int) (a e : Nat) (l : List El) (g : Nat) (x y m' : Int) (hae : a < e) (d0 : 0 ≤ d) (d1 : d ≤ 100) (he : e ≤ 100000000) (C : BadC q fl b cp a e (d + 1) m x y m') :
    panA (rndO fn73 lpE q k1 (StR fl b cp c n d m a e l g)) = some ([flt x y], some (R fl b cp m')) := by
  have w := w64' (d + 1) (by omega) (by omega)
  have h1 : (a : Int) < e := by omega
  have f2 := El.fl_keys l
  simp [lpE, lp, lps, c73, w, h1, hae, C, panA, s_retp2, f2]
theorem last0 (q k1 : Nat) (fl b cp) (c n d m : Int) (a e : Nat) (hae : e ≤ a) :
    rndO fn73 lpE q k1 (St0 fl b cp c n d m a e) = some (.exit 2, ⟨[(0, .ptr (0, 0, 0) 0), (1, .int .i64 (a : Int)), (2, .int .i64 (e : Int)), (3, .int .i64 d), (8, .ptr (1, 8, 0) 0), (14, .ptr (1, 14, 0) 0), (129, .bool false)], (St0 fl b cp c n d m a e).h⟩) := by
  have h1 : ¬ (a : Int) < e := by omega
  have h2 : ¬ a < e := by omega
  simp [lpE, lp, lps, c73, h1, h2, hae]
theorem lastR (q k1 : Nat) (fl b cp) (c n d m : Int) (a e : Nat) (l : List El) (g : Nat) (hae : e ≤ a) :
    rndO fn73 lpE q k1 (StR fl b cp c n d m a e l g) = some (.exit 2, ⟨[(0, .ptr (0, 0, 0) 0), (1, .int .i64 (a : Int)), (2, .int .i64 (e : Int)), (3, .int .i64 d), (8, .ptr (1, 8, 0) 0), (14, .ptr (1, 14, 0) 0), (129, .bool false)], (StR fl b cp c n d m a e l g).h⟩) := by
  have h1 : ¬ (a : Int) < e := by omega
  have h2 : ¬ a < e := by omega
  have f2 := El.fl_keys l
  simp [lpE, lp, lps, c73, h1, h2, hae, f2]
end E56
end
end
