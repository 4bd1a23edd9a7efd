/- Own work, no conditions. -/
import Derived.Test.YtbiildmljbcmeaaLW
section
/- The laws FieldsSequence and FieldsRows at the evaluator. No conditions. -/
open Ab Go TabE Sp E34 F1 F4 F5 F6 F7 F8 F10 F11
set_option maxRecDepth 20000
set_option linter.unusedSimpArgs false
set_option linter.unusedVariables false
set_option maxHeartbeats 8000000
namespace F12
attribute [local simp ↓] s_seq s_reg s_regd s_cond s_block s_cons s_consG s_regD
attribute [local simp] s_nil s_loop s_round s_lpn s_lpe s_lpr firstReg s_gt s_gf s_wb s_wu s_val s_valN s_skip s_calls s_callP s_cax lookR flatR pureKs s_ret s_rgx s_sqn s_sqr s_sqe s_cdb s_bkn s_bkr s_bke s_exit s_ret' s_skip' s_finr s_finn s_fin1 s_fix s_clean s_gc0 o_tmp o_int o_bool o_nil o_str o_fn o_nil' l_hit l_miss l_nil ol_nil ol_cons ol_some x_move x_assign x_pick pk_t pk_f x_bin bn_s x_un x_extract x_callF cl_no x_callB x_callBF frzV x_conv cvx convA frame0 binA intOp resL resA results1 sealLW AV.pure AV.pureL keepT x_alloc x_box bxx x_build bdx x_buildSlice bsx x_buildSliceF bsf x_load ldx x_store stx x_slice slx x_fieldAddr x_field x_index ixx x_indexAddr iax x_makeSlice msx x_makeSliceF msf x_nilCheck newK genOf setK lookK fillA writeL writeC readC conts TyI.mk1 sliceA boundsA boundsB fitsA numA indexAddrA fieldAddrA partA fieldA indexA appendA copyA builtinA AV.cells chunk gcH reach keysT keepK inKs AV.keys AV.keysL Ty.isAgg eq1 eqL convA.go ltI w_u8 w_u32 w_u64 w_i64 w_fdiv w_tdiv w_tmod IntKind.bits unA sc_int sc_bool sc_str sc_sl sc_ref sc_ptr sc_pel sc_nilp sc_fn sc_nilf sc_if sc_nili sc_agg sc_tup sc_mem bs_pure bs_kl bs_length bs_cells bs_all sl_row sealRow sealY sl_int sl_bool sl_str sl_sl sl_nilp sl_nilf sl_nili sl_pel sl_agg sl_tup sl_fn sl_if nat_1 bs_cons bs_nil i_beq i_bne x_mkF x_mkI x_tassert x_panic s_pan s_sqp s_bkp s_finp s_fixp s_lpp s_rgp s_retp s_site s_stxN s_stxO x_callT clx El.avs_len s_dyn0 s_rgy barOf dynChk footL dynOK disjK keysOp opVals Op.operands
theorem seq (f' f : Bool) (q c : Option Nat) (cs : List Int) (l : List Fa) (x : Int) (hb : isB cs) (hl : ∀ a ∈ l, a.ok) (ll : l.length ≤ 9223372036854775807) (x0 : 0 ≤ x) (x1 : x < 256) : ∃ N, Con E N 10 [.agg [.sl f' (bs cs) q], .sl f (l.map Fa.av) c, .int .u8 x] (.bool true) := by
  obtain ⟨tw, _, _, ts⟩ := ofT_Tw cs hb
  have C1 := ofT_con f' cs q hb
  generalize ofT cs = e at C1 tw ts
  obtain ⟨N1, C7⟩ := F1.same e e tw.ok rfl
  have C2 := F6.fields f c l hl ll
  have lf : (fds l).length ≤ 20 := by unfold fds; rw [List.length_map, List.length_take]; omega
  generalize fds l = m at C2 lf
  obtain ⟨t, ht⟩ : ∃ t, (if x % 8 = 7 then tg (x / 8) else tg 0) = t := ⟨_, rfl⟩
  have T0 := F1.tag 0 (by omega) (by omega)
  have T1 := F1.tag (x / 8) (by omega) (by omega)
  have S1 := F8.sequence m.isEmpty (if m.isEmpty then some 0 else none) m e t (by omega) (by omega)
  have S2 := F10.rsequence m.isEmpty (if m.isEmpty then some 0 else none) m e t (by omega) (by omega)
  obtain ⟨K, hK⟩ : ∃ K, N1 + m.length + 600 = K := ⟨_, rfl⟩
  have w1 := C1 K (by omega) 0
  have w2 := C2 K (by omega) 0
  have w3 := T0 K (by omega) 0
  have w4 := T1 K (by omega) 0
  have w5 := S1 K (by omega) 0
  have w6 := S2 K (by omega) 0
  have w7 := C7 K (by omega) 0
  have lv := LW.l12 K (by omega) 0
  have t1 : Int.tmod x 8 = x % 8 := Int.tmod_eq_emod_of_nonneg x0
  have t2 : Int.tdiv x 8 = x / 8 := Int.tdiv_eq_ediv_of_nonneg x0
  have m1 : (x / 8) % 256 = x / 8 := Int.emod_eq_of_lt (by omega) (by omega)
  have pm := F8.fld_pure m
  rw [El.av_eq] at w1 w5 w6 w7
  obtain ⟨mv, hm⟩ : ∃ mv, m.map Fld.av = mv := ⟨_, rfl⟩
  obtain ⟨ch, hch⟩ : ∃ ch, (if m.isEmpty then some 0 else none : Option Nat) = ch := ⟨_, rfl⟩
  rw [hm] at w2 w5 w6 pm
  rw [hch] at w2 w5 w6
  refine ⟨K + 1, con_of E_fn10 (by simp [AV.pureL, AV.pure]) (Nat.le_of_ble_eq_true rfl) rfl rfl (g := []) ?_⟩
  rw [body_10, c10]
  cases hs : sq e t m with
  | inl o =>
    have so := sq_ok hs
    rw [hs, qF] at w5
    rw [hs, qR] at w6
    have w8 := F1.ints false o.isEmpty (some o.length) (if o.isEmpty then some 0 else none) o (by omega) K (by omega) 0
    have w9 := F5.fault1 [] 0 (by simp) K (by simp; omega) 0
    try simp [fF, fR] at w5
    try simp [fF, fR] at w6
    try simp [fF, fR] at w8
    try simp [fF, fR] at w9
    have lo := ns_len o
    have po := ns_pure o
    by_cases h7 : x % 8 = 7
    · rw [if_pos h7] at ht; subst ht
      simp [w1, w2, w3, w4, w5, w6, w7, w8, w9, lv, t1, t2, m1, h7, pm, lo, po]
    · rw [if_neg h7] at ht; subst ht
      simp [w1, w2, w3, w4, w5, w6, w7, w8, w9, lv, t1, t2, m1, h7, pm, lo, po]
  | inr p =>
    obtain ⟨er, p⟩ := p
    have sb := sq_bad hs
    rw [hs, qF] at w5
    rw [hs, qR] at w6
    have w8 := F1.ints true true (some 0) (some 0) [] (by simp) K (by simp; omega) 0
    have w9 := F5.fault1 p er (by omega) K (by omega) 0
    try simp [fF, fR] at w5
    try simp [fF, fR] at w6
    try simp [fF, fR] at w8
    try simp [fF, fR] at w9
    have lo := ns_len p
    have po := ns_pure p
    by_cases h7 : x % 8 = 7
    · rw [if_pos h7] at ht; subst ht
      simp [w1, w2, w3, w4, w5, w6, w7, w8, w9, lv, t1, t2, m1, h7, pm, lo, po]
    · rw [if_neg h7] at ht; subst ht
      simp [w1, w2, w3, w4, w5, w6, w7, w8, w9, lv, t1, t2, m1, h7, pm, lo, po]
def b11 : Code := lp c11 0
abbrev S11 (e : El) (f : Bool) (c : Option Nat) (m : List Fld) (o : List Int) (i j : Nat) : St := ⟨[(5, .ptr (1, 5, 0) 0), (6, .sl f (m.map Fld.av) c), (7, .sl false (ns o) (some o.length)), (9, .int .i64 (j : Int)), (10, .int .i64 (i : Int))], [((1, 5, 0), bx (ec e))]⟩
theorem skip (q k1 : Nat) (e f c) (m : List Fld) (o : List Int) (i j : Nat) (x : Fld) (hx : m[i]? = some x) (hv : o[i]? = some (-1)) (ho : x.opt = true) (lm : m.length ≤ 1000) : rnd fn11 b11 q k1 (S11 e f c m o i j) = some (.normal, S11 e f c m o (i + 1) j) := by
  have hi : i < m.length := (List.getElem?_eq_some_iff.1 hx).1
  have ix := fd_at f c m i x hx
  have iv := int_at false (some o.length) o i (-1) hv
  have w := w64' ((i : Int) + 1) (by omega) (by omega)
  simp [b11, lp, lps, c11, -indexAddrA, ix, iv, w, hi, ho]
theorem step (q k1 : Nat) (e f c) (m : List Fld) (o : List Int) (i j : Nat) (x : Fld) (y : El) (hx : m[i]? = some x) (hy : e.s[j]? = some y) (hv : o[i]? = some (j : Int)) (hm : F7.mt x y = true) (lm : m.length ≤ 1000) (le : e.s.length ≤ 1000) : rnd fn11 b11 q k1 (S11 e f c m o i j) = some (.normal, S11 e f c m o (i + 1) (j + 1)) := by
  have hi : i < m.length := (List.getElem?_eq_some_iff.1 hx).1
  have hj : j < e.s.length := (List.getElem?_eq_some_iff.1 hy).1
  have ix := fd_at f c m i x hx
  have iy := fun hp => El.at_ e.fs e.cs e.s j y hy hp
  have iv := int_at false (some o.length) o i j hv
  have w := w64' ((i : Int) + 1) (by omega) (by omega)
  have w2 := w64' ((j : Int) + 1) (by omega) (by omega)
  have n1 : ¬ (j : Int) = -1 := by omega
  have n2 : ¬ (e.s.length : Int) ≤ j := by omega
  have n3 : ¬ e.s.length ≤ j := by omega
  rcases F9.mt_cases x y with ⟨_, ha | ⟨ha, a1, a2, a3⟩⟩ | ⟨h, _⟩
  · simp [b11, lp, lps, c11, -indexAddrA, ix, iy, iv, w, w2, hi, hj, n1, n2, n3, ha]
  · simp [b11, lp, lps, c11, -indexAddrA, ix, iy, iv, w, w2, hi, hj, n1, n2, n3, ha, a1, a2, a3, fitZ]
  · rw [hm] at h; cases h
theorem last (q k1 : Nat) (e f c) (m : List Fld) (o : List Int) (j : Nat) : rnd fn11 b11 q k1 (S11 e f c m o m.length j) = some (.exit 0, ⟨[(5, .ptr (1, 5, 0) 0), (6, .sl f (m.map Fld.av) c), (7, .sl false (ns o) (some o.length)), (9, .int .i64 (j : Int)), (10, .int .i64 (m.length : Int)), (45, .bool false)], [((1, 5, 0), bx (ec e))]⟩) := by
  simp [b11, lp, lps, c11]
theorem loop (K : Nat) (e : El) (f : Bool) (c : Option Nat) (m : List Fld) (o : List Int) (lm : m.length ≤ 1000) (le : e.s.length ≤ 1000) : ∀ (r : List Fld) (t : List Int) (i j j' k : Nat), m.drop i = r → o.drop i = t → i + r.length = m.length → ck e.s r t j = some j' → r.length < k →
    aLoop (aCode E (aCall E K) (dcall (aRun E K)) K 1 fn11 b11) (cleanS 1 ((firstReg b11).bind fn11.head)) k (S11 e f c m o i j) = some (.exit 0, ⟨[(5, .ptr (1, 5, 0) 0), (6, .sl f (m.map Fld.av) c), (7, .sl false (ns o) (some o.length)), (9, .int .i64 (j' : Int)), (10, .int .i64 (m.length : Int)), (45, .bool false)], [((1, 5, 0), bx (ec e))]⟩)
  | [], t, i, j, j', k, h1, h2, h3, h4, h5 => by
    obtain ⟨k, rfl⟩ : ∃ q, k = q + 1 := ⟨k - 1, by omega⟩
    simp at h3
    subst h3
    cases t with
    | nil => unfold ck at h4; cases h4; exact aLoop_end (last K K e f c m o j) (by simp)
    | cons v t => unfold ck at h4; cases h4
  | x :: r, t, i, j, j', k, h1, h2, h3, h4, h5 => by
    obtain ⟨k, rfl⟩ : ∃ q, k = q + 1 := ⟨k - 1, by omega⟩
    simp only [List.length_cons] at h3 h5
    have hx : m[i]? = some x := by
      have := congrArg (fun l => l[0]?) h1
      simpa [List.getElem?_drop] using this
    have hd : m.drop (i + 1) = r := by
      have := congrArg List.tail h1
      simpa [List.tail_drop] using this
    cases t with
    | nil => unfold ck at h4; cases h4
    | cons v t =>
      have hv : o[i]? = some v := by
        have := congrArg (fun l => l[0]?) h2
        simpa [List.getElem?_drop] using this
      have hd2 : o.drop (i + 1) = t := by
        have := congrArg List.tail h2
        simpa [List.tail_drop] using this
      unfold ck at h4
      by_cases a : v = -1 ∧ x.opt = true
      · rw [if_pos a] at h4
        obtain ⟨rfl, ho⟩ := a
        rw [aLoop_succ (skip K K e f c m o i j x hx hv ho lm)]
        exact loop K e f c m o lm le r t (i + 1) j j' k hd hd2 (by omega) h4 (by omega)
      · rw [if_neg a] at h4
        cases hy : e.s[j]? with
        | none => rw [hy] at h4; cases h4
        | some y =>
          rw [hy] at h4
          simp only at h4
          by_cases b : v = j ∧ F7.mt x y = true
          · rw [if_pos b] at h4
            obtain ⟨rfl, hm⟩ := b
            rw [aLoop_succ (step K K e f c m o i j x y hx hy hv hm lm le)]
            exact loop K e f c m o lm le r t (i + 1) (j + 1) j' k hd hd2 (by omega) h4 (by omega)
          · rw [if_neg b] at h4; cases h4
theorem rows (f' f : Bool) (q c : Option Nat) (cs : List Int) (l : List Fa) (hb : isB cs) (hl : ∀ a ∈ l, a.ok) (ll : l.length ≤ 9223372036854775807) : ∃ N, Con E N 11 [.agg [.sl f' (bs cs) q], .sl f (l.map Fa.av) c] (.bool true) := by
  obtain ⟨tw, _, _, ts⟩ := ofT_Tw cs hb
  have C1 := ofT_con f' cs q hb
  generalize ofT cs = e at C1 tw ts
  have C2 := F6.fields f c l hl ll
  have lf : (fds l).length ≤ 20 := by unfold fds; rw [List.length_map, List.length_take]; omega
  generalize fds l = m at C2 lf
  have T0 := F1.tag 0 (by omega) (by omega)
  have S1 := F8.sequence m.isEmpty (if m.isEmpty then some 0 else none) m e (tg 0) (by omega) (by omega)
  obtain ⟨K, hK⟩ : ∃ K, m.length + 600 = K := ⟨_, rfl⟩
  have w1 := C1 K (by omega) 0
  have w2 := C2 K (by omega) 0
  have w3 := T0 K (by omega) 0
  have w5 := S1 K (by omega) 0
  have lv := LW.l12 K (by omega) 0
  have pm := F8.fld_pure m
  have lmv : (m.map Fld.av).length = m.length := List.length_map ..
  rw [El.av_eq] at w1 w5
  refine ⟨K + 1, con_of E_fn11 (by simp [AV.pureL, AV.pure]) (Nat.le_of_ble_eq_true rfl) rfl rfl (g := []) ?_⟩
  rw [body_11, c11]
  obtain ⟨ch, hch⟩ : ∃ ch, (if m.isEmpty then some 0 else none : Option Nat) = ch := ⟨_, rfl⟩
  obtain ⟨me, hme⟩ : ∃ me, m.isEmpty = me := ⟨_, rfl⟩
  rw [hch, hme] at w2 w5
  cases hs : sq e (tg 0) m with
  | inl o =>
    obtain ⟨so, sk, _⟩ := sq_ok hs
    rw [hs, qF] at w5
    have L := loop K e me ch m o (by omega) (by omega) m o 0 0 e.s.length K rfl rfl (by omega) sk (by omega)
    obtain ⟨mv, hm⟩ : ∃ mv, m.map Fld.av = mv := ⟨_, rfl⟩
    rw [hm] at w2 w5 pm L lmv
    simp [b11, lp, lps, c11, firstReg, S11, hm, so] at L
    try simp [fF] at w5
    have lo := ns_len o
    have po := ns_pure o
    simp [-s_round, w1, w2, w3, w5, L, lv, pm, lo, po, lmv, so]
  | inr p =>
    obtain ⟨er, p⟩ := p
    obtain ⟨sb, lp2⟩ := sq_bad hs
    rw [hs, qF] at w5
    obtain ⟨mv, hm⟩ : ∃ mv, m.map Fld.av = mv := ⟨_, rfl⟩
    rw [hm] at w2 w5 pm lmv
    try simp [fF] at w5
    have lo := ns_len p
    have po := ns_pure p
    have lp3 : (p.length : Int) < 2 := by omega
    simp [w1, w2, w3, w5, lv, pm, lo, po, sb, lp2, lp3]
end F12

end
section
/- The laws FieldsList and FieldsUnder at the evaluator. No conditions. -/
open Ab Go TabE Sp E34 F1 F4 F5 F11
set_option maxRecDepth 20000
set_option linter.unusedSimpArgs false
set_option linter.unusedVariables false
set_option maxHeartbeats 8000000
namespace F13
attribute [local simp ↓] s_seq s_reg s_regd s_cond s_block s_cons s_consG s_regD
attribute [local simp] s_nil s_loop s_round s_lpn s_lpe s_lpr firstReg s_gt s_gf s_wb s_wu s_val s_valN s_skip s_calls s_callP s_cax lookR flatR pureKs s_ret s_rgx s_sqn s_sqr s_sqe s_cdb s_bkn s_bkr s_bke s_exit s_ret' s_skip' s_finr s_finn s_fin1 s_fix s_clean s_gc0 o_tmp o_int o_bool o_nil o_str o_fn o_nil' l_hit l_miss l_nil ol_nil ol_cons ol_some x_move x_assign x_pick pk_t pk_f x_bin bn_s x_un x_extract x_callF cl_no x_callB x_callBF frzV x_conv cvx convA frame0 binA intOp resL resA results1 sealLW AV.pure AV.pureL keepT x_alloc x_box bxx x_build bdx x_buildSlice bsx x_buildSliceF bsf x_load ldx x_store stx x_slice slx x_fieldAddr x_field x_index ixx x_indexAddr iax x_makeSlice msx x_makeSliceF msf x_nilCheck newK genOf setK lookK fillA writeL writeC readC conts TyI.mk1 sliceA boundsA boundsB fitsA numA indexAddrA fieldAddrA partA fieldA indexA appendA copyA builtinA AV.cells chunk gcH reach keysT keepK inKs AV.keys AV.keysL Ty.isAgg eq1 eqL convA.go ltI w_u8 w_u32 w_u64 w_i64 w_fdiv w_tdiv w_tmod IntKind.bits unA sc_int sc_bool sc_str sc_sl sc_ref sc_ptr sc_pel sc_nilp sc_fn sc_nilf sc_if sc_nili sc_agg sc_tup sc_mem bs_pure bs_kl bs_length bs_cells bs_all sl_row sealRow sealY sl_int sl_bool sl_str sl_sl sl_nilp sl_nilf sl_nili sl_pel sl_agg sl_tup sl_fn sl_if nat_1 bs_cons bs_nil i_beq i_bne x_mkF x_mkI x_tassert x_panic s_pan s_sqp s_bkp s_finp s_fixp s_lpp s_rgp s_retp s_site s_stxN s_stxO x_callT clx El.avs_len s_dyn0 s_rgy barOf dynChk footL dynOK disjK keysOp opVals Op.operands
def b14 : Code := lp c14 0
abbrev S14 (e : El) (u : Int) (i : Nat) : St := ⟨[(2, .int .u32 u), (7, .ptr (1, 7, 0) 0), (9, .int .i64 (i : Int))], [((1, 7, 0), bx (ec e))]⟩
theorem exS_len (e : El) (u : Int) : (exS e u).1.length ≤ 1 := by unfold exS; split <;> (try split) <;> (try split) <;> simp
theorem lsS_len (e : El) (t x y) : (lsS e t x y).1.length ≤ 1 := by unfold lsS; split <;> (try split) <;> (try split) <;> (try split) <;> (try split) <;> simp
theorem go14 (q k1 : Nat) (e y : El) (u : Int) (i : Nat) (hy : e.s[i]? = some y) (le : e.s.length ≤ 1000)
    (A : ∀ w h, aCall E q 0 58 [y.av, .int .u32 w] h = some (.ret (fF (exS y w).1 (exS y w).2), h)) (B : ∀ w h, aCall E q 0 59 [y.av, .int .u32 w] h = some (.ret (fR (exS y w).1 (exS y w).2), h))
    (C : ∀ w h, aCall E q 0 48 [fF (exS y w).1 (exS y w).2, fR (exS y w).1 (exS y w).2] h = some (.ret (.int .i64 1), h)) :
    rnd fn14 b14 q k1 (S14 e u i) = some (.normal, S14 e u (i + 1)) := by
  have hi : i < e.s.length := (List.getElem?_eq_some_iff.1 hy).1
  have iy := fun hp => El.at_ e.fs e.cs e.s i y hy hp
  have w := w64' ((i : Int) + 1) (by omega) (by omega)
  rw [El.av_eq] at A B
  simp only [fF, fR, List.isEmpty_iff] at A B C
  simp [b14, lp, lps, c14, -indexAddrA, iy, w, hi, A, B, C]
theorem last14 (q k1 : Nat) (e : El) (u : Int) : rnd fn14 b14 q k1 (S14 e u e.s.length) = some (.exit 0, ⟨[(2, .int .u32 u), (7, .ptr (1, 7, 0) 0), (9, .int .i64 (e.s.length : Int)), (40, .bool false)], [((1, 7, 0), bx (ec e))]⟩) := by
  simp [b14, lp, lps, c14]
theorem list (f' : Bool) (q : Option Nat) (cs : List Int) (z0 z1 u : Int) (hb : isB cs) (u0 : 0 ≤ u) (u1 : u < 4294967296) : ∃ N, Con E N 14 [.agg [.sl f' (bs cs) q], .agg [.int .i64 z0, .int .i64 z1], .int .u32 u] (.bool true) := by
  obtain ⟨tw, _, _, ts⟩ := ofT_Tw cs hb
  have C1 := ofT_con f' cs q hb
  generalize ofT cs = e at C1 tw ts
  obtain ⟨t, ht⟩ : ∃ t, (if u % 5 = 4 then tg (u % 256) else tg 0) = t := ⟨_, rfl⟩
  have T0 := F1.tag 0 (by omega) (by omega)
  have T1 := F1.tag (u % 256) (by omega) (by omega)
  have S1 := F5.list e t z0 z1
  have S2 := F5.rlist e t z0 z1
  have sl := lsS_len e t z0 z1
  have sF := F5.fault1 (lsS e t z0 z1).1 (lsS e t z0 z1).2 (by omega)
  have X1 := F5.explicit e u
  have X2 := F5.rexplicit e u
  have xl := exS_len e u
  have xF := F5.fault1 (exS e u).1 (exS e u).2 (by omega)
  obtain ⟨K, hK⟩ : ∃ K, 600 = K := ⟨_, rfl⟩
  have w1 := C1 K (by omega) 0
  have w3 := T0 K (by omega) 0
  have w4 := T1 K (by omega) 0
  have w5 := S1 K (by omega) 0
  have w6 := S2 K (by omega) 0
  have w7 := sF K (by omega) 0
  have w8 := X1 K (by omega) 0
  have w9 := X2 K (by omega) 0
  have w10 := xF K (by omega) 0
  have lv := LW.l12 K (by omega) 0
  have L := loopQ (fn := fn14) (b := b14) (K := K) (k := K) (fun i => S14 e u i) e.s.length rfl (fun i hi => by
    obtain ⟨y, hy⟩ : ∃ y, e.s[i]? = some y := ⟨e.s[i], by simp⟩
    exact go14 K K e y u i hy (by omega) (fun w h => F5.explicit y w K (by omega) 0 h) (fun w h => F5.rexplicit y w K (by omega) 0 h) (fun w h => F5.fault1 _ _ (by have := exS_len y w; omega) K (by have := exS_len y w; omega) 0 h)) (last14 K K e u) (by simp) (by omega)
  simp [b14, lp, lps, c14, firstReg, S14, bx, ec] at L
  have t1 : Int.tmod u 5 = u % 5 := Int.tmod_eq_emod_of_nonneg u0
  rw [El.av_eq] at w1 w5 w6 w8 w9
  simp only [fF, fR, List.isEmpty_iff] at w5 w6 w7 w8 w9 w10
  have lo := ns_len (lsS e t z0 z1).1
  have po := ns_pure (lsS e t z0 z1).1
  have lo2 := ns_len (exS e u).1
  have po2 := ns_pure (exS e u).1
  refine ⟨K + 1, con_of E_fn14 (by simp [AV.pureL, AV.pure]) (Nat.le_of_ble_eq_true rfl) rfl rfl (g := []) ?_⟩
  rw [body_14, c14]
  by_cases h4 : u % 5 = 4
  · rw [if_pos h4] at ht; subst ht
    simp [-s_round, w1, w3, w4, w5, w6, w7, w8, w9, w10, L, lv, t1, h4, lo, po, lo2, po2]
  · rw [if_neg h4] at ht; subst ht
    simp [-s_round, w1, w3, w4, w5, w6, w7, w8, w9, w10, L, lv, t1, h4, lo, po, lo2, po2]
end F13

end
section
/- fields.Under at the evaluator: the row that it makes is given. No conditions. -/
open Ab Go TabE Sp E34 F1 F4 F5 F7 F11
set_option maxRecDepth 20000
set_option linter.unusedSimpArgs false
set_option linter.unusedVariables false
set_option maxHeartbeats 8000000
namespace F14
attribute [local simp ↓] s_seq s_reg s_regd s_cond s_block s_cons s_consG s_regD
attribute [local simp] s_nil s_loop s_round s_lpn s_lpe s_lpr firstReg s_gt s_gf s_wb s_wu s_val s_valN s_skip s_calls s_callP s_cax lookR flatR pureKs s_ret s_rgx s_sqn s_sqr s_sqe s_cdb s_bkn s_bkr s_bke s_exit s_ret' s_skip' s_finr s_finn s_fin1 s_fix s_clean s_gc0 o_tmp o_int o_bool o_nil o_str o_fn o_nil' l_hit l_miss l_nil ol_nil ol_cons ol_some x_move x_assign x_pick pk_t pk_f x_bin bn_s x_un x_extract x_callF cl_no x_callB x_callBF frzV x_conv cvx convA frame0 binA intOp resL resA results1 sealLW AV.pure AV.pureL keepT x_alloc x_box bxx x_build bdx x_buildSlice bsx x_buildSliceF bsf x_load ldx x_store stx x_slice slx x_fieldAddr x_field x_index ixx x_indexAddr iax x_makeSlice msx x_makeSliceF msf x_nilCheck newK genOf setK lookK fillA writeL writeC readC conts TyI.mk1 sliceA boundsA boundsB fitsA numA indexAddrA fieldAddrA partA fieldA indexA appendA copyA builtinA AV.cells chunk gcH reach keysT keepK inKs AV.keys AV.keysL Ty.isAgg eq1 eqL convA.go ltI w_u8 w_u32 w_u64 w_i64 w_fdiv w_tdiv w_tmod IntKind.bits unA sc_int sc_bool sc_str sc_sl sc_ref sc_ptr sc_pel sc_nilp sc_fn sc_nilf sc_if sc_nili sc_agg sc_tup sc_mem bs_pure bs_kl bs_length bs_cells bs_all sl_row sealRow sealY sl_int sl_bool sl_str sl_sl sl_nilp sl_nilf sl_nili sl_pel sl_agg sl_tup sl_fn sl_if nat_1 bs_cons bs_nil i_beq i_bne x_mkF x_mkI x_tassert x_panic s_pan s_sqp s_bkp s_finp s_fixp s_lpp s_rgp s_retp s_site s_stxN s_stxO x_callT clx El.avs_len s_dyn0 s_rgy barOf dynChk footL dynOK disjK keysOp opVals Op.operands
abbrev ir (p : List Int) (ex : Bool) : AObj := ⟨ns p, true, true, ex, 1, false⟩
def retU : Option (ARes × Heap) → Option (ARes × Option AObj × Option AObj)
  | some (r, h) => some (r, lookK h (0, 0, 0), lookK h (1, 14, 0))
  | none => none
theorem retU_eq {x : Option (ARes × Heap)} {r a b} (h : retU x = some (r, a, b)) : ∃ hf, x = some (r, hf) ∧ lookK hf (0, 0, 0) = a ∧ lookK hf (1, 14, 0) = b := by
  unfold retU at h
  split at h
  · cases h; exact ⟨_, rfl, rfl, rfl⟩
  · cases h
theorem zr_d1 (n : Nat) : (zr (n + 1)).drop 1 = zr n := rfl
theorem zr_t (n : Nat) : (zr (n + 1)).tail = zr n := rfl
theorem zr_dn (n : Nat) : (zr n).drop n = [] := List.drop_eq_nil_of_le (by rw [zr_len]; exact Nat.le_refl _)
theorem uref (K : Nat) (hK : 20 ≤ K) (i e : Int) (p : List Int) (cap : Option Nat) (ex : Bool) (e0 : e ≠ 0) (lp' : p.length ≤ 1000) (hp : p ≠ []) : ∃ hf, (∀ q, K + 1 ≤ q → aRun E q 53 [.int .i64 i, .agg [.ref (0, 0, 0) 0 p.length cap, .int .i64 e]] [((0, 0, 0), ir p ex)] = some (.ret (.agg [.ref (1, 14, 0) 0 (p.length + 1) (some (p.length + 1)), .int .i64 e]), hf)) ∧ lookK hf (0, 0, 0) = some (ir p ex) ∧ lookK hf (1, 14, 0) = some (ir (i :: p) true) := by
  have key : retU (aRun E (K + 1) 53 [.int .i64 i, .agg [.ref (0, 0, 0) 0 p.length cap, .int .i64 e]] [((0, 0, 0), ir p ex)]) = some (.ret (.agg [.ref (1, 14, 0) 0 (p.length + 1) (some (p.length + 1)), .int .i64 e]), some (ir p ex), some (ir (i :: p) true)) := by
    rw [aRun_fn rfl E_fn53 rfl (Nat.le_of_ble_eq_true rfl), body_53, c53]
    have w := w64' (1 + (p.length : Int)) (by omega) (by omega)
    have l0 := ns_len p
    have k0 := ns_keys p
    have s0 := ns_scal p
    have p0 : 0 < p.length := List.length_pos_iff.2 hp
    have tn : (1 + (p.length : Int)).toNat = p.length + 1 := by omega
    have c1 : (1 + (p.length : Int)) ≤ 70368744177664 := by omega
    have c2 : (1 + (p.length : Int)) * 8 ≤ 70368744177664 := by omega
    have c3 : (0 : Int) ≤ 1 + (p.length : Int) := by omega
    have zk := zr_keys p.length
    have zk1 := zr_keys (p.length + 1)
    have ze := zr_eq (p.length + 1)
    have ad : 1 + p.length = p.length + 1 := by omega
    have c4 : (0 : Int) < 1 + (p.length : Int) := by omega
    have c5 : (1 : Int) ≤ 1 + (p.length : Int) := by omega
    have tk : (ns p).take p.length = ns p := by rw [← l0, List.take_length]
    simp [e0, w, l0, k0, s0, tn, c1, c2, c3, c4, c5, zk, zk1, ze, zr_len, zr_d1, zr_t, zr_dn, ad, retU, p0, tk, hp]
  obtain ⟨hf, h1, h2, h3⟩ := retU_eq key
  exact ⟨hf, fun q hq => aRun_le E (K + 1) q hq _ _ _ _ h1, h2, h3⟩
theorem unil (K : Nat) (hK : 20 ≤ K) (i e : Int) (e0 : e ≠ 0) : ∃ hf, (∀ q, K + 1 ≤ q → aRun E q 53 [.int .i64 i, .agg [.sl true [] (some 0), .int .i64 e]] [] = some (.ret (.agg [.ref (1, 14, 0) 0 1 (some 1), .int .i64 e]), hf)) ∧ lookK hf (1, 14, 0) = some (ir [i] true) := by
  have key : retU (aRun E (K + 1) 53 [.int .i64 i, .agg [.sl true [] (some 0), .int .i64 e]] []) = some (.ret (.agg [.ref (1, 14, 0) 0 1 (some 1), .int .i64 e]), none, some (ir [i] true)) := by
    rw [aRun_fn rfl E_fn53 rfl (Nat.le_of_ble_eq_true rfl), body_53, c53]
    simp [e0, retU, w_i64]
  obtain ⟨hf, h1, h2, h3⟩ := retU_eq key
  exact ⟨hf, fun q hq => aRun_le E (K + 1) q hq _ _ _ _ h1, h3⟩
theorem setK_same : ∀ (h : Heap) (key : Key) (o : AObj), lookK h key = some o → setK h key o = h
  | [], key, o, h => by simp [lookK] at h
  | (k, x) :: r, key, o, h => by
    unfold lookK at h
    unfold setK
    by_cases e : k = key
    · rw [if_pos e] at h ⊢; cases h; rw [e]
    · rw [if_neg e] at h ⊢; rw [setK_same r key o h]
theorem op_ref {run : RunF} {slot : Nat} {h hf : Heap} {key : Key} {p : List Int} {ex : Bool} {cap : Option Nat} {i e : Int} (hk : lookK h key = some (ir p ex)) (hr : run 53 [.int .i64 i, .agg [.ref (0, 0, 0) 0 p.length cap, .int .i64 e]] [((0, 0, 0), ir p ex)] = some (.ret (.agg [.ref (1, 14, 0) 0 (p.length + 1) (some (p.length + 1)), .int .i64 e]), hf)) (h1 : lookK hf (0, 0, 0) = some (ir p ex)) (h2 : lookK hf (1, 14, 0) = some (ir (i :: p) true)) :
    opened [true, true] false run slot 53 [.int .i64 i, .agg [.ref key 0 p.length cap, .int .i64 e]] h = some (.ret (.agg [.ref (1, slot, genOf h 1 slot) 0 (p.length + 1) (some (p.length + 1)), .int .i64 e]), setK h (1, slot, genOf h 1 slot) (ir (i :: p) true)) := by
  unfold opened
  have e1 : sealM (sealA 20) [true, true] h [.int .i64 i, .agg [.ref key 0 p.length cap, .int .i64 e]] = some ([.int .i64 i, .agg [.ref key 0 p.length cap, .int .i64 e]], h) := rfl
  rw [e1]
  simp only
  have e0 : AV.keysL [.int .i64 i, .agg [.ref key 0 p.length cap, .int .i64 e]] = [key] := rfl
  rw [e0]
  have k0 := ns_keys p
  have k2 : AV.keysL (AV.int .i64 i :: List.map (AV.int .i64) p) = [] := ns_keys (i :: p)
  have q0 : ∀ φ, AV.rnL φ (ns p) = ns p := fun φ => rnL_pure _ (ns_pure p)
  have e2 : dd (reach h 3 [key]) = [key] := by simp [reach, hk, k0, dd]
  rw [e2]
  unfold lendA
  have e3 : lendH h (inK [key]) [key] = some [((0, 0, 0), ir p ex)] := by simp [lendH, hk, inK, posK, q0]
  rw [e3]
  have e4 : closedH h [key] [key] = true := by simp [closedH, hk, k0]
  simp only [e0]
  rw [if_pos ⟨e4, by simp [inKs]⟩]
  have e5 : AV.rnL (inK [key]) [.int .i64 i, .agg [.ref key 0 p.length cap, .int .i64 e]] = [.int .i64 i, .agg [.ref (0, 0, 0) 0 p.length cap, .int .i64 e]] := by simp [AV.rnL, AV.rn, inK, posK]
  rw [e5, hr]
  have e9 : lentKs 1 = [(0, 0, 0)] := rfl
  have e8 : AV.keysL [AV.agg [.ref (1, 14, 0) 0 (p.length + 1) (some (p.length + 1)), .int .i64 e]] = [(1, 14, 0)] := rfl
  have e7 : dd (reach hf 3 ([(0, 0, 0)] ++ [(1, 14, 0)])) = [(0, 0, 0), (1, 14, 0)] := by simp [reach, h1, h2, k0, k2, dd]
  have e10 : closedH hf [(0, 0, 0), (1, 14, 0)] [(0, 0, 0), (1, 14, 0)] = true := by simp [closedH, h1, h2, k0, k2]
  simp only [backR, Bool.false_eq_true, if_false, backV, Ab.back, List.length_singleton, e8, e9, e7, backA]
  rw [if_pos ⟨e10, by rfl, by rfl, by rfl⟩]
  have q1 : ∀ φ, AV.rnL φ (AV.int .i64 i :: List.map (AV.int .i64) p) = AV.int .i64 i :: List.map (AV.int .i64) p := fun φ => rnL_pure _ (ns_pure (i :: p))
  have sk := setK_same h key _ hk
  simp [AV.rnL, AV.rn, outK, posK, putAll, h1, h2, q0, sk]
  rfl
theorem op_nil {run : RunF} {slot : Nat} {h hf : Heap} {i e : Int} (hr : run 53 [.int .i64 i, .agg [.sl true [] (some 0), .int .i64 e]] [] = some (.ret (.agg [.ref (1, 14, 0) 0 1 (some 1), .int .i64 e]), hf)) (h2 : lookK hf (1, 14, 0) = some (ir [i] true)) :
    opened [true, true] false run slot 53 [.int .i64 i, .agg [.sl true [] (some 0), .int .i64 e]] h = some (.ret (.agg [.ref (1, slot, genOf h 1 slot) 0 1 (some 1), .int .i64 e]), setK h (1, slot, genOf h 1 slot) (ir [i] true)) := by
  unfold opened
  have e1 : sealM (sealA 20) [true, true] h [.int .i64 i, .agg [.sl true [] (some 0), .int .i64 e]] = some ([.int .i64 i, .agg [.sl true [] (some 0), .int .i64 e]], h) := rfl
  rw [e1]
  simp only
  have e0 : AV.keysL [.int .i64 i, .agg [.sl true [] (some 0), .int .i64 e]] = [] := rfl
  rw [e0]
  have e2 : dd (reach h 3 []) = [] := rfl
  rw [e2]
  unfold lendA
  have e3 : lendH h (inK []) [] = some [] := rfl
  rw [e3]
  simp only [e0]
  rw [if_pos ⟨by rfl, by rfl⟩]
  have e5 : AV.rnL (inK []) [.int .i64 i, .agg [.sl true [] (some 0), .int .i64 e]] = [.int .i64 i, .agg [.sl true [] (some 0), .int .i64 e]] := rfl
  rw [e5, hr]
  have e9 : lentKs 0 = [] := rfl
  have e8 : AV.keysL [AV.agg [.ref (1, 14, 0) 0 1 (some 1), .int .i64 e]] = [(1, 14, 0)] := rfl
  have e7 : dd (reach hf 3 ([] ++ [(1, 14, 0)])) = [(1, 14, 0)] := by simp [reach, h2, AV.keysL, AV.keys, dd, ns]
  have e10 : closedH hf [(1, 14, 0)] [(1, 14, 0)] = true := by simp [closedH, h2, AV.keysL, AV.keys, ns]
  simp only [backR, Bool.false_eq_true, if_false, backV, Ab.back, List.length_nil, e8, e9, e7, backA]
  rw [if_pos ⟨e10, by rfl, by rfl, by rfl⟩]
  simp [AV.rnL, AV.rn, outK, posK, putAll, h2, ns]
  rfl
end F14

end
section
/- The law FieldsUnder at the evaluator. No conditions. -/
open Ab Go TabE Sp E34 F1 F4 F5 F7 F11 F14
set_option maxRecDepth 20000
set_option linter.unusedSimpArgs false
set_option linter.unusedVariables false
set_option maxHeartbeats 16000000
namespace F15
attribute [local simp ↓] s_seq s_reg s_regd s_cond s_block s_cons s_consG s_regD
attribute [local simp] s_nil s_loop s_round s_lpn s_lpe s_lpr firstReg s_gt s_gf s_wb s_wu s_val s_valN s_skip s_calls s_callP s_cax lookR flatR pureKs s_ret s_rgx s_sqn s_sqr s_sqe s_cdb s_bkn s_bkr s_bke s_exit s_ret' s_skip' s_finr s_finn s_fin1 s_fix s_clean s_gc0 o_tmp o_int o_bool o_nil o_str o_fn o_nil' l_hit l_miss l_nil ol_nil ol_cons ol_some x_move x_assign x_pick pk_t pk_f x_bin bn_s x_un x_extract x_callF cl_no x_callB x_callBF frzV x_conv cvx convA frame0 binA intOp resL resA results1 sealLW AV.pure AV.pureL keepT x_alloc x_box bxx x_build bdx x_buildSlice bsx x_buildSliceF bsf x_load ldx x_store stx x_slice slx x_fieldAddr x_field x_index ixx x_indexAddr iax x_makeSlice msx x_makeSliceF msf x_nilCheck newK genOf setK lookK fillA writeL writeC readC conts TyI.mk1 sliceA boundsA boundsB fitsA numA indexAddrA fieldAddrA partA fieldA indexA appendA copyA builtinA AV.cells chunk gcH reach keysT keepK inKs AV.keys AV.keysL Ty.isAgg eq1 eqL convA.go ltI w_u8 w_u32 w_u64 w_i64 w_fdiv w_tdiv w_tmod IntKind.bits unA sc_int sc_bool sc_str sc_sl sc_ref sc_ptr sc_pel sc_nilp sc_fn sc_nilf sc_if sc_nili sc_agg sc_tup sc_mem bs_pure bs_kl bs_length bs_cells bs_all sl_row sealRow sealY sl_int sl_bool sl_str sl_sl sl_nilp sl_nilf sl_nili sl_pel sl_agg sl_tup sl_fn sl_if nat_1 bs_cons bs_nil i_beq i_bne x_mkF x_mkI x_tassert x_panic s_pan s_sqp s_bkp s_finp s_fixp s_lpp s_rgp s_retp s_site s_stxN s_stxO x_callT clx El.avs_len s_dyn0 s_rgy barOf dynChk footL dynOK disjK keysOp opVals Op.operands
def retO : Option (ARes × Heap) → Option (ARes × Option AObj)
  | some (r, h) => some (r, lookK h (0, 0, 0))
  | none => none
theorem retO_eq {x : Option (ARes × Heap)} {r a} (h : retO x = some (r, a)) : ∃ hf, x = some (r, hf) ∧ lookK hf (0, 0, 0) = a := by
  unfold retO at h
  split at h
  · cases h; exact ⟨_, rfl, rfl⟩
  · cases h
abbrev zf : AV := .agg [.sl true [] (some 0), .int .i64 0]
theorem u0 (K : Nat) (hK : 20 ≤ K) (i : Int) (p : List Int) (cap : Option Nat) (ex : Bool) : ∃ hf, (∀ q, K + 1 ≤ q → aRun E q 53 [.int .i64 i, .agg [.ref (0, 0, 0) 0 p.length cap, .int .i64 0]] [((0, 0, 0), ir p ex)] = some (.ret zf, hf)) ∧ lookK hf (0, 0, 0) = some (ir p ex) := by
  have key : retO (aRun E (K + 1) 53 [.int .i64 i, .agg [.ref (0, 0, 0) 0 p.length cap, .int .i64 0]] [((0, 0, 0), ir p ex)]) = some (.ret zf, some (ir p ex)) := by
    rw [aRun_fn rfl E_fn53 rfl (Nat.le_of_ble_eq_true rfl), body_53, c53]
    have k0 := ns_keys p
    simp [retO, k0]
  obtain ⟨hf, h1, h2⟩ := retO_eq key
  exact ⟨hf, fun q hq => aRun_le E (K + 1) q hq _ _ _ _ h1, h2⟩
theorem u0n (K : Nat) (hK : 20 ≤ K) (i : Int) : ∃ hf, (∀ q, K + 1 ≤ q → aRun E q 53 [.int .i64 i, zf] [] = some (.ret zf, hf)) := by
  have key : retO (aRun E (K + 1) 53 [.int .i64 i, zf] []) = some (.ret zf, none) := by
    rw [aRun_fn rfl E_fn53 rfl (Nat.le_of_ble_eq_true rfl), body_53, c53]
    simp [retO]
  obtain ⟨hf, h1, h2⟩ := retO_eq key
  exact ⟨hf, fun q hq => aRun_le E (K + 1) q hq _ _ _ _ h1⟩
theorem op0 {run : RunF} {slot : Nat} {h hf : Heap} {key : Key} {p : List Int} {ex : Bool} {cap : Option Nat} {i : Int} (hk : lookK h key = some (ir p ex)) (hr : run 53 [.int .i64 i, .agg [.ref (0, 0, 0) 0 p.length cap, .int .i64 0]] [((0, 0, 0), ir p ex)] = some (.ret zf, hf)) (h1 : lookK hf (0, 0, 0) = some (ir p ex)) :
    opened [true, true] false run slot 53 [.int .i64 i, .agg [.ref key 0 p.length cap, .int .i64 0]] h = some (.ret zf, h) := by
  unfold opened
  have e1 : sealM (sealA 20) [true, true] h [.int .i64 i, .agg [.ref key 0 p.length cap, .int .i64 0]] = some ([.int .i64 i, .agg [.ref key 0 p.length cap, .int .i64 0]], h) := rfl
  rw [e1]
  simp only
  have e0 : AV.keysL [.int .i64 i, .agg [.ref key 0 p.length cap, .int .i64 0]] = [key] := rfl
  rw [e0]
  have k0 := ns_keys p
  have q0 : ∀ φ, AV.rnL φ (ns p) = ns p := fun φ => rnL_pure _ (ns_pure p)
  have e2 : dd (reach h 3 [key]) = [key] := by simp [reach, hk, k0, dd]
  rw [e2]
  unfold lendA
  have e3 : lendH h (inK [key]) [key] = some [((0, 0, 0), ir p ex)] := by simp [lendH, hk, inK, posK, q0]
  rw [e3]
  have e4 : closedH h [key] [key] = true := by simp [closedH, hk, k0]
  simp only [e0]
  rw [if_pos ⟨e4, by simp [inKs]⟩]
  have e5 : AV.rnL (inK [key]) [.int .i64 i, .agg [.ref key 0 p.length cap, .int .i64 0]] = [.int .i64 i, .agg [.ref (0, 0, 0) 0 p.length cap, .int .i64 0]] := by simp [AV.rnL, AV.rn, inK, posK]
  rw [e5, hr]
  have e9 : lentKs 1 = [(0, 0, 0)] := rfl
  have e8 : AV.keysL [zf] = [] := rfl
  have e7 : dd (reach hf 3 ([(0, 0, 0)] ++ [])) = [(0, 0, 0)] := by simp [reach, h1, k0, dd]
  have e10 : closedH hf [(0, 0, 0)] [(0, 0, 0)] = true := by simp [closedH, h1, k0]
  simp only [backR, Bool.false_eq_true, if_false, backV, Ab.back, List.length_singleton, e8, e9, e7, backA]
  rw [if_pos ⟨e10, by rfl, by rfl, by rfl⟩]
  have sk := setK_same h key _ hk
  simp [AV.rnL, AV.rn, outK, posK, putAll, h1, q0, sk]
theorem op0n {run : RunF} {slot : Nat} {h hf : Heap} {i : Int} (hr : run 53 [.int .i64 i, zf] [] = some (.ret zf, hf)) : opened [true, true] false run slot 53 [.int .i64 i, zf] h = some (.ret zf, h) := by
  unfold opened
  have e1 : sealM (sealA 20) [true, true] h [.int .i64 i, zf] = some ([.int .i64 i, zf], h) := rfl
  rw [e1]
  simp only
  have e0 : AV.keysL [.int .i64 i, zf] = [] := rfl
  rw [e0]
  have e2 : dd (reach h 3 []) = [] := rfl
  rw [e2]
  unfold lendA
  have e3 : lendH h (inK []) [] = some [] := rfl
  rw [e3]
  simp only [e0]
  rw [if_pos ⟨by rfl, by rfl⟩]
  have e5 : AV.rnL (inK []) [.int .i64 i, zf] = [.int .i64 i, zf] := rfl
  rw [e5, hr]
  have e9 : lentKs 0 = [] := rfl
  have e8 : AV.keysL [zf] = [] := rfl
  have e7 : dd (reach hf 3 ([] ++ [])) = [] := rfl
  have e10 : closedH hf [] [] = true := rfl
  simp only [backR, Bool.false_eq_true, if_false, backV, Ab.back, List.length_nil, e8, e9, e7, backA]
  rw [if_pos ⟨e10, by rfl, by rfl, by rfl⟩]
  rfl
theorem seal1 (n : Nat) (h : Heap) (key : Key) (x : Int) (l : List Int) (cap : Option Nat) (mt ex : Bool) (hk : lookK h key = some ⟨.int .i64 x :: ns l, true, mt, ex, 1, false⟩) : sealA (n + 2) h (.ref key 1 l.length cap) = some (.sl false (ns l) cap, setK h key ⟨.int .i64 x :: ns l, true, false, ex, 1, false⟩) := by
  unfold sealA
  have hp : (AV.ref key 1 l.length cap).pure = false := rfl
  have t : ((AV.int .i64 x :: ns l).drop 1).take (l.length * 1) = ns l := by simp only [List.drop_succ_cons, List.drop_zero, Nat.mul_one]; exact List.take_of_length_le (by rw [ns_len]; exact Nat.le_refl _)
  simp only [hp, Bool.false_eq_true, if_false, hk]
  rw [if_pos ⟨trivial, by rw [List.length_cons, ns_len]; omega, fun _ => trivial⟩, t, sealL_of_pure n _ _ (ns_pure l)]
  have c : chunk false 1 l.length (ns l) = ns l := by
    have := chunk_one (ns l)
    rwa [ns_len] at this
  simp only [c]
def kE : El := .mk 0 true 16 true [] (some 0) false [.mk 0 false 2 false [5] (some 1) true [] (some 0), .mk 0 false 1 false [255] (some 1) true [] (some 0)] (some 2)
theorem known : Con E 30 55 [] kE.av := .of (g := []) rfl (by kernel_rfl)
theorem report0 (e : El) (f : Bool) (p : List AV) (c : Option Nat) : Con E 10 54 [e.av, .agg [.sl f p c, .int .i64 0]] (.tup [.int .i64 0, .int .i64 0]) := by
  refine con_of E_fn54 (by simp [AV.pureL, AV.pure, El.av_pure]) (Nat.le_of_ble_eq_true rfl) rfl rfl (g := []) ?_
  rw [body_54, c54]
  simp [El.av_eq]
theorem ns_fm (p : List Int) : (ns p).flatMap AV.cells = ns p := by
  induction p with
  | nil => rfl
  | cons x r ih => show AV.cells (.int .i64 x) ++ (ns r).flatMap AV.cells = _; rw [ih]; rfl
theorem ns_mem (p : List Int) : (∀ x ∈ ns p, x.scal = true) = True := by
  simp only [eq_iff_iff, iff_true]
  exact List.all_eq_true.1 (ns_scal p)
theorem long (f c) (p : List Int) (n z0 z1 : Int) (h : 20 < p.length) : ∃ N, Con E N 13 [.sl f (ns p) c, .int .u8 n, .agg [.int .i64 z0, .int .i64 z1]] (.bool true) := by
  have lv := LW.l12 300 (by omega) 0
  have h' : (20 : Int) < p.length := by omega
  have lo := ns_len p
  refine ⟨300 + 1, con_ofO E_fn13 (by simp [AV.pureL, AV.pure]) (Nat.le_of_ble_eq_true rfl) rfl (g := []) ?_⟩
  rw [body_13, c13]
  simp [lv, h, h', lo]
theorem zero_nil (f c) (n z0 z1 : Int) (n0 : 0 ≤ n) (n1 : n < 256) (hz : n % 26 = 0) : ∃ N, Con E N 13 [.sl f [] c, .int .u8 n, .agg [.int .i64 z0, .int .i64 z1]] (.bool true) := by
  obtain ⟨h1, U1⟩ := u0n 100 (by omega) z0
  obtain ⟨h2, U2⟩ := u0n 100 (by omega) z1
  obtain ⟨K, hK⟩ : ∃ K, 400 = K := ⟨_, rfl⟩
  have o1 := fun h slot => op0n (slot := slot) (h := h) (U1 K (by omega))
  have o2 := fun h slot => op0n (slot := slot) (h := h) (U2 K (by omega))
  have lv := LW.l12 K (by omega) 0
  have kn := known K (by omega) 0
  have rp := report0 kE true [] (some 0) K (by omega) 0
  have ft := F1.fault true true (some 0) [] 0 (by simp) K (by simp; omega) 0
  try simp at ft
  rw [El.av_eq] at kn rp
  have t1 : Int.tmod n 26 = n % 26 := Int.tmod_eq_emod_of_nonneg n0
  refine ⟨K + 1, con_ofO E_fn13 (by simp [AV.pureL, AV.pure]) (Nat.le_of_ble_eq_true rfl) rfl (g := []) ?_⟩
  rw [body_13, c13]
  simp [lv, kn, rp, ft, t1, hz, o1, o2, w_i64]
theorem zero_row (f c) (p : List Int) (n z0 z1 : Int) (hp : p ≠ []) (hl : p.length ≤ 20) (n0 : 0 ≤ n) (n1 : n < 256) (hz : n % 26 = 0) : ∃ N, Con E N 13 [.sl f (ns p) c, .int .u8 n, .agg [.int .i64 z0, .int .i64 z1]] (.bool true) := by
  obtain ⟨h1, U1, V1⟩ := u0 100 (by omega) z0 p none false
  obtain ⟨h2, U2⟩ := u0n 100 (by omega) z1
  obtain ⟨K, hK⟩ : ∃ K, 400 = K := ⟨_, rfl⟩
  have o1 := fun h slot (hk : lookK h (1, 18, 0) = some (ir p false)) => op0 (slot := slot) hk (U1 K (by omega)) V1
  have o2 := fun h slot => op0n (slot := slot) (h := h) (U2 K (by omega))
  have lv := LW.l12 K (by omega) 0
  have kn := known K (by omega) 0
  have rp := report0 kE false (ns p) none K (by omega) 0
  have ft := F1.fault true true (some 0) [] 0 (by simp) K (by simp; omega) 0
  try simp at ft
  rw [El.av_eq] at kn rp
  have t1 : Int.tmod n 26 = n % 26 := Int.tmod_eq_emod_of_nonneg n0
  have lo := ns_len p
  have po := ns_pure p
  have ko := ns_keys p
  have so := ns_scal p
  have p0 : ¬ p.length = 0 := fun h => hp (List.length_eq_zero_iff.1 h)
  have h20 : ¬ 20 < p.length := by omega
  have h20' : ¬ (20 : Int) < p.length := by omega
  have cp : p.length * 8 ≤ 70368744177664 := by omega
  refine ⟨K + 1, con_ofO E_fn13 (by simp [AV.pureL, AV.pure]) (Nat.le_of_ble_eq_true rfl) rfl (g := []) ?_⟩
  rw [body_13, c13]
  simp [lv, kn, rp, ft, t1, hz, o1, o2, w_i64, lo, po, ko, so, p0, hp, h20, h20', cp, ns_fm, ns_mem, flatV]
end F15

end
section
/- The law FieldsUnder at the evaluator, where there is a fault. No conditions. -/
open Ab Go TabE Sp E34 F1 F4 F5 F7 F11 F14 F15
set_option maxRecDepth 20000
set_option linter.unusedSimpArgs false
set_option linter.unusedVariables false
set_option maxHeartbeats 16000000
namespace F16
attribute [local simp ↓] s_seq s_reg s_regd s_cond s_block s_cons s_consG s_regD
attribute [local simp] s_nil s_loop s_round s_lpn s_lpe s_lpr firstReg s_gt s_gf s_wb s_wu s_val s_valN s_skip s_calls s_callP s_cax lookR flatR pureKs s_ret s_rgx s_sqn s_sqr s_sqe s_cdb s_bkn s_bkr s_bke s_exit s_ret' s_skip' s_finr s_finn s_fin1 s_fix s_clean s_gc0 o_tmp o_int o_bool o_nil o_str o_fn o_nil' l_hit l_miss l_nil ol_nil ol_cons ol_some x_move x_assign x_pick pk_t pk_f x_bin bn_s x_un x_extract x_callF cl_no x_callB x_callBF frzV x_conv cvx convA frame0 binA intOp resL resA results1 sealLW AV.pure AV.pureL keepT x_alloc x_box bxx x_build bdx x_buildSlice bsx x_buildSliceF bsf x_load ldx x_store stx x_slice slx x_fieldAddr x_field x_index ixx x_indexAddr iax x_makeSlice msx x_makeSliceF msf x_nilCheck newK genOf setK lookK fillA writeL writeC readC conts TyI.mk1 sliceA boundsA boundsB fitsA numA indexAddrA fieldAddrA partA fieldA indexA appendA copyA builtinA AV.cells chunk gcH reach keysT keepK inKs AV.keys AV.keysL Ty.isAgg eq1 eqL convA.go ltI w_u8 w_u32 w_u64 w_i64 w_fdiv w_tdiv w_tmod IntKind.bits unA sc_int sc_bool sc_str sc_sl sc_ref sc_ptr sc_pel sc_nilp sc_fn sc_nilf sc_if sc_nili sc_agg sc_tup sc_mem bs_pure bs_kl bs_length bs_cells bs_all sl_row sealRow sealY sl_int sl_bool sl_str sl_sl sl_nilp sl_nilf sl_nili sl_pel sl_agg sl_tup sl_fn sl_if nat_1 bs_cons bs_nil i_beq i_bne x_mkF x_mkI x_tassert x_panic s_pan s_sqp s_bkp s_finp s_fixp s_lpp s_rgp s_retp s_site s_stxN s_stxO x_callT clx El.avs_len s_dyn0 s_rgy barOf dynChk footL dynOK disjK keysOp opVals Op.operands
theorem nz_nil (f c) (n z0 z1 : Int) (n0 : 0 ≤ n) (n1 : n < 256) (hz : ¬ n % 26 = 0) : ∃ N, Con E N 13 [.sl f [] c, .int .u8 n, .agg [.int .i64 z0, .int .i64 z1]] (.bool true) := by
  obtain ⟨h1, U1, V1⟩ := unil 100 (by omega) z0 (n % 26) hz
  obtain ⟨h2, U2, V2, W2⟩ := uref 100 (by omega) z1 (n % 26) [z0] (some 1) true hz (by simp) (by simp)
  obtain ⟨K, hK⟩ : ∃ K, 400 = K := ⟨_, rfl⟩
  have o1 := fun h slot => op_nil (slot := slot) (h := h) (U1 K (by omega)) V1
  have o2 := fun h slot key (hk : lookK h key = some (ir [z0] true)) => op_ref (slot := slot) hk (U2 K (by omega)) V2 W2
  try simp [ns] at o1
  try simp [ns] at o2
  have lv := LW.l12 K (by omega) 0
  have f1 := fun d => F1.fault false false d [z1, z0] (n % 26) (by simp) K (by simp; omega) 0
  have f2 := fun d => F1.fault false false d [z0] (n % 26) (by simp) K (by simp; omega) 0
  have is := fun f g c d => F1.ints f g c d [] (by simp) K (by simp; omega) 0
  simp only [show ns [] = [] from rfl] at is
  try simp [ns] at f1
  try simp [ns] at f2
  have s1 := fun n h key cap mt ex => seal1 n h key z1 [z0] cap mt ex
  try simp [ns] at s1
  have t1 : Int.tmod n 26 = n % 26 := Int.tmod_eq_emod_of_nonneg n0
  have w1 := w64' (n % 26) (by omega) (by omega)
  refine ⟨K + 1, con_ofO E_fn13 (by simp [AV.pureL, AV.pure]) (Nat.le_of_ble_eq_true rfl) rfl (g := []) ?_⟩
  rw [body_13, c13]
  simp [Call.operands, lv, f1, f2, is, s1, t1, w1, hz, o1, o2, w_i64, flatV]
theorem nz_row (f c) (p : List Int) (n z0 z1 : Int) (hp : p ≠ []) (hl : p.length ≤ 20) (n0 : 0 ≤ n) (n1 : n < 256) (hz : ¬ n % 26 = 0) : ∃ N, Con E N 13 [.sl f (ns p) c, .int .u8 n, .agg [.int .i64 z0, .int .i64 z1]] (.bool true) := by
  obtain ⟨h1, U1, V1, W1⟩ := uref 100 (by omega) z0 (n % 26) p none false hz (by omega) hp
  obtain ⟨h2, U2, V2, W2⟩ := uref 100 (by omega) z1 (n % 26) (z0 :: p) (some (p.length + 1)) true hz (by simp; omega) (by simp)
  obtain ⟨K, hK⟩ : ∃ K, 400 = K := ⟨_, rfl⟩
  have o1 := fun h slot (hk : lookK h (1, 18, 0) = some (ir p false)) => op_ref (slot := slot) hk (U1 K (by omega)) V1 W1
  have o2 := fun h slot key (hk : lookK h key = some (ir (z0 :: p) true)) => op_ref (slot := slot) hk (U2 K (by omega)) V2 W2
  simp only [List.length_cons] at o2
  have e1 : ∀ x, ns (x :: p) = .int .i64 x :: ns p := fun x => rfl
  have e2 : ∀ x y, ns (x :: y :: p) = .int .i64 x :: .int .i64 y :: ns p := fun x y => rfl
  have lv := LW.l12 K (by omega) 0
  have f1 := fun d => F1.fault false false d (z1 :: z0 :: p) (n % 26) (by simp; omega) K (by simp; omega) 0
  have f2 := fun d => F1.fault false false d (z0 :: p) (n % 26) (by simp; omega) K (by simp; omega) 0
  have is := fun f g c d => F1.ints f g c d p (by omega) K (by omega) 0
  simp only [List.length_cons] at f1 f2
  have s1 := fun n h key cap mt ex => seal1 n h key z1 (z0 :: p) cap mt ex
  simp only [List.length_cons] at s1
  have t1 : Int.tmod n 26 = n % 26 := Int.tmod_eq_emod_of_nonneg n0
  have w1 := w64' (n % 26) (by omega) (by omega)
  have lo := ns_len p
  have po := ns_pure p
  have ko := ns_keys p
  have so := ns_scal p
  have p0 : ¬ p.length = 0 := fun h => hp (List.length_eq_zero_iff.1 h)
  have h20 : ¬ 20 < p.length := by omega
  have h20' : ¬ (20 : Int) < p.length := by omega
  have cp : p.length * 8 ≤ 70368744177664 := by omega
  have cp2 : (2 + p.length) * 8 ≤ 70368744177664 := by omega
  have cp4 : (1 : Int) < p.length + 1 + 1 := by omega
  have cp5 : (0 : Int) < p.length + 1 + 1 := by omega
  have cp3 : (p.length + 1 + 1) * 8 ≤ 70368744177664 := by omega
  have a2 : 2 + p.length = p.length + 1 + 1 := by omega
  refine ⟨K + 1, con_ofO E_fn13 (by simp [AV.pureL, AV.pure]) (Nat.le_of_ble_eq_true rfl) rfl (g := []) ?_⟩
  rw [body_13, c13]
  simp [ns] at f1 f2 s1
  simp [Call.operands, lv, f1, f2, is, s1, t1, w1, hz, o1, o2, w_i64, lo, po, ko, so, p0, hp, h20, h20', cp, cp2, cp3, cp4, cp5, a2, ns_fm, ns_mem, flatV]
theorem law (f c) (p : List Int) (n z0 z1 : Int) (n0 : 0 ≤ n) (n1 : n < 256) : ∃ N, Con E N 13 [.sl f (ns p) c, .int .u8 n, .agg [.int .i64 z0, .int .i64 z1]] (.bool true) := by
  by_cases hl : 20 < p.length
  · exact long f c p n z0 z1 hl
  by_cases hz : n % 26 = 0
  · by_cases hp : p = []
    · subst hp; exact zero_nil f c n z0 z1 n0 n1 hz
    · exact zero_row f c p n z0 z1 hp (by omega) n0 n1 hz
  · by_cases hp : p = []
    · subst hp; exact nz_nil f c n z0 z1 n0 n1 hz
    · exact nz_row f c p n z0 z1 hp (by omega) n0 n1 hz
end F16

end
