/- Own work, no conditions. -/
import Derived.Test.YtbiildmljbcmeaaF33
set_option maxRecDepth 20000
set_option linter.unusedSimpArgs false
set_option linter.unusedVariables false
set_option maxHeartbeats 16000000
section
open Ab Go TabE
attribute [local simp ↓] s_seq s_reg s_regd s_cond s_block s_cons s_consG s_regD
attribute [local simp] s_nil s_loop s_round s_lpn s_lpe s_lpr firstReg s_gt s_gf s_wb s_wu s_val s_valN s_skip s_calls s_callP s_cax lookR flatR pureKs s_ret s_rgx s_sqn s_sqr s_sqe s_cdb s_bkn s_bkr s_bke s_exit s_ret' s_skip' s_finr s_finn s_fin1 s_fix s_clean s_gc0 o_tmp o_int o_bool o_nil o_str o_fn o_nil' l_hit l_miss l_nil ol_nil ol_cons ol_some x_move x_assign x_pick pk_t pk_f x_bin bn_s x_un x_extract x_callF cl_no x_callB x_callBF frzV x_conv cvx convA frame0 binA intOp resL resA results1 sealLW AV.pure AV.pureL keepT x_alloc x_box bxx x_build bdx x_buildSlice bsx x_buildSliceF bsf x_load ldx x_store stx x_slice slx x_fieldAddr x_field x_index ixx x_indexAddr iax x_makeSlice msx x_makeSliceF msf x_nilCheck newK genOf setK lookK fillA writeL writeC readC conts TyI.mk1 sliceA boundsA boundsB fitsA numA indexAddrA fieldAddrA partA fieldA indexA appendA copyA builtinA AV.cells chunk gcH reach keysT keepK inKs AV.keys AV.keysL Ty.isAgg eq1 eqL convA.go ltI w_u8 w_u32 w_u64 w_i64 w_fdiv w_tdiv w_tmod IntKind.bits unA sc_int sc_bool sc_str sc_sl sc_ref sc_ptr sc_pel sc_nilp sc_fn sc_nilf sc_if sc_nili sc_agg sc_tup sc_mem bs_pure bs_kl bs_length bs_cells bs_all sl_row sealRow sealY sl_int sl_bool sl_str sl_sl sl_nilp sl_nilf sl_nili sl_pel sl_agg sl_tup sl_fn sl_if nat_1 bs_cons bs_nil i_beq i_bne x_mkF x_mkI x_tassert x_panic s_pan s_sqp s_bkp s_finp s_fixp s_lpp s_rgp s_retp s_site s_stxN s_stxO x_callT clx El.avs_len s_dyn0 s_rgy barOf dynChk footL dynOK disjK keysOp opVals Op.operands
section
open Ab Go TabE Sp E34 F1 F4 F5 F31
namespace F34
theorem step_ok (e x : El) (n : Nat) (le : e.s.length ≤ 1000) (hx : e.s[n]? = some x) : Con E 10 85 [e.av, .int .i64 n] (.tup [x.av, .bool true]) := by
  have hl : n < e.s.length := (List.getElem?_eq_some_iff.1 hx).1
  have ix := El.at_ e.fs e.cs e.s n x hx
  have n1 : ¬ ((n : Int) < 0) := by omega
  have n2 : ¬ ((e.s.length : Int) ≤ n) := by omega
  have n3 : ¬ (e.s.length ≤ n) := by omega
  have lv := El.avs_len e.s
  refine con_of E_fn85 (by simp [AV.pureL, AV.pure, El.av_pure]) (Nat.le_of_ble_eq_true rfl) rfl rfl (g := []) ?_
  rw [body_85, c85, El.av_eq x]
  simp [El.av_eq e, -indexAddrA, ix, n1, n2, n3, lv, hl]
theorem step_bad (e : El) (p : Int) (h : p < 0 ∨ (e.s.length : Int) ≤ p) : Con E 10 85 [e.av, .int .i64 p] (.tup [.agg z5, .bool false]) := by
  have lv := El.avs_len e.s
  refine con_of E_fn85 (by simp [AV.pureL, AV.pure, El.av_pure]) (Nat.le_of_ble_eq_true rfl) rfl rfl (g := []) ?_
  rw [body_85, c85]
  by_cases h0 : p < 0
  · simp [El.av_eq e, -indexAddrA, h0, lv]
  · have h1 : (e.s.length : Int) ≤ p := by omega
    simp [El.av_eq e, -indexAddrA, h0, h1, lv]
def bZ : Code := lp c87 0
abbrev SZ (f : Bool) (s : List El) (c : Option Nat) (n : Int) (i : Nat) : St := ⟨[(2, .int .i64 n), (7, .sl f (El.avs s) c), (8, .int .i64 (s.length : Int)), (9, .int .i64 (i : Int))], []⟩
theorem zgo (q k1 : Nat) (f s c) (n : Int) (i : Nat) (x : El) (ls : s.length ≤ 1000) (hx : s[i]? = some x) (n0 : 0 ≤ n) (n1 : n ≤ 10000000) (lx : (enc x.core).length ≤ 1000000) (B : ∀ h, aCall E q 0 21 [x.av] h = some (.ret (.tup [.sl false (bs (enc x.core)) (some (enc x.core).length), .int .i64 0]), h)) : rnd fn87 bZ q k1 (SZ f s c n i) = some (.normal, SZ f s c (n + (enc x.core).length) (i + 1)) := by
  have hi : i < s.length := (List.getElem?_eq_some_iff.1 hx).1
  have ix := El.at_ f c s i x hx
  have w := w64' ((i : Int) + 1) (by omega) (by omega)
  have w2 := w64' (n + (enc x.core).length) (by omega) (by omega)
  have lb := bs_len (enc x.core)
  rw [El.av_eq] at B
  simp [bZ, lp, lps, c87, -indexAddrA, ix, w, w2, hi, B, lb]
theorem zlast (q k1 : Nat) (f s c) (n : Int) : rnd fn87 bZ q k1 (SZ f s c n s.length) = some (.exit 0, ⟨[(2, .int .i64 n), (7, .sl f (El.avs s) c), (8, .int .i64 (s.length : Int)), (9, .int .i64 (s.length : Int)), (10, .bool false)], []⟩) := by
  simp [bZ, lp, lps, c87]
abbrev LpZ (K : Nat) := aLoop (aCode E (aCall E K) (dcall (aRun E K)) K 1 fn87 bZ) (cleanS 1 ((firstReg bZ).bind fn87.head))
theorem zloop (K : Nat) (f s c) (ls : s.length ≤ 1000) (B : ∀ x ∈ s, ∀ h, aCall E K 0 21 [x.av] h = some (.ret (.tup [.sl false (bs (enc x.core)) (some (enc x.core).length), .int .i64 0]), h)) : ∀ (r : List El) (i k : Nat) (n : Int), s.drop i = r → i ≤ s.length → 0 ≤ n → n + (encs (El.cores r)).length ≤ 1000000 → r.length < k →
    LpZ K k (SZ f s c n i) = some (.exit 0, ⟨[(2, .int .i64 (n + (encs (El.cores r)).length)), (7, .sl f (El.avs s) c), (8, .int .i64 (s.length : Int)), (9, .int .i64 (s.length : Int)), (10, .bool false)], []⟩)
  | [], i, k, n, h1, hi, n0, hn, hk => by
    obtain ⟨k, rfl⟩ : ∃ j, k = j + 1 := ⟨k - 1, by omega⟩
    have q := congrArg List.length h1
    rw [List.length_drop, List.length_nil] at q
    obtain rfl : i = s.length := by omega
    have h := aLoop_end (k := k) (zlast K K f s c n) (fun h => by cases h)
    simpa [El.cores, encs] using h
  | x :: r, i, k, n, h1, hi, n0, hn, hk => by
    obtain ⟨k, rfl⟩ : ∃ j, k = j + 1 := ⟨k - 1, by omega⟩
    have hx : s[i]? = some x := by
      have := congrArg (fun l => l[0]?) h1
      simpa [List.getElem?_drop] using this
    have hd : s.drop (i + 1) = r := by
      have := congrArg List.tail h1
      simpa [List.tail_drop] using this
    have hl : i < s.length := (List.getElem?_eq_some_iff.1 hx).1
    have e1 : ((encs (El.cores (x :: r))).length : Int) = (enc x.core).length + (encs (El.cores r)).length := by
      rw [El.cores, encs, List.length_append]; omega
    rw [e1] at hn ⊢
    have h := zloop K f s c ls B r (i + 1) k (n + (enc x.core).length) hd (by omega) (by omega) (by omega) (by simp at hk; omega)
    unfold LpZ at h ⊢
    rw [aLoop_succ (zgo K K f s c n i x ls hx n0 (by omega) (by omega) (B x (List.mem_of_getElem? hx))), h, Int.add_assoc]
theorem size (f s c) (ls : s.length ≤ 1000) (hl : (encs (El.cores s)).length ≤ 1000000) (N : Nat) (B : ∀ x ∈ s, Con E N 21 [x.av] (.tup [.sl false (bs (enc x.core)) (some (enc x.core).length), .int .i64 0])) : Con E (N + s.length + 20) 87 [.sl f (El.avs s) c] (.int .i64 ((encs (El.cores s)).length : Int)) := by
  obtain ⟨K, hK⟩ : ∃ K, N + s.length + 19 = K := ⟨_, rfl⟩
  rw [show N + s.length + 20 = K + 1 from by omega]
  have L := zloop K f s c ls (fun x hx h => B x hx K (by omega) 0 h) s 0 K 0 rfl (by omega) (by omega) (by omega) (by omega)
  have pv : AV.pureL (El.avs s) = true := El.avs_pure s
  refine con_of E_fn87 (by simp [AV.pureL, AV.pure, pv]) (Nat.le_of_ble_eq_true rfl) rfl rfl (g := []) ?_
  rw [body_87, c87]
  simp [LpZ, bZ, lp, lps, c87, firstReg, SZ] at L
  simp [-s_round, L]
end F34
end
section
open Ab Go TabE Sp E34 F1 F4 F5 F31 F43 F44 F45 F46
namespace F47
def bT : Code := lp c62 0
abbrev ST (f : Bool) (ps : List Int) (c : Option Nat) (i : Nat) (x : El) : St := ⟨[(2, .ptr (1, 2, 0) 0), (4, .ptr (1, 4, 0) 0), (9, .sl f (ns ps) c), (10, .int .i64 (ps.length : Int)), (11, .int .i64 (i : Int))], [((1, 2, 0), bx (ec x)), ((1, 4, 0), bx z5)]⟩
theorem go (q k1 : Nat) (f ps c) (i : Nat) (e x : El) (p : Int) (hp : ps[i]? = some p) (lp' : ps.length ≤ 1000) (p0 : 0 ≤ p) (le : e.s.length ≤ 1000) (hx : e.s[p.toNat]? = some x) (hq : 10 ≤ q) : rndO fn62 bT q k1 (ST f ps c i e) = some (.normal, ST f ps c (i + 1) x) := by
  have hi : i < ps.length := (List.getElem?_eq_some_iff.1 hp).1
  have ip := int_at f c ps i p hp
  have pp : (p.toNat : Int) = p := Int.toNat_of_nonneg p0
  have st := F34.step_ok e x p.toNat le hx q hq 0
  rw [pp] at st
  have w := w64' ((i : Int) + 1) (by omega) (by omega)
  have ln := ns_len ps
  rw [El.av_eq e] at st
  rw [El.av_eq x] at st
  simp [bT, lp, lps, c62, -indexAddrA, ip, w, hi, ln, st]
abbrev BadT : AExit × St := (.ret, ⟨[(4, .ptr (1, 4, 0) 0), (5, .int .i64 19)], [((1, 4, 0), bx z5)]⟩)
theorem bad (q k1 : Nat) (f ps c) (i : Nat) (e : El) (p : Int) (hp : ps[i]? = some p) (lp' : ps.length ≤ 1000) (h : p < 0 ∨ (e.s.length : Int) ≤ p) (hq : 10 ≤ q) : rndO fn62 bT q k1 (ST f ps c i e) = some BadT := by
  have hi : i < ps.length := (List.getElem?_eq_some_iff.1 hp).1
  have ip := int_at f c ps i p hp
  have st := F34.step_bad e p h q hq 0
  have ln := ns_len ps
  rw [El.av_eq e] at st
  simp [bT, lp, lps, c62, -indexAddrA, ip, hi, ln, st]
abbrev OutT (f : Bool) (ps : List Int) (c : Option Nat) (x : El) : AExit × St := (.exit 0, ⟨[(2, .ptr (1, 2, 0) 0), (4, .ptr (1, 4, 0) 0), (9, .sl f (ns ps) c), (10, .int .i64 (ps.length : Int)), (11, .int .i64 (ps.length : Int)), (12, .bool false)], [((1, 2, 0), bx (ec x)), ((1, 4, 0), bx z5)]⟩)
theorem last (q k1 : Nat) (f ps c) (e : El) : rndO fn62 bT q k1 (ST f ps c ps.length e) = some (OutT f ps c e) := by
  have ln := ns_len ps
  simp [bT, lp, lps, c62, ln]
abbrev LpT (K : Nat) := aLoop (aCode E (site fn62 (aRun E K)) (dcall (aRun E K)) K 1 fn62 bT) (cleanS 1 ((firstReg bT).bind fn62.head))
def End (f : Bool) (ps : List Int) (c : Option Nat) : Option El → AExit × St
  | some x => OutT f ps c x
  | none => BadT
inductive Wd : El → Prop
  | mk (e : El) : e.s.length ≤ 1000 → (∀ x ∈ e.s, Wd x) → Wd e
theorem loop (K : Nat) (hK : 10 ≤ K) (f : Bool) (ps : List Int) (c : Option Nat) (lp' : ps.length ≤ 1000) : ∀ (r : List Int) (e : El) (i k : Nat), Wd e → ps.drop i = r → i ≤ ps.length → r.length < k →
    LpT K k (ST f ps c i e) = some (End f ps c (E34.walk e r))
  | [], e, i, k, wd, h1, hi, hk => by
    obtain ⟨k, rfl⟩ : ∃ j, k = j + 1 := ⟨k - 1, by omega⟩
    have q := congrArg List.length h1
    rw [List.length_drop, List.length_nil] at q
    obtain rfl : i = ps.length := by omega
    have h := aLoop_end (k := k) (last K K f ps c e) (fun h => by cases h)
    unfold E34.walk End
    exact h
  | p :: r, e, i, k, wd, h1, hi, hk => by
    obtain ⟨k, rfl⟩ : ∃ j, k = j + 1 := ⟨k - 1, by omega⟩
    obtain ⟨_, w1, w2⟩ := wd
    have hp : ps[i]? = some p := by
      have := congrArg (fun l => l[0]?) h1
      simpa [List.getElem?_drop] using this
    have hd : ps.drop (i + 1) = r := by
      have := congrArg List.tail h1
      simpa [List.tail_drop] using this
    have q := congrArg List.length h1
    rw [List.length_drop, List.length_cons] at q
    unfold E34.walk
    by_cases h0 : p < 0
    · rw [if_pos h0]
      exact aLoop_end (bad K K f ps c i e p hp lp' (.inl h0) hK) (fun h => by cases h)
    · rw [if_neg h0]
      cases hx : e.s[p.toNat]? with
      | none =>
        have := List.getElem?_eq_none_iff.1 hx
        exact aLoop_end (bad K K f ps c i e p hp lp' (.inr (by omega)) hK) (fun h => by cases h)
      | some x =>
        unfold LpT
        rw [aLoop_succ (go K K f ps c i e x p hp lp' (by omega) w1 hx hK)]
        exact loop K hK f ps c lp' r x (i + 1) k (w2 x (List.mem_of_getElem? hx)) hd (by omega) (by simp at hk; omega)
theorem at_none (e : El) (wd : Wd e) (f : Bool) (ps : List Int) (c : Option Nat) (lp' : ps.length ≤ 1000) (hw : E34.walk e ps = none) : ∃ N, Run E N 62 [e.av, .sl f (ns ps) c] [] (.ret (.tup [.agg z5, .int .i64 19])) [((1, 4, 0), bx z5)] := by
  obtain ⟨K, hK⟩ : ∃ K, ps.length + 60 = K := ⟨_, rfl⟩
  have L := loop K (by omega) f ps c lp' ps e 0 K wd rfl (by omega) (by omega)
  rw [hw] at L
  have ln := ns_len ps
  have key : aRun E (K + 1) 62 [e.av, .sl f (ns ps) c] [] = some (.ret (.tup [.agg z5, .int .i64 19]), [((1, 4, 0), bx z5)]) := by
    rw [aRun_fn rfl E_fn62 rfl (Nat.le_of_ble_eq_true rfl), body_62, c62]
    simp [LpT, bT, lp, lps, c62, firstReg, ST, bx, ec, End] at L
    simp [El.av_eq, -s_round, L, ln]
  exact ⟨K + 1, fun q hq => aRun_le E (K + 1) q hq _ _ _ _ key⟩
theorem op_cloneN {e : El} {hf : Heap} {q : Nat} (hr : aRun E q 86 [e.av] [] = some (.ret (CV e (.sl e.fb [] (some 0)) (1, 14, 0)), hf)) (h2 : lookK hf (1, 14, 0) = some (er (e.s.map clo))) (m : List Bool) (slot : Nat) (h : Heap) :
    opened m false (aRun E q) slot 86 [e.av] h = some (.ret (CV e (.sl e.fb [] (some 0)) (1, slot, genOf h 1 slot)), setK h (1, slot, genOf h 1 slot) (er (e.s.map clo))) := by
  have k2 := El.fl_keys (e.s.map clo)
  have r2 : ∀ φ, AV.rnL φ (El.fl (e.s.map clo)) = El.fl (e.s.map clo) := fun φ => rnL_pure _ (El.fl_pure _)
  rw [FO.op_fresh (m := m) (slot := slot) (h := h) [(1, 14, 0)] (by simp [AV.pureL, El.av_pure]) hr (by simp [reach, h2, AV.keysL, AV.keys, dd, k2]) (by simp [closedH, h2, AV.keysL, AV.keys, k2]) (by simp) (by simp [AV.keysL, AV.keys, inKs])]
  simp [AV.rn, AV.rnL, outK, posK, putAll, h2, r2]
theorem op_cloneR {e : El} {hf : Heap} {q : Nat} {ex : Bool} (hr : aRun E q 86 [e.av] [] = some (.ret (CV e (.ref (1, 8, 0) 0 e.b.length (some e.b.length)) (1, 14, 0)), hf)) (h1 : lookK hf (1, 8, 0) = some (br e.b ex)) (h2 : lookK hf (1, 14, 0) = some (er (e.s.map clo))) (m : List Bool) (slot : Nat) (h : Heap) :
    opened m false (aRun E q) slot 86 [e.av] h = some (.ret (CV e (.ref (1, slot, genOf h 1 slot) 0 e.b.length (some e.b.length)) (1, slot, genOf h 1 slot + 1)), setK (setK h (1, slot, genOf h 1 slot) (br e.b ex)) (1, slot, genOf h 1 slot + 1) (er (e.s.map clo))) := by
  have k1 := bs_kl e.b
  have k2 := El.fl_keys (e.s.map clo)
  have r1 : ∀ φ, AV.rnL φ (bs e.b) = bs e.b := fun φ => rnL_pure _ (bs_pure _)
  have r2 : ∀ φ, AV.rnL φ (El.fl (e.s.map clo)) = El.fl (e.s.map clo) := fun φ => rnL_pure _ (El.fl_pure _)
  rw [FO.op_fresh (m := m) (slot := slot) (h := h) [(1, 8, 0), (1, 14, 0)] (by simp [AV.pureL, El.av_pure]) hr (by simp [reach, h1, h2, AV.keysL, AV.keys, dd, k1, k2]) (by simp [closedH, h1, h2, AV.keysL, AV.keys, k1, k2]) (by simp) (by simp [AV.keysL, AV.keys, inKs])]
  simp [AV.rn, AV.rnL, outK, posK, putAll, h1, h2, r1, r2]
theorem at_N (e x : El) (wd : Wd e) (nn : E31.Nn x) (sh : E33.Sh x) (hb : x.b = []) (f : Bool) (ps : List Int) (c : Option Nat) (lp' : ps.length ≤ 1000) (hw : E34.walk e ps = some x) : ∃ N h, Run E N 62 [e.av, .sl f (ns ps) c] [] (.ret (.tup [CV x (.sl x.fb [] (some 0)) (1, 26, 0), .int .i64 0])) h ∧ lookK h (1, 26, 0) = some (er (x.s.map clo)) := by
  obtain ⟨_, n1, n2, n3⟩ := nn
  obtain ⟨_, s1, s2, s3⟩ := sh
  obtain ⟨N, hN⟩ := unif (P := fun (x : El) (n : Nat) => Con E n 86 [x.av] (clo x).av) (fun x n m h hm => h.mono hm) x.s (fun y hy => clone y (n3 y hy) (s3 y hy))
  obtain ⟨hh, q1, q3⟩ := nilC x hb s2 N hN
  obtain ⟨K, hK⟩ : ∃ K, N + x.s.length + ps.length + 90 = K := ⟨_, rfl⟩
  have o := op_cloneN (q1 K (by omega)) q3
  have L := loop K (by omega) f ps c lp' ps e 0 K wd rfl (by omega) (by omega)
  rw [hw] at L
  have ln := ns_len ps
  have k2 := El.fl_keys (x.s.map clo)
  rw [El.av_eq] at o
  have key : ret1 (1, 26, 0) (aRun E (K + 1) 62 [e.av, .sl f (ns ps) c] []) = some (.ret (.tup [CV x (.sl x.fb [] (some 0)) (1, 26, 0), .int .i64 0]), some (er (x.s.map clo))) := by
    rw [aRun_fn rfl E_fn62 rfl (Nat.le_of_ble_eq_true rfl), body_62, c62]
    simp [LpT, bT, lp, lps, c62, firstReg, ST, bx, ec, End] at L
    simp [El.av_eq, -s_round, L, ln, o, k2, ret1]
  obtain ⟨h, z1, z2⟩ := ret1_eq key
  exact ⟨K + 1, h, fun q hq => aRun_le E (K + 1) q hq _ _ _ _ z1, z2⟩
theorem at_R (e x : El) (wd : Wd e) (nn : E31.Nn x) (sh : E33.Sh x) (hf : x.fb = false) (hb : x.b ≠ []) (f : Bool) (ps : List Int) (c : Option Nat) (lp' : ps.length ≤ 1000) (hw : E34.walk e ps = some x) : ∃ N h, Run E N 62 [e.av, .sl f (ns ps) c] [] (.ret (.tup [CV x (.ref (1, 26, 0) 0 x.b.length (some x.b.length)) (1, 26, 1), .int .i64 0])) h ∧ lookK h (1, 26, 0) = some (br x.b false) ∧ lookK h (1, 26, 1) = some (er (x.s.map clo)) := by
  obtain ⟨_, n1, n2, n3⟩ := nn
  obtain ⟨_, s1, s2, s3⟩ := sh
  obtain ⟨N, hN⟩ := unif (P := fun (x : El) (n : Nat) => Con E n 86 [x.av] (clo x).av) (fun x n m h hm => h.mono hm) x.s (fun y hy => clone y (n3 y hy) (s3 y hy))
  obtain ⟨hh, q1, q2, q3⟩ := rowC x hf hb s1 s2 N hN
  obtain ⟨K, hK⟩ : ∃ K, N + x.s.length + ps.length + 90 = K := ⟨_, rfl⟩
  have o := op_cloneR (q1 K (by omega)) q2 q3
  have L := loop K (by omega) f ps c lp' ps e 0 K wd rfl (by omega) (by omega)
  rw [hw] at L
  have ln := ns_len ps
  have k1 := bs_kl x.b
  have k2 := El.fl_keys (x.s.map clo)
  rw [El.av_eq] at o
  have key : ret2 (1, 26, 0) (1, 26, 1) (aRun E (K + 1) 62 [e.av, .sl f (ns ps) c] []) = some (.ret (.tup [CV x (.ref (1, 26, 0) 0 x.b.length (some x.b.length)) (1, 26, 1), .int .i64 0]), some (br x.b false), some (er (x.s.map clo))) := by
    rw [aRun_fn rfl E_fn62 rfl (Nat.le_of_ble_eq_true rfl), body_62, c62]
    simp [LpT, bT, lp, lps, c62, firstReg, ST, bx, ec, End] at L
    simp [El.av_eq, -s_round, L, ln, o, k1, k2, ret2]
  obtain ⟨h, z1, z2, z3⟩ := ret2_eq key
  exact ⟨K + 1, h, fun q hq => aRun_le E (K + 1) q hq _ _ _ _ z1, z2, z3⟩
end F47
end
section
open Ab Go TabE Sp E34 F1 F4 F5 F31 F43 F44 F45
namespace F48
theorem fl_get (s : List El) (i : Nat) (x : El) (h : s[i]? = some x) : ((El.fl s).drop (i * 5)).take 5 = ec x := by
  have hi := (List.getElem?_eq_some_iff.1 h).1
  rw [El.fl_drop, List.drop_eq_getElem_cons hi, (List.getElem?_eq_some_iff.1 h).2]
  rfl
theorem len5 (s : List El) (i : Nat) (h : i < s.length) : i * 5 + 5 ≤ (El.fl s).length := by rw [El.fl_len]; omega
theorem run_int {f : FuncId} {args : List AV} {k : IntKind} {n : Int} {N : Nat} (hp : AV.pureL args = true) (C : Con E N f args (.int k n)) (q : Nat) (hq : N ≤ q) : ∃ hf, aRun E q f args [] = some (.ret (.int k n), hf) := by
  have c := C q hq 0 []
  unfold aCall sealed at c
  rw [sealL_of_pure 19 _ [] hp] at c
  simp only [hp, if_true] at c
  cases hr : aRun E q f args [] with
  | none => rw [hr] at c; cases c
  | some p =>
    obtain ⟨r, hf⟩ := p
    rw [hr] at c
    cases r with
    | ret v =>
      refine ⟨hf, ?_⟩
      simp only [sealR] at c
      cases hs : sealA 20 hf v with
      | none => rw [hs] at c; cases c
      | some w =>
        rw [hs] at c
        simp only at c
        split at c
        · have e : w.1 = .int k n := by
            have := congrArg (fun x => x.map Prod.fst) c
            simpa using this
          unfold sealA at hs
          split at hs
          · cases hs; rw [← e]
          · split at hs
            · split at hs
              · split at hs
                · split at hs
                  · cases hs; cases e
                  · cases hs
                · cases hs
              · cases hs
            · split at hs
              · split at hs
                · cases hs; cases e
                · cases hs
              · cases hs
            · split at hs
              · cases hs; cases e
              · cases hs
            · cases hs
        · cases c
    | panic ch =>
      simp only [sealR] at c
      split at c <;> cases c
theorem op_pure {f : FuncId} {args : List AV} {k : IntKind} {n : Int} {N : Nat} (hp : AV.pureL args = true) (C : Con E N f args (.int k n)) (q : Nat) (hq : N ≤ q) (m : List Bool) (slot : Nat) (h : Heap) : opened m false (aRun E q) slot f args h = some (.ret (.int k n), h) := by
  obtain ⟨hf, hr⟩ := run_int hp C q hq
  rw [FO.op_fresh (m := m) (slot := slot) (h := h) [] hp hr (by rfl) (by rfl) (by simp) (by rfl)]
  rfl
def bS : Code := lp c49 0
abbrev FV (e : El) (B : AV) (k : Key) : List AV := [.int .u8 e.c, .bool e.k, .int .u32 e.n, B, .ref k 0 e.s.length (some e.s.length)]
abbrev SN (a b : El) (i : Nat) : St := ⟨[(2, .ptr (1, 2, 0) 0), (3, .ptr (1, 3, 0) 0), (5, .int .i64 (i : Int))], [((0, 0, 0), er (a.s.map clo)), ((1, 2, 0), bx (FV a (.sl a.fb [] (some 0)) (0, 0, 0))), ((1, 3, 0), bx (ec b))]⟩
theorem goN (q k1 : Nat) (a x : El) (i : Nat) (hx : a.s[i]? = some x) (le : a.s.length ≤ 1000000) (B : ∀ h, aCall E q 0 49 [(clo x).av, x.av] h = some (.ret (.int .i64 1), h)) :
    rndO fn49 bS q k1 (SN a a i) = some (.normal, SN a a (i + 1)) := by
  have hi : i < a.s.length := (List.getElem?_eq_some_iff.1 hx).1
  have hm : (a.s.map clo)[i]? = some (clo x) := by rw [List.getElem?_map, hx]; rfl
  have iy := fun hp => El.at_ a.fs a.cs a.s i x hx hp
  have w := w64' ((i : Int) + 1) (by omega) (by omega)
  have fg := fl_get _ i _ hm
  have fl := len5 (a.s.map clo) i (by rw [List.length_map]; exact hi)
  have f4 := El.fl_keys (a.s.map clo)
  have k1 := bs_kl a.b
  have ix : ∀ h, indexAddrA E 28 (.ref (0, 0, 0) 0 a.s.length (some a.s.length)) (.int .i64 (i : Int)) h = some (.ptr (0, 0, 0) (i * 5)) := fun h => by simp [indexAddrA, hi]
  rw [El.av_eq, El.av_eq] at B
  simp [bS, lp, lps, c49, -indexAddrA, ix, iy, w, B, hi, fg, fl, f4, k1]
theorem lastN (q k1 : Nat) (a b : El) : rndO fn49 bS q k1 (SN a b a.s.length) = some (.exit 0, ⟨[(2, .ptr (1, 2, 0) 0), (3, .ptr (1, 3, 0) 0), (5, .int .i64 (a.s.length : Int)), (33, .bool false)], (SN a b a.s.length).h⟩) := by
  have f4 := El.fl_keys (a.s.map clo)
  have k1 := bs_kl a.b
  simp [bS, lp, lps, c49, f4, k1]
theorem sameN (e : El) (hb : e.b = []) (he : e.ok) (le : e.s.length ≤ 1000000) : ∃ N h, (∀ q, N ≤ q → aRun E q 49 [.agg (FV e (.sl e.fb [] (some 0)) (0, 0, 0)), e.av] [((0, 0, 0), er (e.s.map clo))] = some (.ret (.int .i64 1), h)) ∧ lookK h (0, 0, 0) = some (er (e.s.map clo)) := by
  obtain ⟨N, hN⟩ := unif (P := fun (x : El) (n : Nat) => Con E n 49 [(clo x).av, x.av] (.int .i64 1)) (fun x n m h hm => h.mono hm) e.s (fun x hx => F1.same (clo x) x (cl_ok x (he.sub x hx)) (cl_core x))
  obtain ⟨K, hK⟩ : ∃ K, N + e.s.length + 60 = K := ⟨_, rfl⟩
  have L := loopO (fn := fn49) (b := bS) (K := K) (k := K) (fun i => SN e e i) e.s.length rfl (fun i hi => by
    obtain ⟨x, hx⟩ : ∃ x, e.s[i]? = some x := ⟨e.s[i], by simp⟩
    exact goN K K e x i hx le fun h => hN x (List.mem_of_getElem? hx) K (by omega) 0 h) (lastN K K e e) (by simp) (by omega)
  have ga := bs_go he.bb
  have f4 := El.fl_keys (e.s.map clo)
  have k1 := bs_kl e.b
  have lv := El.avs_len e.s
  have lb := bs_len e.b
  have tk : (bs e.b).take e.b.length = bs e.b := by rw [← bs_len e.b, List.take_length]
  have key : ret1 (0, 0, 0) (aRun E (K + 1) 49 [.agg (FV e (.sl e.fb [] (some 0)) (0, 0, 0)), e.av] [((0, 0, 0), er (e.s.map clo))]) = some (.ret (.int .i64 1), some (er (e.s.map clo))) := by
    rw [aRun_fn rfl E_fn49 rfl (Nat.le_of_ble_eq_true rfl), body_49, c49]
    simp [bS, lp, lps, c49, firstReg, SN, FV, bx, ec, hb, bs_nil] at L
    simp [El.av_eq, FV, -s_round, ga, L, fitZ, f4, k1, lv, lb, tk, ret1, ret2, hb, bs_nil]
  obtain ⟨h, q1, q2⟩ := ret1_eq key
  exact ⟨K + 1, h, fun q hq => aRun_le E (K + 1) q hq _ _ _ _ q1, q2⟩
abbrev SR (a b : El) (i : Nat) (ex : Bool) : St := ⟨[(2, .ptr (1, 2, 0) 0), (3, .ptr (1, 3, 0) 0), (5, .int .i64 (i : Int))], [((0, 0, 0), br a.b ex), ((0, 0, 1), er (a.s.map clo)), ((1, 2, 0), bx (FV a (.ref (0, 0, 0) 0 a.b.length (some a.b.length)) (0, 0, 1))), ((1, 3, 0), bx (ec b))]⟩
theorem goR (q k1 : Nat) (a x : El) (i : Nat) (ex : Bool) (hx : a.s[i]? = some x) (le : a.s.length ≤ 1000000) (B : ∀ h, aCall E q 0 49 [(clo x).av, x.av] h = some (.ret (.int .i64 1), h)) :
    rndO fn49 bS q k1 (SR a a i ex) = some (.normal, SR a a (i + 1) ex) := by
  have hi : i < a.s.length := (List.getElem?_eq_some_iff.1 hx).1
  have hm : (a.s.map clo)[i]? = some (clo x) := by rw [List.getElem?_map, hx]; rfl
  have iy := fun hp => El.at_ a.fs a.cs a.s i x hx hp
  have w := w64' ((i : Int) + 1) (by omega) (by omega)
  have fg := fl_get _ i _ hm
  have fl := len5 (a.s.map clo) i (by rw [List.length_map]; exact hi)
  have f4 := El.fl_keys (a.s.map clo)
  have k1 := bs_kl a.b
  have ix : ∀ h, indexAddrA E 28 (.ref (0, 0, 1) 0 a.s.length (some a.s.length)) (.int .i64 (i : Int)) h = some (.ptr (0, 0, 1) (i * 5)) := fun h => by simp [indexAddrA, hi]
  rw [El.av_eq, El.av_eq] at B
  simp [bS, lp, lps, c49, -indexAddrA, ix, iy, w, B, hi, fg, fl, f4, k1]
theorem lastR (q k1 : Nat) (a b : El) (ex : Bool) : rndO fn49 bS q k1 (SR a b a.s.length ex) = some (.exit 0, ⟨[(2, .ptr (1, 2, 0) 0), (3, .ptr (1, 3, 0) 0), (5, .int .i64 (a.s.length : Int)), (33, .bool false)], (SR a b a.s.length ex).h⟩) := by
  have f4 := El.fl_keys (a.s.map clo)
  have k1 := bs_kl a.b
  simp [bS, lp, lps, c49, f4, k1]
theorem sameR (e : El) (ex : Bool) (he : e.ok) (le : e.s.length ≤ 1000000) : ∃ N h, (∀ q, N ≤ q → aRun E q 49 [.agg (FV e (.ref (0, 0, 0) 0 e.b.length (some e.b.length)) (0, 0, 1)), e.av] [((0, 0, 0), br e.b ex), ((0, 0, 1), er (e.s.map clo))] = some (.ret (.int .i64 1), h)) ∧ lookK h (0, 0, 0) = some (br e.b ex) ∧ lookK h (0, 0, 1) = some (er (e.s.map clo)) := by
  obtain ⟨N, hN⟩ := unif (P := fun (x : El) (n : Nat) => Con E n 49 [(clo x).av, x.av] (.int .i64 1)) (fun x n m h hm => h.mono hm) e.s (fun x hx => F1.same (clo x) x (cl_ok x (he.sub x hx)) (cl_core x))
  obtain ⟨K, hK⟩ : ∃ K, N + e.s.length + 60 = K := ⟨_, rfl⟩
  have L := loopO (fn := fn49) (b := bS) (K := K) (k := K) (fun i => SR e e i ex) e.s.length rfl (fun i hi => by
    obtain ⟨x, hx⟩ : ∃ x, e.s[i]? = some x := ⟨e.s[i], by simp⟩
    exact goR K K e x i ex hx le fun h => hN x (List.mem_of_getElem? hx) K (by omega) 0 h) (lastR K K e e ex) (by simp) (by omega)
  have ga := bs_go he.bb
  have f4 := El.fl_keys (e.s.map clo)
  have k1 := bs_kl e.b
  have lv := El.avs_len e.s
  have lb := bs_len e.b
  have tk : (bs e.b).take e.b.length = bs e.b := by rw [← bs_len e.b, List.take_length]
  have key : ret2 (0, 0, 0) (0, 0, 1) (aRun E (K + 1) 49 [.agg (FV e (.ref (0, 0, 0) 0 e.b.length (some e.b.length)) (0, 0, 1)), e.av] [((0, 0, 0), br e.b ex), ((0, 0, 1), er (e.s.map clo))]) = some (.ret (.int .i64 1), some (br e.b ex), some (er (e.s.map clo))) := by
    rw [aRun_fn rfl E_fn49 rfl (Nat.le_of_ble_eq_true rfl), body_49, c49]
    simp [bS, lp, lps, c49, firstReg, SR, FV, bx, ec] at L
    simp [El.av_eq, FV, -s_round, ga, L, fitZ, f4, k1, lv, lb, tk, ret1, ret2]
  obtain ⟨h, q1, q2, q3⟩ := ret2_eq key
  exact ⟨K + 1, h, fun q hq => aRun_le E (K + 1) q hq _ _ _ _ q1, q2, q3⟩
theorem op_sameN {e : El} {hf h : Heap} {q slot : Nat} {k : Key} (hr : aRun E q 49 [.agg (FV e (.sl e.fb [] (some 0)) (0, 0, 0)), e.av] [((0, 0, 0), er (e.s.map clo))] = some (.ret (.int .i64 1), hf)) (h1 : lookK hf (0, 0, 0) = some (er (e.s.map clo))) (hk : lookK h k = some (er (e.s.map clo))) :
    opened [true, false] false (aRun E q) slot 49 [.agg (FV e (.sl e.fb [] (some 0)) k), e.av] h = some (.ret (.int .i64 1), h) := by
  have k2 := El.fl_keys (e.s.map clo)
  have r2 : ∀ φ, AV.rnL φ (El.fl (e.s.map clo)) = El.fl (e.s.map clo) := fun φ => rnL_pure _ (El.fl_pure _)
  have pe := El.av_pure e
  have ke := El.av_keys e
  have re : ∀ φ, AV.rn φ e.av = e.av := fun φ => by have := rnL_pure (φ := φ) [e.av] (by simp [AV.pureL, pe]); simpa [AV.rnL] using this
  unfold opened
  have e1 : sealM (sealA 20) [true, false] h [.agg (FV e (.sl e.fb [] (some 0)) k), e.av] = some ([.agg (FV e (.sl e.fb [] (some 0)) k), e.av], h) := by
    have : sealA 20 h e.av = some (e.av, h) := by unfold sealA; rw [if_pos pe]
    simp only [sealM, this]
  rw [e1]
  simp only
  have e0 : AV.keysL [.agg (FV e (.sl e.fb [] (some 0)) k), e.av] = [k] := by simp [AV.keysL, AV.keys, ke]
  rw [e0]
  have e2 : dd (reach h 3 [k]) = [k] := by simp [reach, hk, k2, dd]
  rw [e2]
  unfold lendA
  have e3 : lendH h (inK [k]) [k] = some [((0, 0, 0), er (e.s.map clo))] := by simp [lendH, hk, inK, posK, r2]
  rw [e3]
  have e4 : closedH h [k] [k] = true := by simp [closedH, hk, k2]
  simp only [e0]
  rw [if_pos ⟨e4, by simp [inKs]⟩]
  have e5 : AV.rnL (inK [k]) [.agg (FV e (.sl e.fb [] (some 0)) k), e.av] = [.agg (FV e (.sl e.fb [] (some 0)) (0, 0, 0)), e.av] := by simp [AV.rnL, AV.rn, inK, posK, re]
  rw [e5, hr]
  have e9 : lentKs 1 = [(0, 0, 0)] := rfl
  have e8 : AV.keysL [AV.int .i64 1] = [] := rfl
  have e7 : dd (reach hf 3 ([(0, 0, 0)] ++ [])) = [(0, 0, 0)] := by simp [reach, h1, k2, dd]
  have e10 : closedH hf [(0, 0, 0)] [(0, 0, 0)] = true := by simp [closedH, h1, k2]
  simp only [backR, Bool.false_eq_true, if_false, backV, Ab.back, List.length_singleton, e8, e9, e7, backA]
  rw [if_pos ⟨e10, by rfl, by rfl, by rfl⟩]
  have sk := FO.setK_same h k _ hk
  simp [AV.rnL, AV.rn, outK, posK, putAll, h1, r2, sk]
theorem op_sameR {e : El} {hf h : Heap} {q slot : Nat} {k l : Key} {ex : Bool} (kl : k ≠ l) (hr : aRun E q 49 [.agg (FV e (.ref (0, 0, 0) 0 e.b.length (some e.b.length)) (0, 0, 1)), e.av] [((0, 0, 0), br e.b ex), ((0, 0, 1), er (e.s.map clo))] = some (.ret (.int .i64 1), hf)) (h0 : lookK hf (0, 0, 0) = some (br e.b ex)) (h1 : lookK hf (0, 0, 1) = some (er (e.s.map clo))) (hj : lookK h k = some (br e.b ex)) (hk : lookK h l = some (er (e.s.map clo))) :
    opened [true, false] false (aRun E q) slot 49 [.agg (FV e (.ref k 0 e.b.length (some e.b.length)) l), e.av] h = some (.ret (.int .i64 1), h) := by
  have k1 := bs_kl e.b
  have k2 := El.fl_keys (e.s.map clo)
  have r1 : ∀ φ, AV.rnL φ (bs e.b) = bs e.b := fun φ => rnL_pure _ (bs_pure _)
  have r2 : ∀ φ, AV.rnL φ (El.fl (e.s.map clo)) = El.fl (e.s.map clo) := fun φ => rnL_pure _ (El.fl_pure _)
  have pe := El.av_pure e
  have ke := El.av_keys e
  have lk : ¬ l = k := fun h => kl h.symm
  have re : ∀ φ, AV.rn φ e.av = e.av := fun φ => by have := rnL_pure (φ := φ) [e.av] (by simp [AV.pureL, pe]); simpa [AV.rnL] using this
  unfold opened
  have e1 : sealM (sealA 20) [true, false] h [.agg (FV e (.ref k 0 e.b.length (some e.b.length)) l), e.av] = some ([.agg (FV e (.ref k 0 e.b.length (some e.b.length)) l), e.av], h) := by
    have : sealA 20 h e.av = some (e.av, h) := by unfold sealA; rw [if_pos pe]
    simp only [sealM, this]
  rw [e1]
  simp only
  have e0 : AV.keysL [.agg (FV e (.ref k 0 e.b.length (some e.b.length)) l), e.av] = [k, l] := by simp [AV.keysL, AV.keys, ke]
  rw [e0]
  have e2 : dd (reach h 3 [k, l]) = [k, l] := by simp [reach, hj, hk, k1, k2, dd, kl, lk]
  rw [e2]
  unfold lendA
  have e3 : lendH h (inK [k, l]) [k, l] = some [((0, 0, 0), br e.b ex), ((0, 0, 1), er (e.s.map clo))] := by simp [lendH, hj, hk, inK, posK, r1, r2, kl, lk]
  rw [e3]
  have e4 : closedH h [k, l] [k, l] = true := by simp [closedH, hj, hk, k1, k2]
  simp only [e0]
  rw [if_pos ⟨e4, by simp [inKs]⟩]
  have e5 : AV.rnL (inK [k, l]) [.agg (FV e (.ref k 0 e.b.length (some e.b.length)) l), e.av] = [.agg (FV e (.ref (0, 0, 0) 0 e.b.length (some e.b.length)) (0, 0, 1)), e.av] := by simp [AV.rnL, AV.rn, inK, posK, re, kl, lk]
  rw [e5, hr]
  have e9 : lentKs 2 = [(0, 0, 0), (0, 0, 1)] := rfl
  have e8 : AV.keysL [AV.int .i64 1] = [] := rfl
  have e7 : dd (reach hf 3 ([(0, 0, 0), (0, 0, 1)] ++ [])) = [(0, 0, 0), (0, 0, 1)] := by simp [reach, h0, h1, k1, k2, dd]
  have e10 : closedH hf [(0, 0, 0), (0, 0, 1)] [(0, 0, 0), (0, 0, 1)] = true := by simp [closedH, h0, h1, k1, k2]
  have ln : ([k, l] : List Key).length = 2 := rfl
  simp only [backR, Bool.false_eq_true, if_false, backV, Ab.back, ln, e8, e9, e7, backA]
  rw [if_pos ⟨e10, by rfl, by rfl, by rfl⟩]
  have sj := FO.setK_same h k _ hj
  have sk := FO.setK_same h l _ hk
  simp [AV.rnL, AV.rn, outK, posK, putAll, h0, h1, r1, r2, sj, sk]
end F48
end
section
open Ab Go TabE Sp E34 F1 F4 F5 F31
namespace F35
def bO : Code := lp c63 0
abbrev SO (f : Bool) (ps : List Int) (c : Option Nat) (i : Nat) (n : Int) (x : El) : St := ⟨[(2, .ptr (1, 2, 0) 0), (8, .int .i64 n), (21, .sl f (ns ps) c), (22, .int .i64 (ps.length : Int)), (23, .int .i64 (i : Int))], [((1, 2, 0), bx (ec x))]⟩
theorem go (q k1 : Nat) (f ps c) (i : Nat) (n : Int) (e x : El) (p : Nat) (hp : ps[i]? = some (p : Int)) (lp' : ps.length ≤ 1000) (le : e.s.length ≤ 1000) (hx : e.s[p]? = some x) (n0 : 0 ≤ n) (n1 : n ≤ 10000000) (A B : Int) (a0 : 0 ≤ A) (a1 : A ≤ 1000000) (b0 : 0 ≤ B) (b1 : B ≤ 1000000) (hq : 10 ≤ q) (C1 : ∀ c h, aCall E q 0 87 [.sl false [e.av] c] h = some (.ret (.int .i64 A), h)) (C2 : ∀ f c h, aCall E q 0 87 [.sl f (El.avs (e.s.drop p)) c] h = some (.ret (.int .i64 B), h)) : rnd fn63 bO q k1 (SO f ps c i n e) = some (.normal, SO f ps c (i + 1) (n + (A - B)) x) := by
  have hi : i < ps.length := (List.getElem?_eq_some_iff.1 hp).1
  have hl : p < e.s.length := (List.getElem?_eq_some_iff.1 hx).1
  have ip := int_at f c ps i p hp
  have st := F34.step_ok e x p le hx q hq 0
  have w := w64' ((i : Int) + 1) (by omega) (by omega)
  have w2 := w64' (A - B) (by omega) (by omega)
  have w3 := w64' (n + (A - B)) (by omega) (by omega)
  have lv := El.avs_len e.s
  have ln := ns_len ps
  have hl2 : p ≤ e.s.length := by omega
  have gx : (El.avs e.s)[p]? = some x.av := by rw [El.avs_map, List.getElem?_map, hx]; rfl
  have tk : List.take e.s.length (El.avs e.s) = El.avs e.s := by rw [← El.avs_len e.s, List.take_length]
  have dr : List.drop p (El.avs e.s) = El.avs (e.s.drop p) := by rw [El.avs_map, El.avs_map, List.map_drop]
  rw [El.av_eq x] at gx
  have gx2 : ∀ h : p < (El.avs e.s).length, (El.avs e.s)[p]'h = .agg (ec x) := fun h => by rw [List.getElem?_eq_getElem h] at gx; exact Option.some.inj gx
  rw [El.av_eq e] at C1 st
  rw [El.av_eq x] at st
  simp [bO, lp, lps, c63, -indexAddrA, ip, w, w2, w3, hi, hl, lv, ln, st, C1, C2, hl2, gx, gx2, tk, dr]
abbrev BadO : AExit × St := (.ret, ⟨[(4, .int .i64 0), (5, .int .i64 19)], []⟩)
theorem bad (q k1 : Nat) (f ps c) (i : Nat) (n : Int) (e : El) (p : Int) (hp : ps[i]? = some p) (lp' : ps.length ≤ 1000) (h : p < 0 ∨ (e.s.length : Int) ≤ p) (hq : 10 ≤ q) : rnd fn63 bO q k1 (SO f ps c i n e) = some BadO := by
  have hi : i < ps.length := (List.getElem?_eq_some_iff.1 hp).1
  have ip := int_at f c ps i p hp
  have st := F34.step_bad e p h q hq 0
  have ln := ns_len ps
  rw [El.av_eq e] at st
  simp [bO, lp, lps, c63, -indexAddrA, ip, hi, ln, st]
theorem last (q k1 : Nat) (f ps c) (n : Int) (e : El) : rnd fn63 bO q k1 (SO f ps c ps.length n e) = some (.exit 0, ⟨[(2, .ptr (1, 2, 0) 0), (8, .int .i64 n), (21, .sl f (ns ps) c), (22, .int .i64 (ps.length : Int)), (23, .int .i64 (ps.length : Int)), (24, .bool false)], [((1, 2, 0), bx (ec e))]⟩) := by
  have ln := ns_len ps
  simp [bO, lp, lps, c63, ln]
end F35
end
end
section
open Ab Go TabE Sp E34 F1 F4 F5 F23 F31 F35
namespace F36
def ofs : El → List Int → Int
  | _, [] => 0
  | e, p :: r => (((enc e.core).length : Int) - (encs (El.cores (e.s.drop p.toNat))).length) + match e.s[p.toNat]? with
    | some x => ofs x r
    | none => 0
theorem put (e : El) (g : Gd e) : ∃ N, Con E N 21 [e.av] (.tup [.sl false (bs (enc e.core)) (some (enc e.core).length), .int .i64 0]) := E10.put_ok e g.ok g.sm g.chk (by have := g.len; omega)
theorem drop_le (l : List El) : ∀ p, (encs (El.cores (l.drop p))).length ≤ (encs (El.cores l)).length := by
  induction l with
  | nil => intro p; simp
  | cons x r ih =>
    intro p
    cases p with
    | zero => exact Nat.le_refl _
    | succ p =>
      have := ih p
      rw [List.drop_succ_cons, El.cores, encs, List.length_append]; omega
theorem encs_le (e : El) : (encs (El.cores e.s)).length ≤ (enc e.core).length := by
  rw [enc_eq, List.length_append, List.length_append, List.length_append]; omega
theorem sizes (e : El) (g : Gd e) (p : Nat) : ∃ N, ∀ K, N ≤ K → (∀ c h, aCall E K 0 87 [.sl false [e.av] c] h = some (.ret (.int .i64 ((enc e.core).length : Int)), h)) ∧ ∀ f c h, aCall E K 0 87 [.sl f (El.avs (e.s.drop p)) c] h = some (.ret (.int .i64 ((encs (El.cores (e.s.drop p))).length : Int)), h) := by
  obtain ⟨N1, h1⟩ := put e g
  obtain ⟨N2, h2⟩ := unif (P := fun (x : El) (n : Nat) => Con E n 21 [x.av] (.tup [.sl false (bs (enc x.core)) (some (enc x.core).length), .int .i64 0])) (fun x n m h hm => h.mono hm) e.s (fun x hx => put x (g.sub hx))
  have l1 := g.len
  have l2 := drop_le e.s p
  have l3 := encs_le e
  have sl := g.sl
  have ld : (e.s.drop p).length ≤ e.s.length := by rw [List.length_drop]; omega
  refine ⟨N1 + N2 + 100, fun K hK => ⟨fun c h => ?_, fun f c h => ?_⟩⟩
  · have := F34.size false [e] c (by simp) (by simp [El.cores, encs]; omega) N1 (fun x hx => by rw [List.mem_singleton.1 hx]; exact h1) K (by simp; omega) 0 h
    simpa [El.avs, El.cores, encs] using this
  · exact F34.size f (e.s.drop p) c (by omega) (by omega) N2 (fun x hx => h2 x (List.mem_of_mem_drop hx)) K (by omega) 0 h
end F36
end
section
open Ab Go TabE
attribute [local simp ↓] s_seq s_reg s_regd s_cond s_block s_cons s_consG s_regD
attribute [local simp] s_nil s_loop s_round s_lpn s_lpe s_lpr firstReg s_gt s_gf s_wb s_wu s_val s_valN s_skip s_calls s_callP s_cax lookR flatR pureKs s_ret s_rgx s_sqn s_sqr s_sqe s_cdb s_bkn s_bkr s_bke s_exit s_ret' s_skip' s_finr s_finn s_fin1 s_fix s_clean s_gc0 o_tmp o_int o_bool o_nil o_str o_fn o_nil' l_hit l_miss l_nil ol_nil ol_cons ol_some x_move x_assign x_pick pk_t pk_f x_bin bn_s x_un x_extract x_callF cl_no x_callB x_callBF frzV x_conv cvx convA frame0 binA intOp resL resA results1 sealLW AV.pure AV.pureL keepT x_alloc x_box bxx x_build bdx x_buildSlice bsx x_buildSliceF bsf x_load ldx x_store stx x_slice slx x_fieldAddr x_field x_index ixx x_indexAddr iax x_makeSlice msx x_makeSliceF msf x_nilCheck newK genOf setK lookK fillA writeL writeC readC conts TyI.mk1 sliceA boundsA boundsB fitsA numA indexAddrA fieldAddrA partA fieldA indexA appendA copyA builtinA AV.cells chunk gcH reach keysT keepK inKs AV.keys AV.keysL Ty.isAgg eq1 eqL convA.go ltI w_u8 w_u32 w_u64 w_i64 w_fdiv w_tdiv w_tmod IntKind.bits unA sc_int sc_bool sc_str sc_sl sc_ref sc_ptr sc_pel sc_nilp sc_fn sc_nilf sc_if sc_nili sc_agg sc_tup sc_mem bs_pure bs_kl bs_length bs_cells bs_all sl_row sealRow sealY sl_int sl_bool sl_str sl_sl sl_nilp sl_nilf sl_nili sl_pel sl_agg sl_tup sl_fn sl_if nat_1 bs_cons bs_nil i_beq i_bne x_mkF x_mkI x_tassert x_panic s_pan s_sqp s_bkp s_finp s_fixp s_lpp s_rgp s_retp s_site s_stxN s_stxO x_callT clx El.avs_len s_dyn0 s_rgy barOf dynChk footL dynOK disjK keysOp opVals Op.operands
section
open Ab Go TabE Sp E34 F1 F4 F5 F23 F31 F35 F36
namespace F37
abbrev LpO (K : Nat) := aLoop (aCode E (aCall E K) (dcall (aRun E K)) K 1 fn63 bO) (cleanS 1 ((firstReg bO).bind fn63.head))
abbrev OutO (f : Bool) (ps : List Int) (c : Option Nat) (n : Int) (e : El) : AExit × St := (.exit 0, ⟨[(2, .ptr (1, 2, 0) 0), (8, .int .i64 n), (21, .sl f (ns ps) c), (22, .int .i64 (ps.length : Int)), (23, .int .i64 (ps.length : Int)), (24, .bool false)], [((1, 2, 0), bx (ec e))]⟩)
def End (f : Bool) (ps : List Int) (c : Option Nat) (n : Int) : Option El → AExit × St
  | some x => OutO f ps c n x
  | none => BadO
theorem loop : ∀ (r : List Int) (e : El), Gd e → ∃ N, ∀ K, N ≤ K → ∀ (f : Bool) (ps : List Int) (c : Option Nat) (i k : Nat) (n : Int), ps.length ≤ 30 → ps.drop i = r → i ≤ ps.length → 0 ≤ n → n ≤ 60000 * i → r.length < k →
    LpO K k (SO f ps c i n e) = some (End f ps c (n + ofs e r) (E34.walk e r))
  | [], e, g => ⟨0, fun K hK f ps c i k n lp' h1 hi n0 n1 hk => by
    obtain ⟨k, rfl⟩ : ∃ j, k = j + 1 := ⟨k - 1, by omega⟩
    have q := congrArg List.length h1
    rw [List.length_drop, List.length_nil] at q
    obtain rfl : i = ps.length := by omega
    have h := aLoop_end (k := k) (F35.last K K f ps c n e) (fun h => by cases h)
    unfold ofs E34.walk End
    simpa using h⟩
  | p :: r, e, g => by
    have sl := g.sl
    have st : ∀ (K : Nat) (f : Bool) (ps : List Int) (c : Option Nat) (i : Nat), ps.drop i = p :: r → ps[i]? = some p := fun K f ps c i h1 => by
      have := congrArg (fun l => l[0]?) h1
      simpa [List.getElem?_drop] using this
    by_cases hb : p < 0 ∨ (e.s.length : Int) ≤ p
    · refine ⟨20, fun K hK f ps c i k n lp' h1 hi n0 n1 hk => ?_⟩
      obtain ⟨k, rfl⟩ : ∃ j, k = j + 1 := ⟨k - 1, by omega⟩
      have h := aLoop_end (k := k) (F35.bad K K f ps c i n e p (st K f ps c i h1) (by omega) hb (by omega)) (fun h => by cases h)
      have hw : E34.walk e (p :: r) = none := by
        unfold E34.walk
        by_cases h0 : p < 0
        · rw [if_pos h0]
        · rw [if_neg h0, List.getElem?_eq_none_iff.2 (by omega)]
      rw [hw]
      exact h
    · obtain ⟨m, rfl⟩ : ∃ m : Nat, p = m := ⟨p.toNat, by omega⟩
      have hm : m < e.s.length := by omega
      have hx := List.getElem?_eq_getElem hm
      obtain ⟨x, hxx⟩ : ∃ x, e.s[m] = x := ⟨_, rfl⟩
      rw [hxx] at hx
      have gx := g.sub (List.mem_of_getElem? hx)
      obtain ⟨N1, h1⟩ := sizes e g m
      obtain ⟨N2, h2⟩ := loop r x gx
      refine ⟨N1 + N2 + 20, fun K hK f ps c i k n lp' h1' hi n0 n1 hk => ?_⟩
      obtain ⟨k, rfl⟩ : ∃ j, k = j + 1 := ⟨k - 1, by omega⟩
      have hd : ps.drop (i + 1) = r := by
        have := congrArg List.tail h1'
        simpa [List.tail_drop] using this
      have q := congrArg List.length h1'
      rw [List.length_drop, List.length_cons] at q
      have l1 := g.len
      have l2 := drop_le e.s m
      have l3 := encs_le e
      obtain ⟨c1, c2⟩ := h1 K (by omega)
      have s := F35.go K K f ps c i n e x m (st K f ps c i h1') (by omega) (by omega) hx n0 (by omega) _ _ (by omega) (by omega) (by omega) (by omega) (by omega) c1 c2
      unfold LpO
      rw [aLoop_succ s]
      have h := h2 K (by omega) f ps c (i + 1) k (n + (((enc e.core).length : Int) - (encs (El.cores (e.s.drop m))).length)) lp' hd (by omega) (by omega) (by push_cast; omega) (by simp at hk; omega)
      unfold LpO at h
      rw [h]
      have hw : E34.walk e ((m : Int) :: r) = E34.walk x r := by
        conv => lhs; unfold E34.walk
        rw [if_neg (by omega), Int.toNat_natCast, hx]
      have ho : ofs e ((m : Int) :: r) = (((enc e.core).length : Int) - (encs (El.cores (e.s.drop m))).length) + ofs x r := by
        conv => lhs; unfold ofs
        rw [Int.toNat_natCast, hx]
      rw [hw, ho, Int.add_assoc]
theorem offset (e : El) (g : Gd e) (f : Bool) (ps : List Int) (c : Option Nat) (lp' : ps.length ≤ 30) : ∃ N, Con E N 63 [e.av, .sl f (ns ps) c] (match E34.walk e ps with
    | some _ => .tup [.int .i64 (ofs e ps), .int .i64 0]
    | none => .tup [.int .i64 0, .int .i64 19]) := by
  obtain ⟨N1, h1⟩ := loop ps e g
  obtain ⟨N2, h2⟩ := put e g
  obtain ⟨K, hK⟩ : ∃ K, N1 + N2 + 60 = K := ⟨_, rfl⟩
  have L := h1 K (by omega) f ps c 0 K 0 lp' rfl (by omega) (by omega) (by omega) (by omega)
  have w := h2 K (by omega) 0
  rw [El.av_eq] at w
  rw [Int.zero_add] at L
  have pn := ns_pure ps
  have ln := ns_len ps
  refine ⟨K + 1, con_of E_fn63 (by simp [AV.pureL, AV.pure, El.av_pure, pn]) (Nat.le_of_ble_eq_true rfl) rfl rfl (g := []) ?_⟩
  rw [body_63, c63]
  simp [LpO, bO, lp, lps, c63, firstReg, SO, ec] at L
  cases hw : E34.walk e ps with
  | none =>
    rw [hw] at L
    simp [El.av_eq, -s_round, L, w, End, ln]
  | some x =>
    rw [hw] at L
    simp [El.av_eq, -s_round, L, w, End, ln]
end F37
end
section
open Ab Go TabE Sp E34 F1 F4 F5 F23 F31 F36
namespace F38
def bI : Code := lp (lp c64 0) 0
abbrev SI (f : Bool) (ps : List Int) (c : Option Nat) (n : Int) (i : Nat) (s : Int) (j : Nat) (e : El) : St := ⟨[(1, .sl f (ns ps) c), (2, .ptr (1, 2, 0) 0), (5, .int .i64 n), (6, .int .i64 (i : Int)), (7, .int .i64 s), (8, .int .i64 (j : Int))], [((1, 2, 0), bx (ec e))]⟩
theorem igo (q k1 : Nat) (f ps c) (n : Int) (i : Nat) (s : Int) (j : Nat) (e x : El) (a : List Int) (ca : Option Nat) (le : e.s.length ≤ 1000) (hx : e.s[j]? = some x) (s0 : 0 ≤ s) (s1 : s ≤ 1000000) (la : a.length ≤ 1000000) (A : ∀ h, aCall E q 0 84 [x.av] h = some (.ret (.sl false (bs a) ca), h)) : rnd fn64 bI q k1 (SI f ps c n i s j e) = some (.normal, SI f ps c n i (s + (a.length : Int)) (j + 1) e) := by
  have hi : j < e.s.length := (List.getElem?_eq_some_iff.1 hx).1
  have ix := El.at_ e.fs e.cs e.s j x hx
  have w := w64' ((j : Int) + 1) (by omega) (by omega)
  have w2 := w64' (s + (a.length : Int)) (by omega) (by omega)
  have lv := El.avs_len e.s
  have lb := bs_len a
  rw [El.av_eq] at A
  simp [bI, lp, lps, c64, -indexAddrA, ix, w, w2, hi, lv, lb, A]
abbrev OutI (f : Bool) (ps : List Int) (c : Option Nat) (n : Int) (i : Nat) (s : Int) (e : El) : AExit × St := (.exit 2, ⟨[(1, .sl f (ns ps) c), (2, .ptr (1, 2, 0) 0), (5, .int .i64 n), (6, .int .i64 (i : Int)), (7, .int .i64 s), (8, .int .i64 (e.s.length : Int)), (38, .bool false)], [((1, 2, 0), bx (ec e))]⟩)
theorem ilast (q k1 : Nat) (f ps c) (n : Int) (i : Nat) (s : Int) (e : El) : rnd fn64 bI q k1 (SI f ps c n i s e.s.length e) = some (OutI f ps c n i s e) := by
  have lv := El.avs_len e.s
  simp [bI, lp, lps, c64, lv]
abbrev LpI (K : Nat) := aLoop (aCode E (aCall E K) (dcall (aRun E K)) K 1 fn64 bI) (cleanS 1 ((firstReg bI).bind fn64.head))
theorem iloop (K : Nat) (f ps c) (n : Int) (i : Nat) (e : El) (le : e.s.length ≤ 1000) (B : ∀ x ∈ e.s, ∃ c, ∀ h, aCall E K 0 84 [x.av] h = some (.ret (.sl false (bs (enc x.core)) c), h)) : ∀ (r : List El) (j k : Nat) (s : Int), e.s.drop j = r → j ≤ e.s.length → 0 ≤ s → s + (encs (El.cores r)).length ≤ 1000000 → r.length < k →
    LpI K k (SI f ps c n i s j e) = some (OutI f ps c n i (s + (encs (El.cores r)).length) e)
  | [], j, k, s, h1, hi, n0, hn, hk => by
    obtain ⟨k, rfl⟩ : ∃ j, k = j + 1 := ⟨k - 1, by omega⟩
    have q := congrArg List.length h1
    rw [List.length_drop, List.length_nil] at q
    obtain rfl : j = e.s.length := by omega
    have h := aLoop_end (k := k) (ilast K K f ps c n i s e) (fun h => by cases h)
    simpa [El.cores, encs] using h
  | x :: r, j, k, s, h1, hi, n0, hn, hk => by
    obtain ⟨k, rfl⟩ : ∃ j, k = j + 1 := ⟨k - 1, by omega⟩
    have hx : e.s[j]? = some x := by
      have := congrArg (fun l => l[0]?) h1
      simpa [List.getElem?_drop] using this
    have hd : e.s.drop (j + 1) = r := by
      have := congrArg List.tail h1
      simpa [List.tail_drop] using this
    have hl : j < e.s.length := (List.getElem?_eq_some_iff.1 hx).1
    have e1 : ((encs (El.cores (x :: r))).length : Int) = (enc x.core).length + (encs (El.cores r)).length := by
      rw [El.cores, encs, List.length_append]; omega
    rw [e1] at hn ⊢
    obtain ⟨ca, A⟩ := B x (List.mem_of_getElem? hx)
    have h := iloop K f ps c n i e le B r (j + 1) k (s + (enc x.core).length) hd (by omega) (by omega) (by omega) (by simp at hk; omega)
    unfold LpI at h ⊢
    rw [aLoop_succ (igo K K f ps c n i s j e x _ ca le hx n0 (by omega) (by omega) A), h, Int.add_assoc]
end F38
end
section
open Ab Go TabE Sp E34 F1 F4 F5 F23 F31 F36 F38
namespace F39
def bR : Code := lp c64 0
abbrev SR (f : Bool) (ps : List Int) (c : Option Nat) (i : Nat) (n : Int) (e : El) : St := ⟨[(1, .sl f (ns ps) c), (2, .ptr (1, 2, 0) 0), (5, .int .i64 n), (6, .int .i64 (i : Int))], [((1, 2, 0), bx (ec e))]⟩
theorem go (K : Nat) (f ps c) (i : Nat) (n : Int) (e x : El) (p : Nat) (hp : ps[i]? = some (p : Int)) (lp' : ps.length ≤ 1000) (le : e.s.length ≤ 1000) (hx : e.s[p]? = some x) (n0 : 0 ≤ n) (n1 : n ≤ 10000000) (a : List Int) (ca : Option Nat) (B : Int) (la : a.length ≤ 1000000) (b0 : 0 ≤ B) (b1 : B ≤ 1000000) (A : ∀ h, aCall E K 0 84 [e.av] h = some (.ret (.sl false (bs a) ca), h)) (L : LpI K K (SI f ps c n i 0 p e) = some (OutI f ps c n i B e)) : rnd fn64 bR K K (SR f ps c i n e) = some (.normal, SR f ps c (i + 1) (n + ((a.length : Int) - B)) x) := by
  have hi : i < ps.length := (List.getElem?_eq_some_iff.1 hp).1
  have hl : p < e.s.length := (List.getElem?_eq_some_iff.1 hx).1
  have ip := int_at f c ps i p hp
  have ix := El.at_ e.fs e.cs e.s p x hx
  have w := w64' ((i : Int) + 1) (by omega) (by omega)
  have w2 := w64' ((a.length : Int) - B) (by omega) (by omega)
  have w3 := w64' (n + ((a.length : Int) - B)) (by omega) (by omega)
  have lv := El.avs_len e.s
  have ln := ns_len ps
  have lb := bs_len a
  have p1 : ¬ ((p : Int) < 0) := by omega
  have p2 : ¬ ((e.s.length : Int) ≤ p) := by omega
  have p3 : ¬ (e.s.length ≤ p) := by omega
  rw [El.av_eq e] at A
  simp [LpI, bI, lp, lps, c64, firstReg, SI, ec] at L
  simp [bR, lp, lps, c64, -s_round, -indexAddrA, ip, ix, w, w2, w3, hi, hl, lv, ln, lb, p1, p2, p3, A, L]
end F39
end
end
section
open Ab Go TabE Sp E34 F1 F4 F5 F17 F18
namespace F19
abbrev Fin (e : El) (key : Key) (ys : List Int) : Option (AExit × St) := some (.exit 0, ⟨[(1, .ptr (1, 1, 0) 0), (3, .ref key 0 ys.length none), (4, .int .i64 (e.s.length : Int)), (17, .bool false)], [((1, 1, 0), bx (ec e)), (key, ⟨bs ys, true, true, false, 1, false⟩)]⟩)
abbrev LpE (K : Nat) := aLoop (aCode E (site fn84 (aRun E K)) (dcall (aRun E K)) K 1 fn84 bE) (cleanS 1 ((firstReg bE).bind fn84.head))
theorem loop1 (K : Nat) (e : El) (le : e.s.length ≤ 9223372036854775807) (B : ∀ x ∈ e.s, ∃ c, ∀ h, aCall E K 0 84 [x.av] h = some (.ret (.sl false (bs (enc x.core)) c), h)) :
    ∀ (rest : List El) (i m : Nat) (ys : List Int) (k : Nat), e.s.drop i = rest → i + rest.length = e.s.length → ys.length + (encs (El.cores rest)).length ≤ 2000000 → rest.length < k →
      ∃ m', LpE K k (SR e i (1, 27, m) ys) = Fin e (1, 27, m') (ys ++ encs (El.cores rest))
  | [], i, m, ys, k, h1, h2, hl, hk => by
    obtain ⟨k, rfl⟩ : ∃ j, k = j + 1 := ⟨k - 1, by simp at hk; omega⟩
    obtain rfl : i = e.s.length := by simpa using h2
    exact ⟨m, by unfold LpE; rw [aLoop_end (last K K e _ ys (.inr ⟨m, rfl⟩)) (by simp)]; simp [El.cores, encs]⟩
  | x :: rest, i, m, ys, k, h1, h2, hl, hk => by
    obtain ⟨k, rfl⟩ : ∃ j, k = j + 1 := ⟨k - 1, by simp at hk; omega⟩
    have hx : e.s[i]? = some x := by
      have := congrArg (fun l => l[0]?) h1
      simpa [List.getElem?_drop] using this
    have hd : e.s.drop (i + 1) = rest := by
      have := congrArg List.tail h1
      simpa [List.tail_drop] using this
    obtain ⟨c, hB⟩ := B x (List.mem_of_getElem? hx)
    rw [El.cores, encs, List.length_append] at hl
    obtain ⟨m', h⟩ := loop1 K e le B rest (i + 1) (m + 1) (ys ++ enc x.core) k hd (by simp at h2; omega) (by rw [List.length_append]; omega) (by simp at hk; omega)
    refine ⟨m', ?_⟩
    unfold LpE at h ⊢
    rw [aLoop_succ (next K K e x i m (enc x.core) ys c hx le (by omega) hB), h, El.cores, encs, List.append_assoc]
theorem loop0 (K : Nat) (e : El) (le : e.s.length ≤ 9223372036854775807) (B : ∀ x ∈ e.s, ∃ c, ∀ h, aCall E K 0 84 [x.av] h = some (.ret (.sl false (bs (enc x.core)) c), h)) (hl : (encs (El.cores e.s)).length ≤ 2000000) (hk : e.s.length < K) (hs : e.s ≠ []) :
      ∃ m, LpE K K (S0 e 0) = Fin e (1, 27, m) (encs (El.cores e.s)) := by
  obtain ⟨k, rfl⟩ : ∃ j, K = j + 1 := ⟨K - 1, by omega⟩
  cases hs : e.s with
  | nil => contradiction
  | cons x rest =>
    have hx : e.s[0]? = some x := by rw [hs]; rfl
    obtain ⟨c, hB⟩ := B x (List.mem_of_getElem? hx)
    rw [hs, El.cores, encs, List.length_append] at hl
    obtain ⟨m', h⟩ := loop1 (k + 1) e le B rest 1 0 (enc x.core) k (by rw [hs]; rfl) (by rw [hs]; simp; omega) hl (by rw [hs] at hk; simp at hk; omega)
    unfold LpE at h
    exact ⟨m', by rw [LpE, aLoop_succ (first (k + 1) (k + 1) e x 0 (enc x.core) c hx le (E17.enc_ne x) (by omega) hB), Nat.zero_add, h, El.cores, encs]⟩
theorem emp (K : Nat) (hK : 0 < K) (e : El) (hs : e.s = []) : LpE K K (S0 e 0) = some (.exit 0, ⟨[(1, .ptr (1, 1, 0) 0), (3, .sl true [] (some 0)), (4, .int .i64 0), (17, .bool false)], [((1, 1, 0), bx (ec e))]⟩) := by
  obtain ⟨K, rfl⟩ : ∃ k, K = k + 1 := ⟨K - 1, by omega⟩
  have := last0 (K + 1) (K + 1) e
  rw [hs] at this
  exact aLoop_end this (by simp)
theorem byt (K : Nat) (hK : 0 < K) (e : El) (hs : e.s = []) : LpE K K (SR e 0 (1, 12, 0) e.b) = some (.exit 0, ⟨[(1, .ptr (1, 1, 0) 0), (3, .ref (1, 12, 0) 0 e.b.length none), (4, .int .i64 0), (17, .bool false)], [((1, 1, 0), bx (ec e)), ((1, 12, 0), ⟨bs e.b, true, true, false, 1, false⟩)]⟩) := by
  obtain ⟨K, rfl⟩ : ∃ k, K = k + 1 := ⟨K - 1, by omega⟩
  have := last (K + 1) (K + 1) e (1, 12, 0) e.b (.inl rfl)
  rw [hs] at this
  exact aLoop_end this (by simp)
end F19
end
section
open Ab Go TabE Sp E34 F1 F4 F5 F17 F18
namespace F19
theorem pBlo (e : El) (he : e.ok) (hv : vld e.core) (hl : (enc e.core).length ≤ 60000) (N : Nat) (hN : ∀ x ∈ e.s, Con E N 84 [x.av] (.sl false (bs (enc x.core)) none)) (hs : ¬ e.s = []) (h31 : e.n < 31) : ∃ N, Con E N 84 [e.av] (.sl false (bs (enc e.core)) none) := by
  obtain ⟨v1, v2, v3, v4⟩ := (vld_eq e).1 hv
  obtain ⟨t3, n3⟩ : e.c ≤ 3 ∧ e.n ≤ 268435455 := by
    have := v1; unfold tagE at this
    split at this
    · cases this
    · omega
  have tl := tagO_len e.c e.k e.n
  have el := enc_eq e
  obtain ⟨ct, hct⟩ : ∃ ct, e.b ++ encs (El.cores e.s) = ct := ⟨_, rfl⟩
  rw [hct] at el
  have lel : (enc e.core).length = (TG.tagO e.c e.k e.n).length + ((lenO (ct.length : Int)).length + ct.length) := by rw [el, List.length_append, List.length_append]
  have lct : ct.length = e.b.length + (encs (El.cores e.s)).length := by rw [← hct, List.length_append]
  obtain ⟨K, hK⟩ : ∃ K, N + e.s.length + 60 = K := ⟨_, rfl⟩
  obtain ⟨gc, G⟩ := dig e.n he.nb.1 (by omega)
  have G' := G K (by omega) 0
  refine ⟨K + 1, con_ofO E_fn84 (by simp [AV.pureL, El.av_pure]) (Nat.le_of_ble_eq_true rfl) rfl (g := []) ?_⟩
  rw [body_84, c84, el]
  have cc0 := he.cb.1
  have n0 := he.nb.1
  obtain ⟨K', rfl⟩ : ∃ K', K = K' + 4 := ⟨K - 4, by omega⟩
  have tgl : e.n < 31 → TG.tagO e.c e.k e.n = [64 * e.c + (if e.k then 32 else 0) + e.n] := fun h => by unfold TG.tagO; rw [if_pos h]
  have tgh : ¬ e.n < 31 → TG.tagO e.c e.k e.n = (64 * e.c + (if e.k then 32 else 0) + 31) :: TG.grp e.n := fun h => by unfold TG.tagO; rw [if_neg h]
  have gl := tagO_len e.c e.k e.n
  have m0 : 31 ≤ e.n → (if 31 < e.n then (31 : Int) else e.n) = 31 := fun h => by split <;> omega
  have m1 : e.n < 31 → (e.c * 64 + e.n) % 256 = 64 * e.c + e.n := fun h => by omega
  have m2 : e.n < 31 → (e.c * 64 + 32 + e.n) % 256 = 64 * e.c + 32 + e.n := fun h => by omega
  have m3 : (e.c * 64 + 31) % 256 = 64 * e.c + 31 := by omega
  have m4 : (e.c * 64 + 32 + 31) % 256 = 64 * e.c + 32 + 31 := by omega
  have b0 : ¬ 31 ≤ e.n → ¬ 31 < e.n := fun h => by omega
  have b1 : ¬ 31 ≤ e.n → ¬ 30 < e.n := fun h => by omega
  have b2 : 31 ≤ e.n → 30 < e.n := fun h => by omega
  have g0 : TG.grp e.n ≠ [] ∧ (TG.grp e.n).length ≤ 4 := by unfold TG.grp; split <;> simp
  obtain ⟨gr, hgr⟩ : ∃ gr, TG.grp e.n = gr := ⟨_, rfl⟩
  rw [hgr] at G' tgh g0
  obtain ⟨g0, g4⟩ := g0
  have g1 : 0 < gr.length := List.length_pos_iff.2 g0
  have e0 : gr.length ≤ 70368744177664 := by omega
  have d0 : ct.length ≤ 70368744177664 := by omega
  have gc0 : gr.length + ct.length ≤ 70368744177664 := by omega
  have e1 : gr.length ≤ 70368744177663 := by omega
  have c1 : ct.length ≤ 70368744177663 := by omega
  have gc1 : gr.length + ct.length ≤ 70368744177663 := by omega
  have e2 : gr.length ≤ 70368744177662 := by omega
  have c2 : ct.length ≤ 70368744177662 := by omega
  have gc2 : gr.length + ct.length ≤ 70368744177662 := by omega
  have e3 : gr.length ≤ 70368744177661 := by omega
  have c3 : ct.length ≤ 70368744177661 := by omega
  have gc3 : gr.length + ct.length ≤ 70368744177661 := by omega
  have e4 : gr.length ≤ 70368744177660 := by omega
  have c4 : ct.length ≤ 70368744177660 := by omega
  have gc4 : gr.length + ct.length ≤ 70368744177660 := by omega
  have e5 : gr.length ≤ 70368744177659 := by omega
  have c5 : ct.length ≤ 70368744177659 := by omega
  have gc5 : gr.length + ct.length ≤ 70368744177659 := by omega
  have e6 : gr.length ≤ 70368744177658 := by omega
  have c6 : ct.length ≤ 70368744177658 := by omega
  have gc6 : gr.length + ct.length ≤ 70368744177658 := by omega
  have f1 : ¬ (1 + gr.length ≤ 1) := by omega
  have f2 : 1 + gr.length ≤ 70368744177664 := by omega
  have f3 : 1 + (gr.length + 1) ≤ 70368744177664 := by omega
  have f4 : 1 + (gr.length + (1 + ct.length)) ≤ 70368744177664 := by omega
  have f5 : 2 + ct.length ≤ 70368744177664 := by omega
  have f6 : e.b.length ≤ 70368744177664 := by omega
  have f7 : ct.length ≤ 70368744177664 := by omega
  have pl : ∀ (l : List Int) (x : Int), AV.pureL (bs l ++ [AV.int .u8 x]) = true := fun l x => by rw [show bs l ++ [AV.int .u8 x] = bs (l ++ [x]) from (bs_append l [x]).symm]; exact bs_pure _
  have h1_ : 1 + ct.length ≤ 70368744177664 := by omega
  have hg1_ : gr.length + 1 + ct.length ≤ 70368744177664 := by omega
  have h2_ : 2 + ct.length ≤ 70368744177664 := by omega
  have hg2_ : gr.length + 2 + ct.length ≤ 70368744177664 := by omega
  have h3_ : 3 + ct.length ≤ 70368744177664 := by omega
  have hg3_ : gr.length + 3 + ct.length ≤ 70368744177664 := by omega
  have h4_ : 4 + ct.length ≤ 70368744177664 := by omega
  have hg4_ : gr.length + 4 + ct.length ≤ 70368744177664 := by omega
  have h5_ : 5 + ct.length ≤ 70368744177664 := by omega
  have hg5_ : gr.length + 5 + ct.length ≤ 70368744177664 := by omega
  have hh2_ : gr.length + 1 + 1 + ct.length ≤ 70368744177664 := by omega
  have hh3_ : gr.length + 1 + 1 + 1 + ct.length ≤ 70368744177664 := by omega
  have hh4_ : gr.length + 1 + 1 + 1 + 1 + ct.length ≤ 70368744177664 := by omega
  have hh5_ : gr.length + 1 + 1 + 1 + 1 + 1 + ct.length ≤ 70368744177664 := by omega
  have j2_ : (ct.length + 1 + 1 = 2 + ct.length) = True := eq_true (by omega)
  have j3_ : (ct.length + 1 + 1 + 1 = 3 + ct.length) = True := eq_true (by omega)
  have j4_ : (ct.length + 1 + 1 + 1 + 1 = 4 + ct.length) = True := eq_true (by omega)
  have k1_ : (gr.length + (ct.length + 1) + 1 = gr.length + 1 + 1 + ct.length) = True := eq_true (by omega)
  have k2_ : (gr.length + (ct.length + 1 + 1) + 1 = gr.length + 1 + 1 + 1 + ct.length) = True := eq_true (by omega)
  have k3_ : (gr.length + (ct.length + 1 + 1 + 1) + 1 = gr.length + 1 + 1 + 2 + ct.length) = True := eq_true (by omega)
  have k4_ : (gr.length + (ct.length + 1 + 1 + 1) + 1 = gr.length + 1 + 1 + 1 + 1 + ct.length) = True := eq_true (by omega)
  have k5_ : gr.length + 1 + 1 + 2 + ct.length ≤ 70368744177664 := by omega
  have k6_ : gr.length + 1 + 1 + 3 + ct.length ≤ 70368744177664 := by omega
  have k7_ : (gr.length + 1 + 1 + 2 ≤ 70368744177664) = True := eq_true (by omega)
  have y0 : (0 : Int) ≤ ct.length := by omega
  have le1 : ct.length < 128 → lenO (ct.length : Int) = [(ct.length : Int)] := fun h => by unfold lenO; rw [if_pos (by omega)]
  have le2 : ¬ ct.length < 128 → ct.length < 256 → lenO (ct.length : Int) = [129, (ct.length : Int)] := fun h h' => by unfold lenO; rw [if_neg (by omega), if_pos (by omega)]
  have le3 : ¬ ct.length < 256 → lenO (ct.length : Int) = [130, (ct.length : Int) / 256, (ct.length : Int) % 256] := fun h => by unfold lenO; rw [if_neg (by omega), if_neg (by omega), if_pos (by omega)]
  have n1 : ct.length < 128 → ((ct.length : Int) < 128) = True := fun h => eq_true (by omega)
  have n2 : ¬ ct.length < 128 → ((ct.length : Int) < 128) = False := fun h => eq_false (by omega)
  have n3 : ct.length < 256 → (ct.length : Int) % 256 = ct.length := fun h => by omega
  have n4 : (ct.length : Int).tmod 256 = (ct.length : Int) % 256 := Int.tmod_eq_emod_of_nonneg (by omega)
  have n5 : (ct.length : Int).tdiv 256 = (ct.length : Int) / 256 := Int.tdiv_eq_ediv_of_nonneg (by omega)
  have n6 : (ct.length : Int) % 256 % 256 = (ct.length : Int) % 256 := by omega
  have n7 : ct.length < 256 → (ct.length : Int) / 256 = 0 := fun h => by omega
  have n8 : ¬ ct.length < 256 → (0 < (ct.length : Int) / 256) = True := fun h => eq_true (by omega)
  have n9 : ((ct.length : Int) / 256).tmod 256 = (ct.length : Int) / 256 := by rw [Int.tmod_eq_emod_of_nonneg (by omega)]; omega
  have n10 : ((ct.length : Int) / 256).tdiv 256 = 0 := by rw [Int.tdiv_eq_ediv_of_nonneg (by omega)]; omega
  have n11 : (ct.length : Int) / 256 % 256 = (ct.length : Int) / 256 := by omega
  have n12 := w64' ((ct.length : Int) / 256) (by omega) (by omega)
  have n13 := w64' ((ct.length : Int) % 256) (by omega) (by omega)
  have n14 : ct ≠ [] → (0 < ct.length) = True := fun h => eq_true (List.length_pos_iff.2 h)
  have hk : e.k = true := by cases q : e.k; exact absurd (v3 q) hs; rfl
  have hb := v2 hk
  have cte : encs (El.cores e.s) = ct := by rw [← hct, hb]; rfl
  obtain ⟨m, L⟩ := loop0 (K' + 4) e he.sl (fun x hx => ⟨none, fun h => hN x hx (K' + 4) (by omega) 0 h⟩) (by omega) (by omega) hs
  rw [cte] at L
  have hc : ct ≠ [] := fun q => by
    have := E17.enc_ne
    cases q2 : e.s with
    | nil => exact hs q2
    | cons x r =>
      rw [q2, El.cores, encs] at cte
      rw [q] at cte
      exact E17.enc_ne x (List.append_eq_nil_iff.1 cte).1
  simp [LpE, bE, lp, lps, c84, firstReg, S0, ec, hb, bs_nil, hk] at L
  have h31' : ¬ 31 ≤ e.n := by omega
  rw [tgl h31, hk]
  by_cases h1 : ct.length < 128
  · rw [le1 h1]
    simp [El.av_eq, ↓s_seq, ↓s_reg, ↓s_cond, ↓s_block, ↓s_cons, s_nil, s_loop, firstReg, s_val, s_rgx, s_sqn, s_cdb, s_bke, s_ret', s_skip', s_finr, s_fin1, s_fix, s_clean, o_tmp, o_int, o_nil, l_hit, l_miss, ol_nil, ol_cons, ol_some, x_move, x_assign, x_bin, bn_s, x_callB, x_conv, cvx, convA, frame0, binA, intOp, resL, resA, results1, AV.pure, AV.pureL, keepT, x_box, bxx, x_buildSlice, bsx, x_load, ldx, x_fieldAddr, newK, genOf, setK, lookK, fillA, writeL, writeC, readC, conts, TyI.mk1, fieldAddrA, appendA, copyA, builtinA, AV.cells, gcH, reach, keysT, keepK, inKs, AV.keys, AV.keysL, Ty.isAgg, w_u8, sc_int, sc_bool, sc_sl, sc_mem, bs_pure, bs_kl, bs_length, bs_all, sl_row, sealRow, sealY, bs_cons, bs_nil, hb, hk, L, b0, b1, m2, h31, h31', h1, n1, n3 (by omega), bs_kl, bs_pure, h2_, j2_]
  by_cases h2 : ct.length < 256
  · rw [le2 h1 h2]
    simp [El.av_eq, ↓s_seq, ↓s_reg, ↓s_cond, ↓s_block, ↓s_cons, s_nil, s_loop, firstReg, s_val, s_rgx, s_sqn, s_cdb, s_bke, s_skip', s_clean, o_tmp, o_int, o_nil, l_hit, l_miss, ol_nil, ol_cons, ol_some, x_move, x_assign, x_bin, bn_s, x_callB, x_conv, cvx, convA, frame0, binA, intOp, keepT, x_box, bxx, x_buildSlice, bsx, x_load, ldx, x_fieldAddr, newK, genOf, setK, lookK, fillA, writeL, writeC, readC, conts, TyI.mk1, fieldAddrA, appendA, copyA, builtinA, AV.cells, gcH, reach, keysT, keepK, inKs, AV.keys, AV.keysL, Ty.isAgg, w_u8, sc_int, sc_bool, sc_sl, bs_kl, bs_cons, bs_nil, hb, hk, L, b0, b1, m2, h31, h31', h1, n2, bs_kl]
    simp [↓s_seq, ↓s_reg, ↓s_cond, ↓s_block, ↓s_cons, s_nil, s_round, s_lpn, s_lpe, s_val, s_rgx, s_sqn, s_sqe, s_cdb, s_bkn, s_bke, s_exit, s_ret', s_skip', s_finr, s_fin1, s_fix, s_clean, o_tmp, o_int, l_hit, l_miss, ol_nil, ol_cons, ol_some, x_move, x_assign, x_bin, bn_s, x_callB, x_conv, cvx, convA, binA, intOp, resL, resA, results1, AV.pure, AV.pureL, keepT, x_buildSlice, bsx, newK, genOf, setK, lookK, fillA, writeL, writeC, conts, appendA, copyA, builtinA, AV.cells, gcH, reach, keysT, keepK, inKs, AV.keys, AV.keysL, Ty.isAgg, w_u8, w_i64, w_tdiv, w_tmod, sc_int, sc_mem, bs_pure, bs_kl, bs_length, bs_all, sl_row, sealRow, sealY, n3 h2, n7 h2, n14, bs_kl, bs_pure, hc, h3_, j3_, w_i64]
  · rw [le3 h2]
    simp [El.av_eq, ↓s_seq, ↓s_reg, ↓s_cond, ↓s_block, ↓s_cons, s_nil, s_loop, firstReg, s_val, s_rgx, s_sqn, s_cdb, s_bke, s_skip', s_clean, o_tmp, o_int, o_nil, l_hit, l_miss, ol_nil, ol_cons, ol_some, x_move, x_assign, x_bin, bn_s, x_callB, x_conv, cvx, convA, frame0, binA, intOp, keepT, x_box, bxx, x_buildSlice, bsx, x_load, ldx, x_fieldAddr, newK, genOf, setK, lookK, fillA, writeL, writeC, readC, conts, TyI.mk1, fieldAddrA, appendA, copyA, builtinA, AV.cells, gcH, reach, keysT, keepK, inKs, AV.keys, AV.keysL, Ty.isAgg, w_u8, sc_int, sc_bool, sc_sl, bs_kl, bs_cons, bs_nil, hb, hk, L, b0, b1, m2, h31, h31', h1, n2, bs_kl]
    simp [↓s_seq, ↓s_reg, ↓s_cond, ↓s_block, ↓s_cons, s_nil, s_round, s_lpn, s_lpe, s_val, s_rgx, s_sqn, s_sqe, s_cdb, s_bkn, s_bke, s_exit, s_ret', s_skip', s_finr, s_fin1, s_fix, s_clean, o_tmp, o_int, l_hit, l_miss, ol_nil, ol_cons, ol_some, x_move, x_assign, x_bin, bn_s, x_callB, x_conv, cvx, convA, binA, intOp, resL, resA, results1, AV.pure, AV.pureL, keepT, x_buildSlice, bsx, newK, genOf, setK, lookK, fillA, writeL, writeC, conts, appendA, copyA, builtinA, AV.cells, gcH, reach, keysT, keepK, inKs, AV.keys, AV.keysL, Ty.isAgg, w_u8, w_i64, w_tdiv, w_tmod, sc_int, sc_mem, bs_pure, bs_kl, bs_length, bs_all, sl_row, sealRow, sealY, h2, n6, n8, n9, n10, n11, n12, n14, bs_kl, bs_pure, hc, h4_, j4_, w_i64]
end F19
end
section
open Ab Go TabE Sp E34 F1 F4 F5 F17 F18
namespace F19
theorem pBhi (e : El) (he : e.ok) (hv : vld e.core) (hl : (enc e.core).length ≤ 60000) (N : Nat) (hN : ∀ x ∈ e.s, Con E N 84 [x.av] (.sl false (bs (enc x.core)) none)) (hs : ¬ e.s = []) (h31 : ¬ e.n < 31) : ∃ N, Con E N 84 [e.av] (.sl false (bs (enc e.core)) none) := by
  obtain ⟨v1, v2, v3, v4⟩ := (vld_eq e).1 hv
  obtain ⟨t3, n3⟩ : e.c ≤ 3 ∧ e.n ≤ 268435455 := by
    have := v1; unfold tagE at this
    split at this
    · cases this
    · omega
  have tl := tagO_len e.c e.k e.n
  have el := enc_eq e
  obtain ⟨ct, hct⟩ : ∃ ct, e.b ++ encs (El.cores e.s) = ct := ⟨_, rfl⟩
  rw [hct] at el
  have lel : (enc e.core).length = (TG.tagO e.c e.k e.n).length + ((lenO (ct.length : Int)).length + ct.length) := by rw [el, List.length_append, List.length_append]
  have lct : ct.length = e.b.length + (encs (El.cores e.s)).length := by rw [← hct, List.length_append]
  obtain ⟨K, hK⟩ : ∃ K, N + e.s.length + 60 = K := ⟨_, rfl⟩
  obtain ⟨gc, G⟩ := dig e.n he.nb.1 (by omega)
  have G' := G K (by omega) 0
  refine ⟨K + 1, con_ofO E_fn84 (by simp [AV.pureL, El.av_pure]) (Nat.le_of_ble_eq_true rfl) rfl (g := []) ?_⟩
  rw [body_84, c84, el]
  have cc0 := he.cb.1
  have n0 := he.nb.1
  obtain ⟨K', rfl⟩ : ∃ K', K = K' + 4 := ⟨K - 4, by omega⟩
  have tgl : e.n < 31 → TG.tagO e.c e.k e.n = [64 * e.c + (if e.k then 32 else 0) + e.n] := fun h => by unfold TG.tagO; rw [if_pos h]
  have tgh : ¬ e.n < 31 → TG.tagO e.c e.k e.n = (64 * e.c + (if e.k then 32 else 0) + 31) :: TG.grp e.n := fun h => by unfold TG.tagO; rw [if_neg h]
  have gl := tagO_len e.c e.k e.n
  have m0 : 31 ≤ e.n → (if 31 < e.n then (31 : Int) else e.n) = 31 := fun h => by split <;> omega
  have m1 : e.n < 31 → (e.c * 64 + e.n) % 256 = 64 * e.c + e.n := fun h => by omega
  have m2 : e.n < 31 → (e.c * 64 + 32 + e.n) % 256 = 64 * e.c + 32 + e.n := fun h => by omega
  have m3 : (e.c * 64 + 31) % 256 = 64 * e.c + 31 := by omega
  have m4 : (e.c * 64 + 32 + 31) % 256 = 64 * e.c + 32 + 31 := by omega
  have b0 : ¬ 31 ≤ e.n → ¬ 31 < e.n := fun h => by omega
  have b1 : ¬ 31 ≤ e.n → ¬ 30 < e.n := fun h => by omega
  have b2 : 31 ≤ e.n → 30 < e.n := fun h => by omega
  have g0 : TG.grp e.n ≠ [] ∧ (TG.grp e.n).length ≤ 4 := by unfold TG.grp; split <;> simp
  obtain ⟨gr, hgr⟩ : ∃ gr, TG.grp e.n = gr := ⟨_, rfl⟩
  rw [hgr] at G' tgh g0
  obtain ⟨g0, g4⟩ := g0
  have g1 : 0 < gr.length := List.length_pos_iff.2 g0
  have e0 : gr.length ≤ 70368744177664 := by omega
  have d0 : ct.length ≤ 70368744177664 := by omega
  have gc0 : gr.length + ct.length ≤ 70368744177664 := by omega
  have e1 : gr.length ≤ 70368744177663 := by omega
  have c1 : ct.length ≤ 70368744177663 := by omega
  have gc1 : gr.length + ct.length ≤ 70368744177663 := by omega
  have e2 : gr.length ≤ 70368744177662 := by omega
  have c2 : ct.length ≤ 70368744177662 := by omega
  have gc2 : gr.length + ct.length ≤ 70368744177662 := by omega
  have e3 : gr.length ≤ 70368744177661 := by omega
  have c3 : ct.length ≤ 70368744177661 := by omega
  have gc3 : gr.length + ct.length ≤ 70368744177661 := by omega
  have e4 : gr.length ≤ 70368744177660 := by omega
  have c4 : ct.length ≤ 70368744177660 := by omega
  have gc4 : gr.length + ct.length ≤ 70368744177660 := by omega
  have e5 : gr.length ≤ 70368744177659 := by omega
  have c5 : ct.length ≤ 70368744177659 := by omega
  have gc5 : gr.length + ct.length ≤ 70368744177659 := by omega
  have e6 : gr.length ≤ 70368744177658 := by omega
  have c6 : ct.length ≤ 70368744177658 := by omega
  have gc6 : gr.length + ct.length ≤ 70368744177658 := by omega
  have f1 : ¬ (1 + gr.length ≤ 1) := by omega
  have f2 : 1 + gr.length ≤ 70368744177664 := by omega
  have f3 : 1 + (gr.length + 1) ≤ 70368744177664 := by omega
  have f4 : 1 + (gr.length + (1 + ct.length)) ≤ 70368744177664 := by omega
  have f5 : 2 + ct.length ≤ 70368744177664 := by omega
  have f6 : e.b.length ≤ 70368744177664 := by omega
  have f7 : ct.length ≤ 70368744177664 := by omega
  have pl : ∀ (l : List Int) (x : Int), AV.pureL (bs l ++ [AV.int .u8 x]) = true := fun l x => by rw [show bs l ++ [AV.int .u8 x] = bs (l ++ [x]) from (bs_append l [x]).symm]; exact bs_pure _
  have h1_ : 1 + ct.length ≤ 70368744177664 := by omega
  have hg1_ : gr.length + 1 + ct.length ≤ 70368744177664 := by omega
  have h2_ : 2 + ct.length ≤ 70368744177664 := by omega
  have hg2_ : gr.length + 2 + ct.length ≤ 70368744177664 := by omega
  have h3_ : 3 + ct.length ≤ 70368744177664 := by omega
  have hg3_ : gr.length + 3 + ct.length ≤ 70368744177664 := by omega
  have h4_ : 4 + ct.length ≤ 70368744177664 := by omega
  have hg4_ : gr.length + 4 + ct.length ≤ 70368744177664 := by omega
  have h5_ : 5 + ct.length ≤ 70368744177664 := by omega
  have hg5_ : gr.length + 5 + ct.length ≤ 70368744177664 := by omega
  have hh2_ : gr.length + 1 + 1 + ct.length ≤ 70368744177664 := by omega
  have hh3_ : gr.length + 1 + 1 + 1 + ct.length ≤ 70368744177664 := by omega
  have hh4_ : gr.length + 1 + 1 + 1 + 1 + ct.length ≤ 70368744177664 := by omega
  have hh5_ : gr.length + 1 + 1 + 1 + 1 + 1 + ct.length ≤ 70368744177664 := by omega
  have j2_ : (ct.length + 1 + 1 = 2 + ct.length) = True := eq_true (by omega)
  have j3_ : (ct.length + 1 + 1 + 1 = 3 + ct.length) = True := eq_true (by omega)
  have j4_ : (ct.length + 1 + 1 + 1 + 1 = 4 + ct.length) = True := eq_true (by omega)
  have k1_ : (gr.length + (ct.length + 1) + 1 = gr.length + 1 + 1 + ct.length) = True := eq_true (by omega)
  have k2_ : (gr.length + (ct.length + 1 + 1) + 1 = gr.length + 1 + 1 + 1 + ct.length) = True := eq_true (by omega)
  have k3_ : (gr.length + (ct.length + 1 + 1 + 1) + 1 = gr.length + 1 + 1 + 2 + ct.length) = True := eq_true (by omega)
  have k4_ : (gr.length + (ct.length + 1 + 1 + 1) + 1 = gr.length + 1 + 1 + 1 + 1 + ct.length) = True := eq_true (by omega)
  have k5_ : gr.length + 1 + 1 + 2 + ct.length ≤ 70368744177664 := by omega
  have k6_ : gr.length + 1 + 1 + 3 + ct.length ≤ 70368744177664 := by omega
  have k7_ : (gr.length + 1 + 1 + 2 ≤ 70368744177664) = True := eq_true (by omega)
  have y0 : (0 : Int) ≤ ct.length := by omega
  have le1 : ct.length < 128 → lenO (ct.length : Int) = [(ct.length : Int)] := fun h => by unfold lenO; rw [if_pos (by omega)]
  have le2 : ¬ ct.length < 128 → ct.length < 256 → lenO (ct.length : Int) = [129, (ct.length : Int)] := fun h h' => by unfold lenO; rw [if_neg (by omega), if_pos (by omega)]
  have le3 : ¬ ct.length < 256 → lenO (ct.length : Int) = [130, (ct.length : Int) / 256, (ct.length : Int) % 256] := fun h => by unfold lenO; rw [if_neg (by omega), if_neg (by omega), if_pos (by omega)]
  have n1 : ct.length < 128 → ((ct.length : Int) < 128) = True := fun h => eq_true (by omega)
  have n2 : ¬ ct.length < 128 → ((ct.length : Int) < 128) = False := fun h => eq_false (by omega)
  have n3 : ct.length < 256 → (ct.length : Int) % 256 = ct.length := fun h => by omega
  have n4 : (ct.length : Int).tmod 256 = (ct.length : Int) % 256 := Int.tmod_eq_emod_of_nonneg (by omega)
  have n5 : (ct.length : Int).tdiv 256 = (ct.length : Int) / 256 := Int.tdiv_eq_ediv_of_nonneg (by omega)
  have n6 : (ct.length : Int) % 256 % 256 = (ct.length : Int) % 256 := by omega
  have n7 : ct.length < 256 → (ct.length : Int) / 256 = 0 := fun h => by omega
  have n8 : ¬ ct.length < 256 → (0 < (ct.length : Int) / 256) = True := fun h => eq_true (by omega)
  have n9 : ((ct.length : Int) / 256).tmod 256 = (ct.length : Int) / 256 := by rw [Int.tmod_eq_emod_of_nonneg (by omega)]; omega
  have n10 : ((ct.length : Int) / 256).tdiv 256 = 0 := by rw [Int.tdiv_eq_ediv_of_nonneg (by omega)]; omega
  have n11 : (ct.length : Int) / 256 % 256 = (ct.length : Int) / 256 := by omega
  have n12 := w64' ((ct.length : Int) / 256) (by omega) (by omega)
  have n13 := w64' ((ct.length : Int) % 256) (by omega) (by omega)
  have n14 : ct ≠ [] → (0 < ct.length) = True := fun h => eq_true (List.length_pos_iff.2 h)
  have hk : e.k = true := by cases q : e.k; exact absurd (v3 q) hs; rfl
  have hb := v2 hk
  have cte : encs (El.cores e.s) = ct := by rw [← hct, hb]; rfl
  obtain ⟨m, L⟩ := loop0 (K' + 4) e he.sl (fun x hx => ⟨none, fun h => hN x hx (K' + 4) (by omega) 0 h⟩) (by omega) (by omega) hs
  rw [cte] at L
  have hc : ct ≠ [] := fun q => by
    have := E17.enc_ne
    cases q2 : e.s with
    | nil => exact hs q2
    | cons x r =>
      rw [q2, El.cores, encs] at cte
      rw [q] at cte
      exact E17.enc_ne x (List.append_eq_nil_iff.1 cte).1
  simp [LpE, bE, lp, lps, c84, firstReg, S0, ec, hb, bs_nil, hk] at L
  have h31' : 31 ≤ e.n := by omega
  rw [tgh h31, hk]
  by_cases h1 : ct.length < 128
  · rw [le1 h1]
    simp [El.av_eq, ↓s_seq, ↓s_reg, ↓s_cond, ↓s_block, ↓s_cons, s_nil, s_loop, firstReg, s_val, s_cax, s_ret, s_rgx, s_sqn, s_cdb, s_bke, s_ret', s_finr, s_fin1, s_fix, s_clean, o_tmp, o_int, o_nil, l_hit, l_miss, ol_nil, ol_cons, ol_some, x_move, x_assign, x_bin, bn_s, x_callF, cl_no, x_callB, x_conv, cvx, convA, frame0, binA, intOp, resL, resA, results1, sealLW, AV.pure, AV.pureL, keepT, x_box, bxx, x_buildSlice, bsx, x_load, ldx, x_fieldAddr, newK, genOf, setK, lookK, fillA, writeL, writeC, readC, conts, TyI.mk1, fieldAddrA, appendA, copyA, builtinA, AV.cells, gcH, reach, keysT, keepK, inKs, AV.keys, AV.keysL, Ty.isAgg, w_u8, sc_int, sc_bool, sc_sl, sc_mem, bs_pure, bs_kl, bs_length, bs_cells, bs_all, sl_row, sealRow, sealY, sl_int, nat_1, bs_cons, bs_nil, s_site, s_stxN, hb, hk, L, m0, b2, m4, h31', G', g0, e1, e2, h1, n1, n3 (by omega), El.keysL_app, bs_kl, bs_append, Rw.pureL_app, bs_pure, hg2_, k1_]
  by_cases h2 : ct.length < 256
  · rw [le2 h1 h2]
    simp [El.av_eq, ↓s_seq, ↓s_reg, ↓s_cond, ↓s_block, ↓s_cons, s_nil, s_loop, firstReg, s_val, s_cax, s_ret, s_rgx, s_sqn, s_cdb, s_bke, s_clean, o_tmp, o_int, o_nil, l_hit, l_miss, ol_nil, ol_cons, ol_some, x_move, x_assign, x_bin, bn_s, x_callF, cl_no, x_callB, x_conv, cvx, convA, frame0, binA, intOp, sealLW, AV.pure, AV.pureL, keepT, x_box, bxx, x_buildSlice, bsx, x_load, ldx, x_fieldAddr, newK, genOf, setK, lookK, fillA, writeL, writeC, readC, conts, TyI.mk1, fieldAddrA, appendA, copyA, builtinA, AV.cells, gcH, reach, keysT, keepK, inKs, AV.keys, AV.keysL, Ty.isAgg, w_u8, sc_int, sc_bool, sc_sl, sc_mem, bs_kl, bs_length, bs_cells, sl_int, nat_1, bs_cons, bs_nil, s_site, s_stxN, hb, hk, L, m0, b2, m4, h31', G', g0, e1, h1, n2, bs_kl, bs_append]
    simp [↓s_seq, ↓s_reg, ↓s_cond, ↓s_block, ↓s_cons, s_nil, s_round, s_lpn, s_lpe, s_val, s_rgx, s_sqn, s_sqe, s_cdb, s_bkn, s_bke, s_exit, s_ret', s_skip', s_finr, s_fin1, s_fix, s_clean, o_tmp, o_int, l_hit, l_miss, ol_nil, ol_cons, ol_some, x_move, x_assign, x_bin, bn_s, x_callB, x_conv, cvx, convA, binA, intOp, resL, resA, results1, AV.pure, AV.pureL, keepT, x_buildSlice, bsx, newK, genOf, setK, lookK, fillA, writeL, writeC, conts, appendA, copyA, builtinA, AV.cells, gcH, reach, keysT, keepK, inKs, AV.keys, AV.keysL, Ty.isAgg, w_u8, w_i64, w_tdiv, w_tmod, sc_int, sc_mem, bs_pure, bs_kl, bs_length, bs_all, sl_row, sealRow, sealY, e2, e3, n3 h2, n7 h2, n14, El.keysL_app, bs_kl, Rw.pureL_app, bs_pure, hc, hg3_, k2_, w_i64]
  · rw [le3 h2]
    simp [El.av_eq, ↓s_seq, ↓s_reg, ↓s_cond, ↓s_block, ↓s_cons, s_nil, s_loop, firstReg, s_val, s_cax, s_ret, s_rgx, s_sqn, s_cdb, s_bke, s_clean, o_tmp, o_int, o_nil, l_hit, l_miss, ol_nil, ol_cons, ol_some, x_move, x_assign, x_bin, bn_s, x_callF, cl_no, x_callB, x_conv, cvx, convA, frame0, binA, intOp, sealLW, AV.pure, AV.pureL, keepT, x_box, bxx, x_buildSlice, bsx, x_load, ldx, x_fieldAddr, newK, genOf, setK, lookK, fillA, writeL, writeC, readC, conts, TyI.mk1, fieldAddrA, appendA, copyA, builtinA, AV.cells, gcH, reach, keysT, keepK, inKs, AV.keys, AV.keysL, Ty.isAgg, w_u8, sc_int, sc_bool, sc_sl, sc_mem, bs_kl, bs_length, bs_cells, sl_int, nat_1, bs_cons, bs_nil, s_site, s_stxN, hb, hk, L, m0, b2, m4, h31', G', g0, e1, h1, n2, bs_kl, bs_append]
    simp [↓s_seq, ↓s_reg, ↓s_cond, ↓s_block, ↓s_cons, s_nil, s_round, s_lpn, s_lpe, s_val, s_rgx, s_sqn, s_sqe, s_cdb, s_bkn, s_bke, s_exit, s_ret', s_skip', s_finr, s_fin1, s_fix, s_clean, o_tmp, o_int, l_hit, l_miss, ol_nil, ol_cons, ol_some, x_move, x_assign, x_bin, bn_s, x_callB, x_conv, cvx, convA, binA, intOp, resL, resA, results1, AV.pure, AV.pureL, keepT, x_buildSlice, bsx, newK, genOf, setK, lookK, fillA, writeL, writeC, conts, appendA, copyA, builtinA, AV.cells, gcH, reach, keysT, keepK, inKs, AV.keys, AV.keysL, Ty.isAgg, w_u8, w_i64, w_tdiv, w_tmod, sc_int, sc_mem, bs_pure, bs_kl, bs_length, bs_all, sl_row, sealRow, sealY, e2, e4, h2, n6, n8, n9, n10, n11, n12, n14, El.keysL_app, bs_kl, Rw.pureL_app, bs_pure, hc, hg4_, k3_, w_i64]
end F19
end
