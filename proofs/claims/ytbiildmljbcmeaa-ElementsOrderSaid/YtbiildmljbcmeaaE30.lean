/- Own work, no conditions. -/
import Derived.Test.YtbiildmljbcmeaaE26
import Derived.Test.YtbiildmljbcmeaaP5
import Derived.Test.YtbiildmljbcmeaaB40
import Derived.KernelRfl
section
/- E.Of at the evaluator: what it answers. No conditions. -/
open Ab Go TabE Sp E18 E20 E22 E23 E26
set_option maxRecDepth 20000
set_option linter.unusedSimpArgs false
set_option linter.unusedVariables false
set_option maxHeartbeats 8000000
namespace E27
theorem lastS (q0 k1 : Nat) (f q) (l : List G) (key : Key) (st : List El) (hkey : ∃ m, key = (1, 49, m) ∨ key = (1, 92, m)) (i : Nat) (hi : i = min 39 l.length) :
    rndO fn22 b22 q0 k1 (S f (l.map G.av) q key st i) = some (.exit 0, ⟨[(1, .ptr (1, 1, 0) 0), (2, .ptr (1, 2, 0) 0), (3, .ref key 0 st.length none), (4, .int .i64 (i : Int)), (17, .bool false)], [((1, 1, 0), bx [.sl f (l.map G.av) q]), ((1, 2, 0), bx Z), (key, ⟨El.fl st, true, true, false, 5, true⟩)]⟩) := by
  by_cases h : i < l.length
  · have i39 : i = 39 := by omega
    subst i39
    have h' : (39 : Int) < l.length := by omega
    obtain ⟨m, rfl | rfl⟩ := hkey <;> simp [b22, lp, lps, c22, ↓s_seq, ↓s_reg, ↓s_cond, ↓s_cons, ↓s_consG, s_nil, firstReg, s_gt, s_wb, s_val, s_rgx, s_sqn, s_sqe, s_cdb, s_exit, s_clean, o_tmp, o_int, l_hit, l_miss, ol_nil, ol_cons, ol_some, x_move, x_pick, pk_t, x_bin, bn_s, x_callB, binA, intOp, keepT, x_load, ldx, x_fieldAddr, newK, genOf, setK, lookK, writeL, writeC, readC, conts, TyI.mk1, fieldAddrA, appendA, copyA, builtinA, AV.cells, gcH, reach, keysT, keepK, inKs, AV.keys, AV.keysL, Ty.isAgg, h', El.fl_keys]
  · obtain ⟨m, rfl | rfl⟩ := hkey <;> simp [b22, lp, lps, c22, ↓s_seq, ↓s_reg, ↓s_cond, ↓s_cons, ↓s_consG, s_nil, firstReg, s_gf, s_wb, s_val, s_rgx, s_sqn, s_sqe, s_cdb, s_exit, s_clean, o_tmp, o_int, o_bool, l_hit, l_miss, ol_nil, ol_cons, ol_some, x_move, x_pick, pk_f, x_bin, bn_s, x_callB, binA, intOp, keepT, x_load, ldx, x_fieldAddr, newK, genOf, setK, lookK, writeL, writeC, readC, conts, TyI.mk1, fieldAddrA, appendA, copyA, builtinA, AV.cells, gcH, reach, keysT, keepK, inKs, AV.keys, AV.keysL, Ty.isAgg, h, El.fl_keys]
theorem last0 (q0 k1 : Nat) (f q) :
    rndO fn22 b22 q0 k1 (S0 f [] q 0) = some (.exit 0, ⟨[(1, .ptr (1, 1, 0) 0), (2, .ptr (1, 2, 0) 0), (3, .sl true [] (some 0)), (4, .int .i64 0), (17, .bool false)], [((1, 1, 0), bx [.sl f [] q]), ((1, 2, 0), bx Z)]⟩) := by
  simp [b22, lp, lps, c22, ↓s_seq, ↓s_reg, ↓s_cond, ↓s_cons, ↓s_consG, s_nil, firstReg, s_gf, s_wb, s_val, s_rgx, s_sqn, s_sqe, s_cdb, s_exit, s_clean, o_tmp, o_int, o_bool, l_hit, l_miss, ol_nil, ol_cons, ol_some, x_move, x_pick, pk_f, x_bin, bn_s, x_callB, binA, intOp, keepT, x_load, ldx, x_fieldAddr, newK, genOf, setK, lookK, writeL, writeC, readC, conts, TyI.mk1, fieldAddrA, appendA, copyA, builtinA, AV.cells, gcH, reach, keysT, keepK, inKs, AV.keys, AV.keysL, Ty.isAgg]
theorem step (K : Nat) (f q) (l : List G) (hl : ∀ g ∈ l, g.ok) (ll : l.length ≤ 9223372036854775807) (i : Nat) (g : G) (hx : l[i]? = some g) (hi : i < 39) (key : Key) (hkey : ∃ m, key = (1, 49, m) ∨ key = (1, 92, m)) (hne : (sq l i).length ≠ 0)
    (T : ∀ k : Int, 0 ≤ k → k < 256 → ∀ h, aCall E K 0 71 [.agg [.int .u8 g.c, .int .u8 k, .int .u32 g.n]] h = some (.ret (.agg [.int .u8 (g.c % 4), .bool (decide (k % 2 = 1)), .int .u32 (tn g.c k g.n)]), h))
    (D : ∀ h, aCall E K 0 40 [(nd g ((sq l i).drop ((sq l i).length - kk g (sq l i).length))).av] h = some (.ret (.int .i64 (dep (nd g ((sq l i).drop ((sq l i).length - kk g (sq l i).length))).core)), h)) :
    ∃ key', (∃ m, key' = (1, 49, m) ∨ key' = (1, 92, m)) ∧ rndO fn22 b22 K K (S f (l.map G.av) q key (sq l i) i) = some (.normal, S f (l.map G.av) q key' (sq l (i + 1)) (i + 1)) := by
  have og := hl g (List.mem_of_getElem? hx)
  have iv := inv l hl i (by omega)
  have ln := cnts_len (sq l i)
  have e : sq l (i + 1) = E26.nx (sq l i) g := by rw [sq, hx]
  rw [e]
  generalize sq l i = st at *
  by_cases ha : g.a % 3 = 0
  · have t := T 0 (by omega) (by omega)
    have e2 : E26.nx st g = st ++ [leaf g] := by unfold E26.nx; rw [if_pos ha]
    rw [e2]
    exact ⟨_, ⟨_, .inl rfl⟩, leafR key st (by omega) hkey K K f q l i g og hx hi ha ll t⟩
  have t := T 1 (by omega) (by omega)
  have e2 : E26.nx st g = if dep (nd g (st.drop (st.length - kk g st.length))).core < 15 then st.take (st.length - kk g st.length) ++ [nd g (st.drop (st.length - kk g st.length))] else st := by unfold E26.nx; rw [if_neg ha]
  rw [e2]
  have kl := kk_le g st.length
  have hkp : st.length = kk g st.length + (st.length - kk g st.length) := by omega
  by_cases h2 : g.a % 3 = 2
  · exact nodeA key st (by omega) hne hkey _ _ hkp (by unfold kk; rw [if_pos h2]) K K f q l i g og hx hi ha ll h2 _ t D
  have h3 : g.a % 3 ≠ 2 ∧ (if (st.length : Int) < g.b % 5 then (st.length : Int) else g.b % 5) = (kk g st.length : Int) := by
    refine ⟨h2, ?_⟩
    unfold kk
    rw [if_neg h2]
    split <;> omega
  by_cases k0 : kk g st.length = 0
  · exact E24.nodeC key st (by omega) hne hkey _ _ hkp k0 K K f q l i g og hx hi ha ll h3 _ t D
  by_cases k1 : kk g st.length = st.length
  · exact E24.nodeB key st (by omega) hne hkey _ _ hkp k1 K K f q l i g og hx hi ha ll h3 _ t D
  · exact E25.nodeD key st (by omega) hne hkey _ _ hkp ⟨by omega, by omega⟩ K K f q l i g og hx hi ha ll h3 _ t D
theorem first (K : Nat) (f q) (l : List G) (hl : ∀ g ∈ l, g.ok) (ll : l.length ≤ 9223372036854775807) (g : G) (hx : l[0]? = some g)
    (T : ∀ k : Int, 0 ≤ k → k < 256 → ∀ h, aCall E K 0 71 [.agg [.int .u8 g.c, .int .u8 k, .int .u32 g.n]] h = some (.ret (.agg [.int .u8 (g.c % 4), .bool (decide (k % 2 = 1)), .int .u32 (tn g.c k g.n)]), h))
    (D : ∀ h, aCall E K 0 40 [(nd g []).av] h = some (.ret (.int .i64 (dep (nd g []).core)), h)) :
    ∃ key', (∃ m, key' = (1, 49, m) ∨ key' = (1, 92, m)) ∧ rndO fn22 b22 K K (S0 f (l.map G.av) q 0) = some (.normal, S f (l.map G.av) q key' (sq l 1) 1) := by
  have og := hl g (List.mem_of_getElem? hx)
  have e : sq l 1 = E26.nx [] g := by rw [sq, hx]; rfl
  have d1 : dep (nd g []).core = 1 := rfl
  rw [d1] at D
  rw [e]
  by_cases ha : g.a % 3 = 0
  · have t := T 0 (by omega) (by omega)
    have e2 : E26.nx [] g = [leaf g] := by unfold E26.nx; rw [if_pos ha]; rfl
    rw [e2]
    exact ⟨_, ⟨_, .inl rfl⟩, leaf0 K K f q l 0 g og hx (by omega) ha ll t⟩
  have t := T 1 (by omega) (by omega)
  have e2 : E26.nx [] g = [nd g []] := by unfold E26.nx; rw [if_neg ha]; simp [d1]
  rw [e2]
  exact ⟨_, ⟨_, .inr rfl⟩, node0 K K f q l 0 g og hx (by omega) ha ll t D⟩
abbrev Fin (f : Bool) (q : Option Nat) (l : List G) (key : Key) (st : List El) : Option (AExit × St) := some (.exit 0, ⟨[(1, .ptr (1, 1, 0) 0), (2, .ptr (1, 2, 0) 0), (3, .ref key 0 st.length none), (4, .int .i64 ((min 39 l.length : Nat) : Int)), (17, .bool false)], [((1, 1, 0), bx [.sl f (l.map G.av) q]), ((1, 2, 0), bx Z), (key, ⟨El.fl st, true, true, false, 5, true⟩)]⟩)
theorem loop (K : Nat) (f q) (l : List G) (hl : ∀ g ∈ l, g.ok) (ll : l.length ≤ 9223372036854775807)
    (T : ∀ g ∈ l, ∀ k : Int, 0 ≤ k → k < 256 → ∀ h, aCall E K 0 71 [.agg [.int .u8 g.c, .int .u8 k, .int .u32 g.n]] h = some (.ret (.agg [.int .u8 (g.c % 4), .bool (decide (k % 2 = 1)), .int .u32 (tn g.c k g.n)]), h))
    (D : ∀ i g, i < 39 → l[i]? = some g → ∀ h, aCall E K 0 40 [(nd g ((sq l i).drop ((sq l i).length - kk g (sq l i).length))).av] h = some (.ret (.int .i64 (dep (nd g ((sq l i).drop ((sq l i).length - kk g (sq l i).length))).core)), h)) :
    ∀ (n i : Nat) (key : Key) (k : Nat), (∃ m, key = (1, 49, m) ∨ key = (1, 92, m)) → i + n = min 39 l.length → 0 < i → n < k →
      ∃ key', (∃ m, key' = (1, 49, m) ∨ key' = (1, 92, m)) ∧ aLoop (aCode E (site fn22 (aRun E K)) (dcall (aRun E K)) K 1 fn22 b22) (cleanS 1 ((firstReg b22).bind fn22.head)) k (S f (l.map G.av) q key (sq l i) i) = Fin f q l key' (sq l (min 39 l.length))
  | 0, i, key, k, hkey, hi, i0, hk => by
    obtain ⟨k, rfl⟩ : ∃ j, k = j + 1 := ⟨k - 1, by omega⟩
    obtain rfl : i = min 39 l.length := by omega
    exact ⟨key, hkey, aLoop_end (lastS K K f q l key _ hkey _ rfl) (by simp)⟩
  | n + 1, i, key, k, hkey, hi, i0, hk => by
    obtain ⟨k, rfl⟩ : ∃ j, k = j + 1 := ⟨k - 1, by omega⟩
    have hx : l[i]? = some (l[i]'(by omega)) := List.getElem?_eq_getElem _
    have hne : (sq l i).length ≠ 0 := by
      obtain ⟨j, rfl⟩ : ∃ j, i = j + 1 := ⟨i - 1, by omega⟩
      exact sq_ne l j (by omega)
    obtain ⟨key1, hk1, h1⟩ := step K f q l hl ll i _ hx (by omega) key hkey hne (T _ (List.mem_of_getElem? hx)) (D i _ (by omega) hx)
    obtain ⟨key2, hk2, h2⟩ := loop K f q l hl ll T D n (i + 1) key1 k hk1 (by omega) (by omega) (by omega)
    exact ⟨key2, hk2, by rw [aLoop_succ h1, h2]⟩
end E27

end
section
/- E.Of at the evaluator: its answer. No conditions. -/
open Ab Go TabE Sp E18 E20 E22 E23 E26
set_option maxRecDepth 20000
set_option linter.unusedSimpArgs false
set_option linter.unusedVariables false
set_option maxHeartbeats 8000000
namespace E28
theorem sealX_fl (n : Nat) (h : Heap) (key : Key) (st : List El) (hk : lookK h key = some ⟨El.fl st, true, true, false, 5, true⟩) : sealX (n + 2) h (.ref key 0 st.length none) = some (.sl false (El.avs st) none, setK h key ⟨El.fl st, true, false, false, 5, true⟩) := by
  unfold sealX sealA
  have hp : (AV.ref key 0 st.length none).pure = false := rfl
  have f3 : (El.fl st).take (st.length * 5) = El.fl st := by rw [El.fl_take, List.take_length]
  simp only [hp, Bool.false_eq_true, if_false, hk]
  rw [if_pos ⟨trivial, by rw [El.fl_len]; omega, by simp⟩]
  simp only [List.drop_zero, f3]
  rw [sealL_of_pure n _ _ (El.fl_pure st)]
  simp only [El.fl_chunk]
theorem of (f : Bool) (q : Option Nat) (l : List G) (hl : ∀ g ∈ l, g.ok) (ll : l.length ≤ 9223372036854775807) : ∃ N, Con E N 22 [.agg [.sl f (l.map G.av) q]] (ofE l).av := by
  obtain ⟨N, hN⟩ := unif (P := fun (i n : Nat) => ∀ g, l[i]? = some g → Con E n 40 [(nd g ((sq l i).drop ((sq l i).length - kk g (sq l i).length))).av] (.int .i64 (dep (nd g ((sq l i).drop ((sq l i).length - kk g (sq l i).length))).core))) (fun i n m h hm g hg => (h g hg).mono hm) (List.range 39) (fun i hi => by
    have hi' : i < 39 := List.mem_range.1 hi
    cases hg : l[i]? with
    | none => exact ⟨0, fun g h => by cases h⟩
    | some g =>
      have iv := inv l hl i (by omega)
      have ln := cnts_len (sq l i)
      have w := nd_W g (hl g (List.mem_of_getElem? hg)) ((sq l i).drop ((sq l i).length - kk g (sq l i).length)) (fun x hx => iv.2 x (List.mem_of_mem_drop hx)) (by rw [List.length_drop]; omega)
      obtain ⟨n, hn⟩ := E12.depth _ w.1 (by omega)
      exact ⟨n, fun g' h => by cases h; exact hn⟩)
  obtain ⟨K, hK⟩ : ∃ K, N + 100 = K := ⟨_, rfl⟩
  have T : ∀ g ∈ l, ∀ k : Int, 0 ≤ k → k < 256 → ∀ h, aCall E K 0 71 [.agg [.int .u8 g.c, .int .u8 k, .int .u32 g.n]] h = some (.ret (.agg [.int .u8 (g.c % 4), .bool (decide (k % 2 = 1)), .int .u32 (tn g.c k g.n)]), h) := fun g hg k k0 k1 h =>
    E20.of g.c k g.n (hl g hg).2.2.1 ⟨k0, k1⟩ (hl g hg).2.2.2.2.1 K (by omega) 0 h
  have D := fun i g (hi : i < 39) (hx : l[i]? = some g) h => hN i (List.mem_range.2 hi) g hx K (by omega) 0 h
  refine ⟨K + 1, con_ofO E_fn22 (by simp [AV.pureL, AV.pure]) (Nat.le_of_ble_eq_true rfl) rfl (g := []) ?_⟩
  rw [body_22, c22]
  cases hc : l with
  | nil =>
    obtain ⟨k, hk⟩ : ∃ k, K = k + 1 := ⟨K - 1, by omega⟩
    have L : aLoop (aCode E (site fn22 (aRun E K)) (dcall (aRun E K)) K 1 fn22 b22) (cleanS 1 ((firstReg b22).bind fn22.head)) K (S0 f [] q 0) = some (.exit 0, ⟨[(1, .ptr (1, 1, 0) 0), (2, .ptr (1, 2, 0) 0), (3, .sl true [] (some 0)), (4, .int .i64 0), (17, .bool false)], [((1, 1, 0), bx [.sl f [] q]), ((1, 2, 0), bx Z)]⟩) := by
      rw [hk]; exact aLoop_end (E27.last0 (k + 1) (k + 1) f q) (by simp)
    simp [b22, lp, lps, c22, firstReg, bx, Z, S0] at L
    have t : ofE [] = .mk 0 true 16 true [] (some 0) true [] (some 0) := rfl
    rw [t]
    simp [↓s_seq, ↓s_reg, ↓s_cond, ↓s_block, ↓s_cons, s_nil, s_loop, firstReg, s_val, s_skip, s_rgx, s_sqn, s_cdb, s_bke, s_ret', s_skip', s_finr, s_fin1, s_fix, s_clean, o_tmp, o_int, o_bool, o_nil, l_hit, l_miss, ol_nil, ol_cons, ol_some, x_move, x_assign, x_bin, bn_s, x_callB, frame0, binA, intOp, resL, resA, results1, AV.pure, AV.pureL, keepT, x_alloc, x_box, bxx, x_build, bdx, x_store, stx, newK, genOf, setK, lookK, fillA, writeL, writeC, readC, conts, TyI.mk1, appendA, copyA, builtinA, AV.cells, gcH, reach, keysT, keepK, inKs, AV.keys, AV.keysL, Ty.isAgg, sc_int, sc_bool, sc_sl, sl_agg, bs_nil, i_beq, L, El.av, El.avs]
  | cons g r =>
    rw [← hc]
    have hx : l[0]? = some g := by rw [hc]; rfl
    have l0 : 0 < l.length := by rw [hc]; simp
    obtain ⟨key1, hk1, h1⟩ := E27.first K f q l hl ll g hx (T g (by rw [hc]; simp)) (by simpa [sq] using D 0 g (by omega) hx)
    obtain ⟨k, hk⟩ : ∃ k, K = k + 1 := ⟨K - 1, by omega⟩
    obtain ⟨key, hkey, h2⟩ := E27.loop K f q l hl ll T D (min 39 l.length - 1) 1 key1 k hk1 (by omega) (by omega) (by omega)
    have L : aLoop (aCode E (site fn22 (aRun E K)) (dcall (aRun E K)) K 1 fn22 b22) (cleanS 1 ((firstReg b22).bind fn22.head)) K (S0 f (l.map G.av) q 0) = E27.Fin f q l key (sq l (min 39 l.length)) := by
      have hk' : aLoop (aCode E (site fn22 (aRun E K)) (dcall (aRun E K)) K 1 fn22 b22) (cleanS 1 ((firstReg b22).bind fn22.head)) (k + 1) (S0 f (l.map G.av) q 0) = E27.Fin f q l key (sq l (min 39 l.length)) := by rw [aLoop_succ h1]; exact h2
      rwa [← hk] at hk'
    have hne : (sq l (min 39 l.length)).length ≠ 0 := by
      obtain ⟨j, hj⟩ : ∃ j, min 39 l.length = j + 1 := ⟨min 39 l.length - 1, by omega⟩
      rw [hj]; exact sq_ne l j (by omega)
    have iv := inv l hl (min 39 l.length) (by omega)
    have ln := cnts_len (sq l (min 39 l.length))
    unfold ofE
    unfold E27.Fin at L
    generalize sq l (min 39 l.length) = st at L hne iv ln ⊢
    simp [b22, lp, lps, c22, firstReg, bx, Z, S0] at L
    have l1 := El.fl_len st
    have l2 := El.fl_keys st
    have l3 := El.fl_pure st
    by_cases one : st.length = 1
    · obtain ⟨x, rfl⟩ : ∃ x, st = [x] := List.length_eq_one_iff.1 one
      have t : top [x] = x := rfl
      rw [t, El.av_eq]
      rw [El.fl_one] at L
      simp only [List.length_singleton] at L
      obtain ⟨m, rfl | rfl⟩ := hkey <;> simp [↓s_seq, ↓s_reg, ↓s_cond, ↓s_block, ↓s_cons, s_nil, s_loop, firstReg, s_val, s_skip, s_rgx, s_sqn, s_sqr, s_cdb, s_bke, s_ret', s_finr, s_fin1, s_fix, s_clean, o_tmp, o_int, o_nil, l_hit, l_miss, ol_nil, ol_cons, ol_some, x_move, x_assign, x_bin, bn_s, x_callB, frame0, binA, intOp, resL, resA, results1, AV.pure, AV.pureL, keepT, x_alloc, x_box, bxx, x_load, ldx, x_store, stx, x_indexAddr, iax, newK, genOf, setK, lookK, writeL, writeC, readC, conts, TyI.mk1, indexAddrA, appendA, copyA, builtinA, AV.cells, gcH, reach, keysT, keepK, inKs, AV.keys, AV.keysL, Ty.isAgg, sc_int, sc_bool, sc_sl, sl_agg, L]
    · have t : top st = .mk 0 true 16 true [] (some 0) false st none := by
        match st, hne, one with
        | x :: y :: r, _, _ => simp [top]
      have one' : ¬ ((st.length : Int) = 1) := by omega
      rw [t, El.av]
      obtain ⟨m, rfl | rfl⟩ := hkey <;> simp [↓s_seq, ↓s_reg, ↓s_cond, ↓s_block, ↓s_cons, s_nil, s_loop, firstReg, s_val, s_skip, s_rgx, s_sqn, s_cdb, s_bke, s_ret', s_skip', s_finr, s_fin1, s_fix, s_clean, o_tmp, o_int, o_bool, o_nil, l_hit, l_miss, ol_nil, ol_cons, ol_some, x_move, x_assign, x_bin, bn_s, x_callB, frame0, binA, intOp, resL, resA, results1, sealLW, AV.pure, AV.pureL, keepT, x_alloc, x_box, bxx, x_build, bdx, x_store, stx, newK, genOf, setK, lookK, fillA, writeL, writeC, readC, conts, TyI.mk1, appendA, copyA, builtinA, AV.cells, gcH, reach, keysT, keepK, inKs, AV.keys, AV.keysL, Ty.isAgg, sc_int, sc_bool, sc_sl, sc_ref, sl_row, sealRow, sealY, sl_int, sl_bool, sl_sl, sl_agg, bs_nil, i_beq, L, one', l1, l2, l3, sealX_fl]
end E28

end
section
/- The examples of the chapters, at the evaluator. No conditions. -/
open Ab Go TabE
set_option maxRecDepth 100000
namespace LV
theorem l04 : Con E 200 18 [] (.bool true) := by
  obtain ⟨g, h⟩ := isT_some (show isT (aCall E 200 0 18 [] []) = true by kernel_rfl)
  exact .of (g := g) rfl h
end LV

end
section
/- The law ElementsCheck at the evaluator: true at every element. No conditions. -/
open Ab Go TabE Sp E13 E18
set_option maxRecDepth 20000
set_option linter.unusedSimpArgs false
set_option linter.unusedVariables false
set_option maxHeartbeats 8000000
namespace E18
def z : El := .mk 0 false 0 true [] (some 0) true [] (some 0)
def ex : El := .mk 0 true 16 true [] (some 0) false [.mk 0 false 2 false [7] (some 1) true [] (some 0), .mk 0 false 5 true [] (some 0) true [] (some 0)] (some 2)
theorem ex_con : Con E 20 41 [] ex.av := .of (g := []) rfl (by kernel_rfl)
theorem z_ok : z.ok := by simp [z, El.ok, El.oks, isB]
theorem ex_ok : ex.ok := by simp [ex, El.ok, El.oks, isB]
theorem ex_sm : ex.sm := by simp [ex, El.sm, El.sms]
theorem ex_chk : (chk ex.core 1 0 0).1 = 0 := by decide +kernel
theorem ex_enc : enc ex.core = [48, 5, 2, 1, 7, 5, 0] := by decide +kernel
theorem z_av : z.av = .agg [.int .u8 0, .bool false, .int .u32 0, .sl true [] (some 0), .sl true [] (some 0)] := rfl
theorem at_bad (e : El) (he : e.ok) (f c) (h : (chk e.core 1 0 0).1 ≠ 0) (ps : List AV) (hp : AV.pureL ps = true) : ∃ N, Con E N 25 [e.av, .sl f ps c] (.tup [z.av, .int .i64 (chk e.core 1 0 0).1]) := by
  obtain ⟨N, C⟩ := E10.check e he
  have C' := C (N + 10) (by omega) 0
  rw [El.av_eq] at C'
  refine ⟨N + 10 + 1, con_of E_fn25 (by simp [AV.pureL, El.av_pure, AV.pure]) (Nat.le_of_ble_eq_true rfl) rfl rfl (g := []) ?_⟩
  rw [body_25, c25, z_av]
  simp [El.av_eq, ↓s_seq, ↓s_reg, ↓s_cond, ↓s_cons, s_nil, s_val, s_skip, s_calls, s_cax, s_ret, s_rgx, s_sqn, s_sqr, s_cdb, s_ret', s_finr, s_fin1, s_fix, s_clean, o_tmp, o_int, l_hit, l_miss, ol_nil, ol_cons, ol_some, x_move, x_assign, x_bin, bn_s, x_callF, cl_no, frame0, binA, intOp, resL, resA, results1, sealLW, AV.pure, AV.pureL, keepT, x_alloc, x_box, bxx, x_build, bdx, x_load, ldx, x_store, stx, newK, genOf, setK, lookK, fillA, writeL, writeC, readC, TyI.mk1, AV.cells, gcH, reach, keysT, keepK, inKs, AV.keys, AV.keysL, Ty.isAgg, sc_int, sc_bool, sc_sl, sl_agg, sl_tup, i_bne, C', h]
theorem isB_app {a b : List Int} (ha : isB a) (hb : isB b) : isB (a ++ b) := fun x h => (List.mem_append.1 h).elim (ha x) (hb x)
theorem oct_B (v : Int) (k : Nat) : 0 ≤ TG.oct v k ∧ TG.oct v k < 256 := by
  unfold TG.oct
  generalize v / 2 ^ (7 * k) = w
  split <;> omega
theorem grp_B (v : Int) : isB (TG.grp v) := by
  unfold TG.grp
  split <;> intro x hx <;> simp at hx <;> (rcases hx with rfl | rfl | rfl | rfl) <;> exact oct_B _ _
theorem tagO_B (c k n) (hc : 0 ≤ c) (hc3 : c ≤ 3) (hn : 0 ≤ n) : isB (TG.tagO c k n) := by
  unfold TG.tagO
  split
  · intro x hx; simp at hx; subst hx; cases k <;> simp <;> omega
  · rw [isB_cons]; exact ⟨by cases k <;> simp <;> omega, grp_B n⟩
theorem lenO_B (n : Int) (h0 : 0 ≤ n) (h1 : n ≤ 16777215) : isB (lenO n) := by
  unfold lenO
  split
  · intro x hx; simp at hx; omega
  split
  · intro x hx; simp at hx; omega
  split
  · intro x hx; simp at hx; omega
  · intro x hx; simp at hx; omega
theorem encs_B : ∀ l : List El, (∀ x ∈ l, isB (enc x.core)) → isB (encs (El.cores l))
  | [], _ => isB_nil
  | x :: r, h => by
    rw [El.cores, encs]
    exact isB_app (h x (List.mem_cons_self ..)) (encs_B r fun y hy => h y (List.mem_cons_of_mem _ hy))
theorem encs_mem {x : El} : ∀ {l : List El}, x ∈ l → (enc x.core).length ≤ (encs (El.cores l)).length
  | y :: r, h => by
    rw [El.cores, encs, List.length_append]
    rcases List.mem_cons.1 h with rfl | h
    · omega
    · have := encs_mem h; omega
theorem enc_B : ∀ e : El, e.ok → vld e.core → (enc e.core).length ≤ 16777215 → isB (enc e.core) := by
  refine El.ind fun e ih he hv hl => ?_
  have v := (vld_eq e).1 hv
  have hs := encs_B e.s fun x hx => ih x hx (he.sub x hx) (vlds_all.1 v.2.2.2 x hx) (by
    have := encs_mem hx
    rw [enc_eq] at hl
    simp only [List.length_append] at hl
    omega)
  have t : e.c ≤ 3 := by
    have := v.1
    unfold tagE at this
    by_cases q : 3 < e.c ∨ 268435455 < e.n
    · rw [if_pos q] at this; cases this
    · omega
  rw [enc_eq] at hl ⊢
  simp only [List.length_append] at hl
  exact isB_app (tagO_B _ _ _ he.cb.1 t he.nb.1) (isB_app (lenO_B _ (by omega) (by simp only [List.length_append]; omega)) (isB_app he.bb hs))
theorem cmpI_refl : ∀ l : List Int, cmpI l l = 0
  | [] => rfl
  | a :: r => by rw [cmpI, if_pos rfl]; exact cmpI_refl r
theorem law (e : El) (he : e.ok) : ∃ N, Con E N 9 [e.av] (.bool true) := by
  obtain ⟨N0, r, B, hr⟩ := bounded e he
  rcases hr with rfl | ⟨rfl, hb⟩
  · have B' := B (N0 + 300) (by omega) 0
    rw [El.av_eq] at B'
    have l := LV.l04 (N0 + 300) (by omega) 0
    refine ⟨N0 + 300 + 1, con_of E_fn9 (by simp [AV.pureL, El.av_pure]) (Nat.le_of_ble_eq_true rfl) rfl rfl (g := []) ?_⟩
    rw [body_9, c9]
    simp [El.av_eq, ↓s_seq, ↓s_reg, ↓s_cond, ↓s_cons, s_nil, s_val, s_calls, s_cax, s_ret, s_rgx, s_sqn, s_sqr, s_cdb, s_ret', s_finr, s_fin1, s_fix, s_clean, o_tmp, o_int, o_bool, l_hit, l_miss, ol_nil, ol_cons, ol_some, x_assign, x_bin, bn_s, x_callF, cl_no, frame0, binA, intOp, resL, resA, results1, sealLW, AV.pure, AV.pureL, keepT, x_box, bxx, x_load, ldx, newK, genOf, setK, lookK, readC, TyI.mk1, AV.cells, gcH, reach, keysT, keepK, inKs, AV.keys, AV.keysL, Ty.isAgg, sc_int, sc_bool, sc_sl, sl_bool, sl_agg, B', l]
  have hcnt : cnt e.core ≤ 60 := by
    obtain ⟨_, _, _, hm⟩ := hb
    rw [cnt_many e.core 60 (by omega) hm]; exact hm
  have hf := fw_bd e hb
  have hs := fw_sm (by omega) e hf (by omega)
  have hl := fw_len e hf
  have hl2 : (enc e.core).length ≤ 1048576 := by omega
  obtain ⟨N1, C1⟩ := E11.check e he
  obtain ⟨N2, C2⟩ := E10.check e he
  obtain ⟨N3, C3⟩ := E10.count e he
  obtain ⟨N4, C4⟩ := E10.depth e he
  by_cases hw : (chk e.core 1 0 0).1 = 0
  · have hv := vld_of _ _ _ _ hw
    have cd := chk_dep e.core 1 0 0 hw
    have dp := dep_pos e.core
    have dc := dep_cnt e.core
    have rc1 : E11.rc e.core 1 0 = (0, cnt e.core) := by
      unfold E11.rc
      rw [if_pos hw, hw, cd.2.1, Int.zero_add]
    have m1 : (E5.meas e).2.1 = cnt e.core ∧ (E5.meas e).2.2 = dep e.core := by
      unfold E5.meas; rw [if_pos hw]; exact ⟨by rw [cd.2.1]; omega, by rw [cd.1]; omega⟩
    obtain ⟨N5, C5⟩ := E10.put_ok e he hs hw hl2
    obtain ⟨N6, v, C6, hv6⟩ := E14.same_ok e e he he hw hw
    obtain rfl := hv6.2 rfl
    obtain ⟨N7, C7⟩ := E17.rput e he hv (by omega)
    obtain ⟨N8, C8⟩ := E10.size_ok e he hs hw
    rw [if_pos hl2] at C8
    obtain ⟨N9, C9⟩ := E12.depth e he (by omega)
    obtain ⟨K, hK⟩ : ∃ K, N0 + N1 + N2 + N3 + N4 + N5 + N6 + N7 + N8 + N9 + 300 = K := ⟨_, rfl⟩
    have w0 := B K (by omega) 0
    have w1 := C1 K (by omega) 1 0 (by omega) (by omega) (by omega) (by omega)
    rw [rc1] at w1
    have w2 := C2 K (by omega) 0
    rw [hw] at w2
    have w3 := C3 K (by omega) 0
    rw [m1.1] at w3
    have w4 := C4 K (by omega) 0
    rw [m1.2] at w4
    have w5 := C5 K (by omega) 0
    have w6 := C6 K (by omega) 0
    have w7 := C7 K (by omega) 0
    have w8 := C8 K (by omega) 0
    have w9 := C9 K (by omega) 0
    have l := LV.l04 K (by omega) 0
    rw [El.av_eq] at w0 w1 w2 w3 w4 w5 w6 w7 w8 w9
    have eb : isB (enc e.core) := enc_B e he hv (by omega)
    have gb := bs_go eb
    refine ⟨K + 1, con_of E_fn9 (by simp [AV.pureL, El.av_pure]) (Nat.le_of_ble_eq_true rfl) rfl rfl (g := []) ?_⟩
    rw [body_9, c9]
    simp [El.av_eq, ↓s_seq, ↓s_reg, ↓s_regd, ↓s_cond, ↓s_cons, ↓s_consG, s_nil, s_gt, s_wb, s_val, s_calls, s_callP, s_cax, s_ret, s_rgx, s_sqn, s_sqr, s_cdb, s_ret', s_skip', s_finr, s_fin1, s_fix, s_clean, o_tmp, o_int, o_bool, l_hit, l_miss, ol_nil, ol_cons, ol_some, x_move, x_assign, x_pick, pk_t, pk_f, x_bin, bn_s, x_extract, x_callF, cl_no, x_callB, x_conv, cvx, convA, frame0, binA, intOp, resL, resA, results1, sealLW, AV.pure, AV.pureL, keepT, x_box, bxx, x_load, ldx, newK, genOf, setK, lookK, writeL, writeC, readC, conts, TyI.mk1, appendA, copyA, builtinA, AV.cells, gcH, reach, keysT, keepK, inKs, AV.keys, AV.keysL, Ty.isAgg, sc_int, sc_bool, sc_sl, bs_length, bs_cells, sl_int, sl_bool, sl_agg, i_beq, w0, w1, w2, w3, w4, w5, w6, w7, w8, w9, l, gb]
  · have m1 : (E5.meas e).2.1 = 0 ∧ (E5.meas e).2.2 = 0 := by unfold E5.meas; rw [if_neg hw]; exact ⟨rfl, rfl⟩
    have rc1 : E11.rc e.core 1 0 = ((chk e.core 1 0 0).1, 0) := by unfold E11.rc; rw [if_neg hw]
    obtain ⟨N5, C5⟩ := E10.put_bad e he hw
    obtain ⟨N6, C6⟩ := E14.same_bad e e he hw
    obtain ⟨N7, C7⟩ := at_bad e he true (some 0) hw [] rfl
    obtain ⟨N8, C8⟩ := E10.size_bad e he hw
    obtain ⟨N9, C9⟩ := E1.same z z z_ok rfl
    obtain ⟨N10, C10⟩ := E10.put_ok ex ex_ok ex_sm ex_chk (by rw [ex_enc]; decide)
    have C11 := E14.compare e ex _ _ _ _ [] _ isB_nil (by rw [ex_enc]; simp [isB]) (N5 + N10) _ _ (C5.mono (by omega)) (C10.mono (by omega))
    have C12 := E14.compare e e _ _ _ _ [] [] isB_nil isB_nil (N5 + N10) _ _ (C5.mono (by omega)) (C5.mono (by omega))
    obtain ⟨w, hw'⟩ : ∃ w, (chk e.core 1 0 0).1 = w := ⟨_, rfl⟩
    rw [hw'] at hw rc1
    obtain ⟨K, hK⟩ : ∃ K, N0 + N1 + N2 + N3 + N4 + N5 + N6 + N7 + N8 + N9 + N10 + 300 = K := ⟨_, rfl⟩
    have w0 := B K (by omega) 0
    have w1 := C1 K (by omega) 1 0 (by omega) (by omega) (by omega) (by omega)
    rw [rc1] at w1
    have w2 := C2 K (by omega) 0
    rw [hw'] at w2
    have w3 := C3 K (by omega) 0
    rw [m1.1] at w3
    have w4 := C4 K (by omega) 0
    rw [m1.2] at w4
    have w5 := C5 K (by omega) 0
    rw [hw'] at w5
    have w6 := C6 K (by omega) 0
    have w7 := C7 K (by omega) 0
    rw [hw'] at w7
    have w8 := C8 K (by omega) 0
    have w9 := C9 K (by omega) 0
    have w10 := ex_con K (by omega) 0
    have w11 := C11 K (by omega) 0
    have w12 := C12 K (by omega) 0
    rw [ex_enc] at w11
    rw [cmpI_refl] at w12
    have w13 : cmpI [] [48, 5, 2, 1, 7, 5, 0] = -1 := rfl
    rw [w13] at w11
    have l := LV.l04 K (by omega) 0
    have xa : ∃ cs, ex.av = .agg cs ∧ AV.pureL cs = true := ⟨_, rfl, rfl⟩
    obtain ⟨xs, xa, xp⟩ := xa
    rw [xa] at w10 w11
    rw [z_av] at w7 w9
    rw [El.av_eq] at w0 w1 w2 w3 w4 w5 w6 w7 w8 w11 w12
    refine ⟨K + 1, con_of E_fn9 (by simp [AV.pureL, El.av_pure]) (Nat.le_of_ble_eq_true rfl) rfl rfl (g := []) ?_⟩
    rw [body_9, c9]
    simp [El.av_eq, ↓s_seq, ↓s_reg, ↓s_regd, ↓s_cond, ↓s_cons, ↓s_consG, s_nil, s_gt, s_wb, s_val, s_skip, s_calls, s_callP, s_cax, s_ret, s_rgx, s_sqn, s_cdb, s_ret', s_skip', s_finr, s_fin1, s_fix, s_clean, o_tmp, o_int, o_bool, o_nil, l_hit, l_miss, ol_nil, ol_cons, ol_some, x_move, x_assign, x_pick, pk_t, pk_f, x_bin, bn_s, x_extract, x_callF, cl_no, x_callB, frame0, binA, intOp, resL, resA, results1, sealLW, AV.pure, AV.pureL, keepT, x_alloc, x_box, bxx, x_build, bdx, x_load, ldx, x_store, stx, newK, genOf, setK, lookK, fillA, writeL, writeC, readC, conts, TyI.mk1, appendA, copyA, builtinA, AV.cells, gcH, reach, keysT, keepK, inKs, AV.keys, AV.keysL, Ty.isAgg, sc_int, sc_bool, sc_sl, sl_int, sl_bool, sl_sl, sl_agg, i_beq, w0, w1, w2, w3, w4, w5, w6, w7, w8, w9, w10, w11, w12, l, hw, xp]
end E18

end
section
/- Encodings tell elements apart, in plain Lean. No conditions. -/
open Ab Go TabE Sp E18
set_option linter.unusedVariables false
set_option linter.unusedSimpArgs false
set_option maxHeartbeats 2000000
namespace E29
theorem oct0 (v : Int) : TG.oct v 0 = v % 128 := by unfold TG.oct; simp
theorem oct1 (v : Int) : TG.oct v 1 = v / 128 % 128 + 128 := rfl
theorem oct2 (v : Int) : TG.oct v 2 = v / 16384 % 128 + 128 := rfl
theorem oct3 (v : Int) : TG.oct v 3 = v / 2097152 % 128 + 128 := rfl
theorem grp_cases (v : Int) (h0 : 0 ≤ v) (h1 : v ≤ 268435455) : (v < 128 ∧ TG.grp v = [v % 128]) ∨ (128 ≤ v ∧ v < 16384 ∧ TG.grp v = [v / 128 % 128 + 128, v % 128]) ∨ (16384 ≤ v ∧ v < 2097152 ∧ TG.grp v = [v / 16384 % 128 + 128, v / 128 % 128 + 128, v % 128]) ∨ (2097152 ≤ v ∧ TG.grp v = [v / 2097152 % 128 + 128, v / 16384 % 128 + 128, v / 128 % 128 + 128, v % 128]) := by
  unfold TG.grp TG.top
  by_cases a : v < 128
  · simp [a, oct0]
  by_cases b : v < 16384
  · right; left; simp [a, b, oct0, oct1]; omega
  by_cases c : v < 2097152
  · right; right; left; simp [a, b, c, oct0, oct1, oct2]; omega
  · right; right; right; simp [a, b, c, oct0, oct1, oct2, oct3]; omega
theorem grp_inj (v w : Int) (r r' : List Int) (h0 : 0 ≤ v) (h1 : v ≤ 268435455) (k0 : 0 ≤ w) (k1 : w ≤ 268435455) (h : TG.grp v ++ r = TG.grp w ++ r') : v = w ∧ r = r' := by
  rcases grp_cases v h0 h1 with ⟨a, e⟩ | ⟨a, a', e⟩ | ⟨a, a', e⟩ | ⟨a, e⟩ <;> rcases grp_cases w k0 k1 with ⟨b, f⟩ | ⟨b, b', f⟩ | ⟨b, b', f⟩ | ⟨b, f⟩ <;> rw [e, f] at h <;> simp only [List.cons_append, List.nil_append, List.cons.injEq] at h
  · exact ⟨by omega, h.2⟩
  · omega
  · omega
  · omega
  · omega
  · exact ⟨by omega, h.2.2⟩
  · omega
  · omega
  · omega
  · omega
  · exact ⟨by omega, h.2.2.2⟩
  · omega
  · omega
  · omega
  · omega
  · exact ⟨by omega, h.2.2.2.2⟩
theorem tagO_inj (c c' n n' : Int) (k k' : Bool) (r r' : List Int) (hc : 0 ≤ c ∧ c ≤ 3) (hc' : 0 ≤ c' ∧ c' ≤ 3) (hn : 0 ≤ n ∧ n ≤ 268435455) (hn' : 0 ≤ n' ∧ n' ≤ 268435455) (h : TG.tagO c k n ++ r = TG.tagO c' k' n' ++ r') : c = c' ∧ k = k' ∧ n = n' ∧ r = r' := by
  unfold TG.tagO at h
  by_cases a : n < 31 <;> by_cases b : n' < 31
  · rw [if_pos a, if_pos b] at h
    simp only [List.cons_append, List.nil_append, List.cons.injEq] at h
    obtain ⟨h1, h2⟩ := h
    cases k <;> cases k' <;> simp at h1 <;> first | exact ⟨by omega, rfl, by omega, h2⟩ | (exfalso; omega)
  · rw [if_pos a, if_neg b] at h
    simp only [List.cons_append, List.nil_append, List.cons.injEq] at h
    obtain ⟨h1, h2⟩ := h
    exfalso
    cases k <;> cases k' <;> simp at h1 <;> omega
  · rw [if_neg a, if_pos b] at h
    simp only [List.cons_append, List.nil_append, List.cons.injEq] at h
    obtain ⟨h1, h2⟩ := h
    exfalso
    cases k <;> cases k' <;> simp at h1 <;> omega
  · rw [if_neg a, if_neg b] at h
    simp only [List.cons_append, List.cons.injEq] at h
    obtain ⟨h1, h2⟩ := h
    obtain ⟨h3, h4⟩ := grp_inj n n' r r' hn.1 hn.2 hn'.1 hn'.2 h2
    cases k <;> cases k' <;> simp at h1 <;> first | exact ⟨by omega, rfl, h3, h4⟩ | (exfalso; omega)
theorem lenO_inj (n m : Int) (r r' : List Int) (h0 : 0 ≤ n) (h1 : n ≤ 16777215) (k0 : 0 ≤ m) (k1 : m ≤ 16777215) (h : lenO n ++ r = lenO m ++ r') : n = m ∧ r = r' := by
  unfold lenO at h
  split at h <;> (try split at h) <;> (try split at h) <;> (try split at h) <;> (try split at h) <;> (try split at h) <;> simp only [List.cons_append, List.nil_append, List.cons.injEq] at h <;> first | (exfalso; omega) | exact ⟨by omega, h.2⟩ | exact ⟨by omega, h.2.2⟩ | exact ⟨by omega, h.2.2.2⟩ | exact ⟨by omega, h.2.2.2.2⟩
theorem tag_bd {e : El} (he : e.ok) (hv : vld e.core) : (0 ≤ e.c ∧ e.c ≤ 3) ∧ 0 ≤ e.n ∧ e.n ≤ 268435455 := by
  have v := ((vld_eq e).1 hv).1
  unfold tagE at v
  by_cases q : 3 < e.c ∨ 268435455 < e.n
  · rw [if_pos q] at v; cases v
  · have := he.cb; have := he.nb; omega
theorem encs_inj (n : Nat) : ∀ (l l' : List El), (∀ x ∈ l, ∀ y ∈ l', ∀ r r', enc x.core ++ r = enc y.core ++ r' → x.core = y.core ∧ r = r') → encs (El.cores l) = encs (El.cores l') → El.cores l = El.cores l'
  | [], [], _, _ => rfl
  | [], y :: l', _, h => by
    exfalso
    rw [El.cores, El.cores, encs, encs] at h
    exact E17.enc_ne y (List.append_eq_nil_iff.1 h.symm).1
  | x :: l, [], _, h => by
    exfalso
    rw [El.cores, El.cores, encs, encs] at h
    exact E17.enc_ne x (List.append_eq_nil_iff.1 h).1
  | x :: l, y :: l', H, h => by
    rw [El.cores, El.cores, encs, encs] at h
    obtain ⟨h1, h2⟩ := H x (List.mem_cons_self ..) y (List.mem_cons_self ..) _ _ h
    rw [El.cores, El.cores, h1, encs_inj n l l' (fun x hx y hy => H x (List.mem_cons_of_mem _ hx) y (List.mem_cons_of_mem _ hy)) h2]
theorem enc_inj : ∀ a b : El, a.ok → b.ok → vld a.core → vld b.core → (enc a.core).length ≤ 16777215 → (enc b.core).length ≤ 16777215 → ∀ r r', enc a.core ++ r = enc b.core ++ r' → a.core = b.core ∧ r = r' := by
  refine El.ind fun a ih b ha hb va vb la lb r r' h => ?_
  have ta := tag_bd ha va
  have tb := tag_bd hb vb
  obtain ⟨va1, va2, va3, va4⟩ := (vld_eq a).1 va
  obtain ⟨vb1, vb2, vb3, vb4⟩ := (vld_eq b).1 vb
  rw [enc_eq] at la lb
  rw [enc_eq, enc_eq] at h
  simp only [List.append_assoc] at h
  simp only [List.length_append] at la lb
  obtain ⟨h1, h2, h3, h4⟩ := tagO_inj _ _ _ _ _ _ _ _ ta.1 tb.1 ta.2 tb.2 h
  obtain ⟨h5, h6⟩ := lenO_inj _ _ _ _ (by omega) (by rw [List.length_append]; omega) (by omega) (by rw [List.length_append]; omega) h4
  rw [← List.append_assoc, ← List.append_assoc] at h6
  obtain ⟨h7, h8⟩ := List.append_inj h6 (by omega)
  refine ⟨?_, h8⟩
  rw [El.core_inj]
  cases hk : a.k with
  | false =>
    have hk' : b.k = false := by rw [← h2, hk]
    have sa := va3 hk
    have sb := vb3 hk'
    rw [sa, sb] at h7 ⊢
    simp only [El.cores, encs, List.append_nil] at h7
    exact ⟨h1, by rw [hk'], h3, h7, rfl⟩
  | true =>
    have hk' : b.k = true := by rw [← h2, hk]
    have ba := va2 hk
    have bb := vb2 hk'
    rw [ba, bb] at h7 ⊢
    simp only [List.nil_append] at h7
    refine ⟨h1, by rw [hk'], h3, rfl, encs_inj 0 _ _ (fun x hx y hy r r' q => ?_) h7⟩
    have mx := encs_mem hx
    have my := encs_mem hy
    exact ih x hx y (ha.sub x hx) (hb.sub y hy) (vlds_all.1 va4 x hx) (vlds_all.1 vb4 y hy) (by omega) (by omega) r r' q
theorem enc_eq_iff (a b : El) (ha : a.ok) (hb : b.ok) (va : vld a.core) (vb : vld b.core) (la : (enc a.core).length ≤ 16777215) (lb : (enc b.core).length ≤ 16777215) : a.core = b.core ↔ enc a.core = enc b.core :=
  ⟨fun h => by rw [h], fun h => (enc_inj a b ha hb va vb la lb [] [] (by rw [h])).1⟩
end E29

end
section
/- The law ElementsOrder at the evaluator: true at every two recipes. No conditions. -/
open Ab Go TabE Sp E18 E22 E26
set_option maxRecDepth 20000
set_option linter.unusedSimpArgs false
set_option linter.unusedVariables false
set_option maxHeartbeats 8000000
namespace E30
theorem cmp_lt : ∀ x y : List Int, cmpI x y = if ltI x y = true then -1 else if x = y then 0 else 1
  | [], [] => rfl
  | [], _ :: _ => by simp [cmpI, ltI]
  | _ :: _, [] => by simp [cmpI, ltI]
  | a :: x, b :: y => by
    have := cmp_lt x y
    rw [cmpI]
    by_cases e : a = b
    · subst e; rw [if_pos rfl, this]; simp [ltI]
    · by_cases l : a < b <;> simp [ltI, e, l]
theorem cmp_neg : ∀ x y : List Int, cmpI y x = - cmpI x y
  | [], [] => rfl
  | [], _ :: _ => rfl
  | _ :: _, [] => rfl
  | a :: x, b :: y => by
    have := cmp_neg x y
    rw [cmpI, cmpI]
    by_cases e : a = b
    · subst e; rw [if_pos rfl, if_pos rfl, this]
    · rw [if_neg e, if_neg (fun h => e h.symm)]
      by_cases l : a < b
      · rw [if_pos l, if_neg (by omega)]; rfl
      · rw [if_neg l, if_pos (by omega)]
theorem law (f f' : Bool) (q q' : Option Nat) (l l' : List G) (hl : ∀ g ∈ l, g.ok) (hl' : ∀ g ∈ l', g.ok) (ll : l.length ≤ 9223372036854775807) (ll' : l'.length ≤ 9223372036854775807) : ∃ N, Con E N 8 [.agg [.sl f (l.map G.av) q], .agg [.sl f' (l'.map G.av) q']] (.bool true) := by
  obtain ⟨N1, C1⟩ := E28.of f q l hl ll
  obtain ⟨N2, C2⟩ := E28.of f' q' l' hl' ll'
  have ga := good l hl
  have gb := good l' hl'
  generalize ofE l = a at C1 ga
  generalize ofE l' = b at C2 gb
  have la := ga.len
  have lb := gb.len
  obtain ⟨N3, C3⟩ := E17.rput a ga.ok ga.vld (by omega)
  obtain ⟨N4, C4⟩ := E17.rput b gb.ok gb.vld (by omega)
  obtain ⟨N5, C5⟩ := E10.put_ok a ga.ok ga.sm ga.chk (by omega)
  obtain ⟨N6, C6⟩ := E10.put_ok b gb.ok gb.sm gb.chk (by omega)
  have xa := enc_B a ga.ok ga.vld (by omega)
  have xb := enc_B b gb.ok gb.vld (by omega)
  have D1 := E14.compare a b _ _ _ _ _ _ xa xb (N5 + N6) _ _ (C5.mono (by omega)) (C6.mono (by omega))
  have D2 := E14.compare b a _ _ _ _ _ _ xb xa (N5 + N6) _ _ (C6.mono (by omega)) (C5.mono (by omega))
  have D3 := E14.compare a a _ _ _ _ _ _ xa xa (N5 + N6) _ _ (C5.mono (by omega)) (C5.mono (by omega))
  obtain ⟨N7, v, C7, hv⟩ := E14.same_ok a b ga.ok gb.ok ga.chk gb.chk
  have inj := E29.enc_eq_iff a b ga.ok gb.ok ga.vld gb.vld (by omega) (by omega)
  rw [inj] at hv
  rw [cmp_neg] at D2
  rw [cmp_lt] at D1 D2
  rw [cmpI_refl] at D3
  have wa := bs_go xa
  have wb := bs_go xb
  obtain ⟨x, hx⟩ : ∃ x, enc a.core = x := ⟨_, rfl⟩
  obtain ⟨y, hy⟩ : ∃ y, enc b.core = y := ⟨_, rfl⟩
  rw [hx] at C3 hv wa
  rw [hy] at C4 hv wb
  rw [hx, hy] at D1 D2
  obtain ⟨K, hK⟩ : ∃ K, N1 + N2 + N3 + N4 + N5 + N6 + N7 + 300 = K := ⟨_, rfl⟩
  have w1 := C1 K (by omega) 0
  have w2 := C2 K (by omega) 0
  have w3 := C3 K (by omega) 0
  have w4 := C4 K (by omega) 0
  have w7 := C7 K (by omega) 0
  have w8 := D1 K (by omega) 0
  have w9 := D2 K (by omega) 0
  have w10 := D3 K (by omega) 0
  have lv := LV.l04 K (by omega) 0
  rw [El.av_eq] at w1 w2 w3 w4 w7 w8 w9 w10
  rw [El.av_eq b] at w7 w8
  rw [El.av_eq a] at w9
  clear C1 C2 C3 C4 C5 C6 C7 D1 D2 D3
  have nn : ltI x x = false := by
    have := cmp_lt x x
    rw [cmpI_refl] at this
    by_cases h : ltI x x = true
    · rw [if_pos h] at this; cases this
    · simpa using h
  refine ⟨K + 1, con_of E_fn8 (by simp [AV.pureL, AV.pure]) (Nat.le_of_ble_eq_true rfl) rfl rfl (g := []) ?_⟩
  rw [body_8, c8]
  by_cases h1 : ltI x y = true
  · have ne : x ≠ y := fun e => by rw [e] at h1 nn; rw [nn] at h1; cases h1
    have v0 : v = false := by cases v; rfl; exact absurd (hv.1 rfl) ne
    rw [v0] at w7
    rw [if_pos h1] at w8 w9
    simp [↓s_seq, ↓s_reg, ↓s_regd, ↓s_cond, ↓s_cons, ↓s_consG, s_nil, s_gt, s_wb, s_val, s_skip, s_calls, s_callP, s_cax, s_ret, s_rgx, s_sqn, s_cdb, s_ret', s_skip', s_finr, s_fin1, s_fix, s_clean, o_tmp, o_int, o_bool, l_hit, l_miss, ol_nil, ol_cons, ol_some, x_move, x_assign, x_pick, pk_t, x_bin, bn_s, x_un, x_callF, cl_no, x_conv, cvx, convA, frame0, binA, intOp, resL, resA, results1, sealLW, AV.pure, AV.pureL, keepT, x_alloc, x_box, bxx, x_load, ldx, x_store, stx, newK, genOf, setK, lookK, writeL, writeC, readC, conts, TyI.mk1, AV.cells, gcH, reach, keysT, keepK, inKs, AV.keys, AV.keysL, Ty.isAgg, w_i64, unA, sc_int, sc_bool, sc_sl, bs_length, bs_cells, sl_bool, sl_agg, i_beq, w1, w2, w3, w4, w7, w8, w9, w10, lv, wa, wb, h1, ne]
  by_cases h2 : x = y
  · have v1 : v = true := hv.2 h2
    subst h2
    rw [v1] at w7
    rw [if_neg h1, if_pos rfl] at w8 w9
    simp [↓s_seq, ↓s_reg, ↓s_regd, ↓s_cond, ↓s_cons, ↓s_consG, s_nil, s_gt, s_wb, s_val, s_skip, s_calls, s_callP, s_cax, s_ret, s_rgx, s_sqn, s_cdb, s_ret', s_skip', s_finr, s_fin1, s_fix, s_clean, o_tmp, o_int, o_bool, l_hit, l_miss, ol_nil, ol_cons, ol_some, x_move, x_assign, x_pick, pk_t, x_bin, bn_s, x_un, x_callF, cl_no, x_conv, cvx, convA, frame0, binA, intOp, resL, resA, results1, sealLW, AV.pure, AV.pureL, keepT, x_alloc, x_box, bxx, x_load, ldx, x_store, stx, newK, genOf, setK, lookK, writeL, writeC, readC, conts, TyI.mk1, AV.cells, gcH, reach, keysT, keepK, inKs, AV.keys, AV.keysL, Ty.isAgg, w_i64, unA, sc_int, sc_bool, sc_sl, bs_length, bs_cells, sl_bool, sl_agg, w1, w2, w3, w4, w7, w8, w9, w10, lv, wa, nn]
  · have v0 : v = false := by cases v; rfl; exact absurd (hv.1 rfl) h2
    have h1' : ltI x y = false := by simpa using h1
    rw [v0] at w7
    rw [if_neg h1, if_neg h2] at w8 w9
    simp [↓s_seq, ↓s_reg, ↓s_regd, ↓s_cond, ↓s_cons, ↓s_consG, s_nil, s_gt, s_wb, s_val, s_skip, s_calls, s_callP, s_cax, s_ret, s_rgx, s_sqn, s_cdb, s_ret', s_skip', s_finr, s_fin1, s_fix, s_clean, o_tmp, o_int, o_bool, l_hit, l_miss, ol_nil, ol_cons, ol_some, x_move, x_assign, x_pick, pk_t, x_bin, bn_s, x_un, x_callF, cl_no, x_conv, cvx, convA, frame0, binA, intOp, resL, resA, results1, sealLW, AV.pure, AV.pureL, keepT, x_alloc, x_box, bxx, x_load, ldx, x_store, stx, newK, genOf, setK, lookK, writeL, writeC, readC, conts, TyI.mk1, AV.cells, gcH, reach, keysT, keepK, inKs, AV.keys, AV.keysL, Ty.isAgg, w_i64, unA, sc_int, sc_bool, sc_sl, bs_length, bs_cells, sl_bool, sl_agg, i_beq, w1, w2, w3, w4, w7, w8, w9, w10, lv, wa, wb, h1', h2]
end E30

end
