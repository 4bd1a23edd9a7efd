/- Own work, no conditions. -/
import Derived.Test.YtbiildmljbcmeaaE10
section
/- The reference's Check and Depth, and how many elements there are, at the evaluator. No conditions. -/
open Ab Go TabE Sp
set_option maxRecDepth 20000
set_option linter.unusedSimpArgs false
set_option linter.unusedVariables false
set_option maxHeartbeats 8000000
namespace E11
mutual
theorem chk_l : ∀ (c : Cr) (d m l l' : Int), (chk c d m l).1 = (chk c d m l').1 ∧ (chk c d m l).2.1 = (chk c d m l').2.1
  | .mk c k n b s, d, m, l, l' => by
    unfold chk
    split
    · exact ⟨rfl, rfl⟩
    split
    · exact ⟨rfl, rfl⟩
    split
    · exact ⟨rfl, rfl⟩
    split
    · exact ⟨rfl, rfl⟩
    · exact chks_l s _ _ _ _
theorem chks_l : ∀ (s : List Cr) (d m l l' : Int), (chks s d m l).1 = (chks s d m l').1 ∧ (chks s d m l).2.1 = (chks s d m l').2.1
  | [], d, m, l, l' => ⟨rfl, rfl⟩
  | x :: r, d, m, l, l' => by
    have a := chk_l x d m l l'
    unfold chks
    rw [a.1]
    split
    · exact ⟨a.1, a.2⟩
    · rw [a.2]; exact chks_l r _ _ _ _
end
def rc (c : Cr) (d m : Int) : Int × Int := ((chk c d m 0).1, if (chk c d m 0).1 = 0 then (chk c d m 0).2.1 else 0)
def rcs (s : List Cr) (d m : Int) : Int × Int := ((chks s d m 0).1, if (chks s d m 0).1 = 0 then (chks s d m 0).2.1 else 0)
def b39 : Code := lp c39 0
abbrev S39 (e : El) (d : Int) (i : Nat) (n : Int) : St := ⟨[(1, .int .i64 d), (3, .ptr (1, 3, 0) 0), (9, .int .i64 n), (10, .int .i64 (i : Int))], [((1, 3, 0), bx (ec e))]⟩
theorem go39 (q k1 : Nat) (e x : El) (d n n' : Int) (i : Nat) (hx : e.s[i]? = some x) (le : e.s.length ≤ 9223372036854775807) (d0 : 0 ≤ d) (d1 : d < 1000) (B : ∀ h, aCall E q 0 39 [x.av, .int .i64 (d + 1), .int .i64 n] h = some (.ret (.tup [.int .i64 0, .int .i64 n']), h)) :
    rnd fn39 b39 q k1 (S39 e d i n) = some (.normal, S39 e d (i + 1) n') := by
  have hi : i < e.s.length := (List.getElem?_eq_some_iff.1 hx).1
  have ix := El.at_ e.fs e.cs e.s i x hx
  have w := w64' ((i : Int) + 1) (by omega) (by omega)
  have w2 := w64' (d + 1) (by omega) (by omega)
  rw [El.av_eq] at B
  simp [b39, lp, lps, c39, ↓s_seq, ↓s_reg, ↓s_cond, ↓s_block, ↓s_cons, s_nil, firstReg, s_val, s_calls, s_cax, s_ret, s_rgx, s_sqn, s_cdb, s_bkn, s_skip', s_clean, o_tmp, o_int, l_hit, l_miss, ol_nil, ol_cons, ol_some, x_move, x_assign, x_bin, bn_s, x_extract, x_callF, cl_no, x_callB, binA, intOp, sealLW, AV.pure, AV.pureL, keepT, x_load, ldx, x_fieldAddr, x_indexAddr, iax, newK, genOf, setK, lookK, writeL, writeC, readC, conts, TyI.mk1, fieldAddrA, appendA, copyA, builtinA, AV.cells, gcH, reach, keysT, keepK, inKs, AV.keys, AV.keysL, Ty.isAgg, sl_int, sl_agg, El.avs_len, ix, w, w2, hi, B]
theorem bad39 (q k1 : Nat) (e x : El) (d n r n' : Int) (i : Nat) (hr : r ≠ 0) (hx : e.s[i]? = some x) (le : e.s.length ≤ 9223372036854775807) (d0 : 0 ≤ d) (d1 : d < 1000) (B : ∀ h, aCall E q 0 39 [x.av, .int .i64 (d + 1), .int .i64 n] h = some (.ret (.tup [.int .i64 r, .int .i64 n']), h)) :
    rnd fn39 b39 q k1 (S39 e d i n) = some (.ret, ⟨[(6, .int .i64 r), (7, .int .i64 0)], []⟩) := by
  have hi : i < e.s.length := (List.getElem?_eq_some_iff.1 hx).1
  have ix := El.at_ e.fs e.cs e.s i x hx
  have w2 := w64' (d + 1) (by omega) (by omega)
  rw [El.av_eq] at B
  simp [b39, lp, lps, c39, ↓s_seq, ↓s_reg, ↓s_cond, ↓s_block, ↓s_cons, s_nil, firstReg, s_val, s_calls, s_cax, s_ret, s_rgx, s_sqn, s_sqr, s_cdb, s_bkr, s_ret', s_skip', s_clean, o_tmp, o_int, l_hit, l_miss, ol_nil, ol_cons, ol_some, x_move, x_assign, x_bin, bn_s, x_extract, x_callF, cl_no, x_callB, binA, intOp, sealLW, AV.pure, AV.pureL, keepT, x_load, ldx, x_fieldAddr, x_indexAddr, iax, newK, genOf, setK, lookK, writeL, writeC, readC, conts, TyI.mk1, fieldAddrA, appendA, copyA, builtinA, AV.cells, gcH, reach, keysT, keepK, inKs, AV.keys, AV.keysL, Ty.isAgg, sl_int, sl_agg, i_bne, El.avs_len, ix, w2, hi, B, hr]
theorem last39 (q k1 : Nat) (e : El) (d n : Int) : rnd fn39 b39 q k1 (S39 e d e.s.length n) = some (.exit 0, ⟨[(1, .int .i64 d), (3, .ptr (1, 3, 0) 0), (9, .int .i64 n), (10, .int .i64 (e.s.length : Int)), (50, .bool false)], [((1, 3, 0), bx (ec e))]⟩) := by
  simp [b39, lp, lps, c39, ↓s_seq, ↓s_reg, ↓s_cond, ↓s_cons, s_nil, firstReg, s_val, s_rgx, s_sqn, s_sqe, s_cdb, s_exit, s_clean, o_tmp, l_hit, l_miss, ol_nil, ol_cons, ol_some, x_move, x_bin, bn_s, x_callB, binA, intOp, keepT, x_load, ldx, x_fieldAddr, newK, genOf, setK, lookK, writeL, writeC, readC, conts, TyI.mk1, fieldAddrA, appendA, copyA, builtinA, AV.cells, gcH, reach, keysT, keepK, inKs, AV.keys, AV.keysL, Ty.isAgg, El.avs_len]
theorem check : ∀ e : El, e.ok → ∃ N, ∀ k, N ≤ k → ∀ d m : Int, 0 ≤ d → d ≤ 17 → 0 ≤ m → m ≤ 8192 → ∀ h, aCall E k 0 39 [e.av, .int .i64 d, .int .i64 m] h = some (.ret (.tup [.int .i64 (rc e.core d m).1, .int .i64 (rc e.core d m).2]), h) := by
  refine El.ind fun e ih he => ?_
  obtain ⟨N, hN⟩ := unif (P := fun (x : El) (n : Nat) => ∀ k, n ≤ k → ∀ d m : Int, 0 ≤ d → d ≤ 17 → 0 ≤ m → m ≤ 8192 → ∀ h, aCall E k 0 39 [x.av, .int .i64 d, .int .i64 m] h = some (.ret (.tup [.int .i64 (rc x.core d m).1, .int .i64 (rc x.core d m).2]), h))
    (fun x n m h hm k hk => h k (by omega)) e.s (fun x hx => ih x hx (he.sub x hx))
  refine ⟨N + e.s.length + 31, fun k hk d m d0 d1 m0 m1 h => ?_⟩
  obtain ⟨K, rfl⟩ : ∃ K, k = K + 1 := ⟨k - 1, by omega⟩
  refine con_of E_fn39 (by simp [AV.pureL, El.av_pure, AV.pure]) (Nat.le_of_ble_eq_true rfl) rfl rfl (g := []) (K := K) ?_ rfl (K + 1) (Nat.le_refl _) 0 h
  rw [body_39, c39]
  have t := E2.ref_ok e.c e.k e.n
  have t' := t K (by omega) 0
  have lb := bs_length e.b
  have ls := El.avs_len e.s
  obtain ⟨r, hr⟩ : ∃ r, rc e.core d m = r := ⟨_, rfl⟩
  have hr0 := hr
  unfold rc at hr
  rw [chk_eq] at hr
  rw [hr0]
  by_cases h1 : tagE e.c e.k e.n = 0
  case neg =>
    rw [if_pos h1, if_neg h1] at hr
    subst hr
    simp [El.av_eq, ↓s_seq, ↓s_reg, ↓s_cond, ↓s_cons, s_nil, s_val, s_calls, s_cax, s_ret, s_rgx, s_sqn, s_sqr, s_cdb, s_ret', s_finr, s_fin1, s_fix, s_clean, o_tmp, o_int, l_hit, l_miss, ol_nil, ol_cons, ol_some, x_move, x_assign, x_bin, bn_s, x_callF, cl_no, frame0, binA, intOp, resL, resA, results1, sealLW, AV.pure, AV.pureL, keepT, x_box, bxx, x_load, ldx, x_fieldAddr, newK, genOf, setK, lookK, readC, TyI.mk1, fieldAddrA, AV.cells, gcH, reach, keysT, keepK, inKs, AV.keys, AV.keysL, Ty.isAgg, sc_int, sc_bool, sc_sl, sl_agg, sl_tup, i_bne, t', h1]
  rw [if_neg (by simp [h1])] at hr
  rw [h1] at t'
  by_cases h2 : (e.k = true ∧ e.b ≠ []) ∨ (e.k = false ∧ e.s ≠ [])
  · rw [if_pos h2, if_neg (by simp)] at hr
    subst hr
    rcases h2 with ⟨hk2, hb⟩ | ⟨hk2, hs⟩ <;> rw [hk2] at t'
    · have p : (0 : Int) < (e.b.length : Int) := by have := List.length_pos_iff.2 hb; omega
      have p2 : 0 < e.b.length := List.length_pos_iff.2 hb
      simp [El.av_eq, ↓s_seq, ↓s_reg, ↓s_cond, ↓s_cons, ↓s_consG, s_nil, s_gt, s_gf, s_wb, s_wu, s_val, s_calls, s_cax, s_ret, s_rgx, s_sqn, s_sqr, s_cdb, s_ret', s_skip', s_finr, s_fin1, s_fix, s_clean, o_tmp, o_int, o_bool, l_hit, l_miss, ol_nil, ol_cons, ol_some, x_move, x_assign, x_pick, pk_t, x_bin, bn_s, x_un, x_callF, cl_no, x_callB, frame0, binA, intOp, resL, resA, results1, sealLW, AV.pure, AV.pureL, keepT, x_box, bxx, x_load, ldx, x_fieldAddr, newK, genOf, setK, lookK, writeL, writeC, readC, conts, TyI.mk1, fieldAddrA, appendA, copyA, builtinA, AV.cells, gcH, reach, keysT, keepK, inKs, AV.keys, AV.keysL, Ty.isAgg, unA, sc_int, sc_bool, sc_sl, bs_length, sl_agg, sl_tup, t', hk2, p2]
    · have p : (0 : Int) < (e.s.length : Int) := by have := List.length_pos_iff.2 hs; omega
      have p2 : 0 < e.s.length := List.length_pos_iff.2 hs
      simp [El.av_eq, ↓s_seq, ↓s_reg, ↓s_cond, ↓s_cons, ↓s_consG, s_nil, s_gt, s_gf, s_wb, s_val, s_calls, s_cax, s_ret, s_rgx, s_sqn, s_sqr, s_cdb, s_ret', s_skip', s_finr, s_fin1, s_fix, s_clean, o_tmp, o_int, o_bool, l_hit, l_miss, ol_nil, ol_cons, ol_some, x_move, x_assign, x_pick, pk_t, pk_f, x_bin, bn_s, x_un, x_callF, cl_no, x_callB, frame0, binA, intOp, resL, resA, results1, sealLW, AV.pure, AV.pureL, keepT, x_box, bxx, x_load, ldx, x_fieldAddr, newK, genOf, setK, lookK, writeL, writeC, readC, conts, TyI.mk1, fieldAddrA, appendA, copyA, builtinA, AV.cells, gcH, reach, keysT, keepK, inKs, AV.keys, AV.keysL, Ty.isAgg, unA, sc_int, sc_bool, sc_sl, sl_agg, sl_tup, El.avs_len, t', hk2, p2]
  rw [if_neg h2] at hr
  have q : (e.k = true ∧ e.b = []) ∨ (e.k = false ∧ e.s = []) := by
    cases hk3 : e.k
    · exact .inr ⟨rfl, Classical.byContradiction fun c => h2 (.inr ⟨hk3, c⟩)⟩
    · exact .inl ⟨rfl, Classical.byContradiction fun c => h2 (.inl ⟨hk3, c⟩)⟩
  by_cases h3 : 16 < d
  · rw [if_pos h3, if_neg (by simp)] at hr
    subst hr
    rcases q with ⟨hk2, hb⟩ | ⟨hk2, hs⟩ <;> rw [hk2] at t'
    · simp [El.av_eq, ↓s_seq, ↓s_reg, ↓s_cond, ↓s_cons, ↓s_consG, s_nil, s_gt, s_gf, s_wb, s_val, s_calls, s_cax, s_ret, s_rgx, s_sqn, s_sqr, s_cdb, s_ret', s_skip', s_finr, s_fin1, s_fix, s_clean, o_tmp, o_int, o_bool, l_hit, l_miss, ol_nil, ol_cons, ol_some, x_move, x_assign, x_pick, pk_t, pk_f, x_bin, bn_s, x_un, x_callF, cl_no, x_callB, frame0, binA, intOp, resL, resA, results1, sealLW, AV.pure, AV.pureL, keepT, x_box, bxx, x_load, ldx, x_fieldAddr, newK, genOf, setK, lookK, writeL, writeC, readC, conts, TyI.mk1, fieldAddrA, appendA, copyA, builtinA, AV.cells, gcH, reach, keysT, keepK, inKs, AV.keys, AV.keysL, Ty.isAgg, unA, sc_int, sc_bool, sc_sl, sl_agg, sl_tup, bs_nil, t', hk2, hb, h3]
    · simp [El.av_eq, ↓s_seq, ↓s_reg, ↓s_cond, ↓s_cons, ↓s_consG, s_nil, s_gt, s_gf, s_wb, s_val, s_calls, s_cax, s_ret, s_rgx, s_sqn, s_sqr, s_cdb, s_ret', s_skip', s_finr, s_fin1, s_fix, s_clean, o_tmp, o_int, o_bool, l_hit, l_miss, ol_nil, ol_cons, ol_some, x_move, x_assign, x_pick, pk_t, pk_f, x_bin, bn_s, x_un, x_callF, cl_no, x_callB, frame0, binA, intOp, resL, resA, results1, sealLW, AV.pure, AV.pureL, keepT, x_box, bxx, x_load, ldx, x_fieldAddr, newK, genOf, setK, lookK, writeL, writeC, readC, conts, TyI.mk1, fieldAddrA, appendA, copyA, builtinA, AV.cells, gcH, reach, keysT, keepK, inKs, AV.keys, AV.keysL, Ty.isAgg, unA, sc_int, sc_bool, sc_sl, sl_agg, sl_tup, t', hk2, hs, El.avs, h3]
  rw [if_neg h3] at hr
  by_cases h4 : m = 8192
  · rw [if_pos h4, if_neg (by simp)] at hr
    subst hr h4
    rcases q with ⟨hk2, hb⟩ | ⟨hk2, hs⟩ <;> rw [hk2] at t'
    · simp [El.av_eq, ↓s_seq, ↓s_reg, ↓s_cond, ↓s_cons, ↓s_consG, s_nil, s_gt, s_gf, s_wb, s_val, s_calls, s_cax, s_ret, s_rgx, s_sqn, s_sqr, s_cdb, s_ret', s_skip', s_finr, s_fin1, s_fix, s_clean, o_tmp, o_int, o_bool, l_hit, l_miss, ol_nil, ol_cons, ol_some, x_move, x_assign, x_pick, pk_t, pk_f, x_bin, bn_s, x_un, x_callF, cl_no, x_callB, frame0, binA, intOp, resL, resA, results1, sealLW, AV.pure, AV.pureL, keepT, x_box, bxx, x_load, ldx, x_fieldAddr, newK, genOf, setK, lookK, writeL, writeC, readC, conts, TyI.mk1, fieldAddrA, appendA, copyA, builtinA, AV.cells, gcH, reach, keysT, keepK, inKs, AV.keys, AV.keysL, Ty.isAgg, unA, sc_int, sc_bool, sc_sl, sl_agg, sl_tup, bs_nil, t', hk2, hb, h3]
    · simp [El.av_eq, ↓s_seq, ↓s_reg, ↓s_cond, ↓s_cons, ↓s_consG, s_nil, s_gt, s_gf, s_wb, s_val, s_calls, s_cax, s_ret, s_rgx, s_sqn, s_sqr, s_cdb, s_ret', s_skip', s_finr, s_fin1, s_fix, s_clean, o_tmp, o_int, o_bool, l_hit, l_miss, ol_nil, ol_cons, ol_some, x_move, x_assign, x_pick, pk_t, pk_f, x_bin, bn_s, x_un, x_callF, cl_no, x_callB, frame0, binA, intOp, resL, resA, results1, sealLW, AV.pure, AV.pureL, keepT, x_box, bxx, x_load, ldx, x_fieldAddr, newK, genOf, setK, lookK, writeL, writeC, readC, conts, TyI.mk1, fieldAddrA, appendA, copyA, builtinA, AV.cells, gcH, reach, keysT, keepK, inKs, AV.keys, AV.keysL, Ty.isAgg, unA, sc_int, sc_bool, sc_sl, sl_agg, sl_tup, t', hk2, hs, El.avs, h3]
  rw [if_neg h4] at hr
  have h5 : ¬ (8192 ≤ m) := by omega
  have w := w64' (m + 1) (by omega) (by omega)
  have L := loopL (f := aCode E (aCall E K) (dcall (aRun E K)) K 1 fn39 b39) (cl := cleanS 1 ((firstReg b39).bind fn39.head)) e.s (S39 e d)
    (fun n x => if (rc x.core (d + 1) n).1 = 0 then .inl (rc x.core (d + 1) n).2 else .inr (.ret, ⟨[(6, .int .i64 (rc x.core (d + 1) n).1), (7, .int .i64 0)], []⟩))
    (fun n => (.exit 0, ⟨[(1, .int .i64 d), (3, .ptr (1, 3, 0) 0), (9, .int .i64 n), (10, .int .i64 (e.s.length : Int)), (50, .bool false)], [((1, 3, 0), bx (ec e))]⟩))
    (fun n => 0 ≤ n ∧ n ≤ 8192)
    (fun i x n hx hn => by
      have B := hN x (List.mem_of_getElem? hx) K (by omega) (d + 1) n (by omega) (by omega) hn.1 hn.2
      refine ⟨fun c' e1 => ?_, fun r e1 => ?_⟩
      · split at e1
        · rename_i e2
          cases e1
          rw [e2] at B
          refine ⟨go39 K K e x d n _ i hx he.sl d0 (by omega) B, ?_⟩
          unfold rc at e2 ⊢
          simp only at e2 ⊢
          rw [if_pos e2]
          obtain ⟨a, b, _, _⟩ := E4.chk_bd x.core (d + 1) n 0 hn.1 hn.2 (by omega) (by omega)
          exact ⟨a, b⟩
        · cases e1
      · split at e1
        · cases e1
        · rename_i e2
          cases e1
          exact ⟨bad39 K K e x d n _ _ i e2 hx he.sl d0 (by omega) B, by simp⟩)
    (fun n hn => ⟨last39 K K e d n, by simp⟩) e.s 0 (m + 1) K rfl (by simp) ⟨by omega, by omega⟩ (by omega)
  have run : ∀ (l : List El) (n : Int), runL (fun (n : Int) (x : El) => if (rc x.core (d + 1) n).1 = 0 then .inl (rc x.core (d + 1) n).2 else .inr (AExit.ret, (⟨[(6, .int .i64 (rc x.core (d + 1) n).1), (7, .int .i64 0)], []⟩ : St)))
      (fun n => (AExit.exit 0, (⟨[(1, .int .i64 d), (3, .ptr (1, 3, 0) 0), (9, .int .i64 n), (10, .int .i64 (e.s.length : Int)), (50, .bool false)], [((1, 3, 0), bx (ec e))]⟩ : St))) l n =
      if (rcs (El.cores l) (d + 1) n).1 = 0 then (AExit.exit 0, ⟨[(1, .int .i64 d), (3, .ptr (1, 3, 0) 0), (9, .int .i64 (rcs (El.cores l) (d + 1) n).2), (10, .int .i64 (e.s.length : Int)), (50, .bool false)], [((1, 3, 0), bx (ec e))]⟩)
      else (AExit.ret, ⟨[(6, .int .i64 (rcs (El.cores l) (d + 1) n).1), (7, .int .i64 0)], []⟩) := by
    intro l
    induction l with
    | nil => intro n; simp [runL, rcs, El.cores, chks]
    | cons x l ih =>
      intro n
      unfold runL
      have a := chks_l (El.cores l) (d + 1) (chk x.core (d + 1) n 0).2.1 (chk x.core (d + 1) n 0).2.2 0
      by_cases z : (rc x.core (d + 1) n).1 = 0
      · have z' : (chk x.core (d + 1) n 0).1 = 0 := z
        rw [if_pos z]
        simp only
        rw [ih]
        have e1 : rcs (El.cores (x :: l)) (d + 1) n = rcs (El.cores l) (d + 1) (rc x.core (d + 1) n).2 := by
          unfold rcs rc
          rw [El.cores, chks]
          simp only [z', ne_eq, not_true_eq_false, if_false, if_true, a.1, a.2]
        rw [e1]
      · have z' : (chk x.core (d + 1) n 0).1 ≠ 0 := z
        rw [if_neg z]
        have e1 : (rcs (El.cores (x :: l)) (d + 1) n).1 = (rc x.core (d + 1) n).1 := by
          unfold rcs rc
          rw [El.cores, chks, if_pos z']
        rw [e1, if_neg z]
  rw [run] at L
  have er : r = rcs (El.cores e.s) (d + 1) (m + 1) := by
    rw [← hr]
    unfold rcs
    have a := chks_l (El.cores e.s) (d + 1) (m + 1) (max 0 d) 0
    rw [a.1, a.2]
  rw [← er] at L
  simp [b39, lp, lps, c39, firstReg, S39, ec] at L
  have r2 : r.1 ≠ 0 → r.2 = 0 := by
    intro z
    rw [er] at z ⊢
    unfold rcs at z ⊢
    exact if_neg z
  rcases q with ⟨hk2, hb⟩ | ⟨hk2, hs⟩ <;> rw [hk2] at t'
  · by_cases z : r.1 = 0
    · simp [z, hk2, hb, bs_nil] at L
      simp [El.av_eq, ↓s_seq, ↓s_reg, ↓s_cond, ↓s_block, ↓s_cons, ↓s_consG, s_nil, s_loop, firstReg, s_gt, s_gf, s_wb, s_val, s_calls, s_cax, s_ret, s_rgx, s_sqn, s_cdb, s_bke, s_ret', s_skip', s_finr, s_fin1, s_fix, s_clean, o_tmp, o_int, o_bool, l_hit, l_miss, ol_nil, ol_cons, ol_some, x_move, x_assign, x_pick, pk_t, pk_f, x_bin, bn_s, x_un, x_callF, cl_no, x_callB, frame0, binA, intOp, resL, resA, results1, sealLW, AV.pure, AV.pureL, keepT, x_box, bxx, x_load, ldx, x_fieldAddr, newK, genOf, setK, lookK, writeL, writeC, readC, conts, TyI.mk1, fieldAddrA, appendA, copyA, builtinA, AV.cells, gcH, reach, keysT, keepK, inKs, AV.keys, AV.keysL, Ty.isAgg, unA, sc_int, sc_bool, sc_sl, sl_agg, sl_tup, bs_nil, t', hk2, hb, h3, h5, w, L, z]
    · simp [z, hk2, hb, bs_nil] at L
      simp [El.av_eq, ↓s_seq, ↓s_reg, ↓s_cond, ↓s_block, ↓s_cons, ↓s_consG, s_nil, s_loop, firstReg, s_gt, s_gf, s_wb, s_val, s_calls, s_cax, s_ret, s_rgx, s_sqn, s_sqr, s_cdb, s_bkr, s_skip', s_finr, s_fin1, s_fix, s_clean, o_tmp, o_int, o_bool, l_hit, l_miss, ol_nil, ol_cons, ol_some, x_move, x_assign, x_pick, pk_t, pk_f, x_bin, bn_s, x_un, x_callF, cl_no, x_callB, frame0, binA, intOp, resL, resA, results1, sealLW, AV.pure, AV.pureL, keepT, x_box, bxx, x_load, ldx, x_fieldAddr, newK, genOf, setK, lookK, writeL, writeC, readC, conts, TyI.mk1, fieldAddrA, appendA, copyA, builtinA, AV.cells, gcH, reach, keysT, keepK, inKs, AV.keys, AV.keysL, Ty.isAgg, unA, sc_int, sc_bool, sc_sl, sl_agg, sl_tup, bs_nil, t', hk2, hb, h3, h5, w, L, r2 z]
  · by_cases z : r.1 = 0
    · simp [z, hk2, hs, El.avs] at L
      simp [El.av_eq, ↓s_seq, ↓s_reg, ↓s_cond, ↓s_block, ↓s_cons, ↓s_consG, s_nil, s_loop, firstReg, s_gt, s_gf, s_wb, s_val, s_calls, s_cax, s_ret, s_rgx, s_sqn, s_cdb, s_bke, s_ret', s_skip', s_finr, s_fin1, s_fix, s_clean, o_tmp, o_int, o_bool, l_hit, l_miss, ol_nil, ol_cons, ol_some, x_move, x_assign, x_pick, pk_t, pk_f, x_bin, bn_s, x_un, x_callF, cl_no, x_callB, frame0, binA, intOp, resL, resA, results1, sealLW, AV.pure, AV.pureL, keepT, x_box, bxx, x_load, ldx, x_fieldAddr, newK, genOf, setK, lookK, writeL, writeC, readC, conts, TyI.mk1, fieldAddrA, appendA, copyA, builtinA, AV.cells, gcH, reach, keysT, keepK, inKs, AV.keys, AV.keysL, Ty.isAgg, unA, sc_int, sc_bool, sc_sl, sl_agg, sl_tup, t', hk2, hs, El.avs, h3, h5, w, L, z]
    · simp [z, hk2, hs, El.avs] at L
      simp [El.av_eq, ↓s_seq, ↓s_reg, ↓s_cond, ↓s_block, ↓s_cons, ↓s_consG, s_nil, s_loop, firstReg, s_gt, s_gf, s_wb, s_val, s_calls, s_cax, s_ret, s_rgx, s_sqn, s_sqr, s_cdb, s_bkr, s_skip', s_finr, s_fin1, s_fix, s_clean, o_tmp, o_int, o_bool, l_hit, l_miss, ol_nil, ol_cons, ol_some, x_move, x_assign, x_pick, pk_t, pk_f, x_bin, bn_s, x_un, x_callF, cl_no, x_callB, frame0, binA, intOp, resL, resA, results1, sealLW, AV.pure, AV.pureL, keepT, x_box, bxx, x_load, ldx, x_fieldAddr, newK, genOf, setK, lookK, writeL, writeC, readC, conts, TyI.mk1, fieldAddrA, appendA, copyA, builtinA, AV.cells, gcH, reach, keysT, keepK, inKs, AV.keys, AV.keysL, Ty.isAgg, unA, sc_int, sc_bool, sc_sl, sl_agg, sl_tup, t', hk2, hs, El.avs, h3, h5, w, L, r2 z]
end E11

end
section
/- The reference's Depth and Many, and the law's exact and bounded, at the evaluator. No conditions. -/
open Ab Go TabE Sp
set_option maxRecDepth 20000
set_option linter.unusedSimpArgs false
set_option linter.unusedVariables false
set_option maxHeartbeats 8000000
namespace Sp
mutual
def dep : Cr → Int
  | .mk _ _ _ _ s => deps s + 1
def deps : List Cr → Int
  | [] => 0
  | x :: r => max (dep x) (deps r)
end
mutual
def many : Cr → Int → Int
  | .mk _ _ _ _ s, m => if m ≤ 0 then 1 else manys s m 1
def manys : List Cr → Int → Int → Int
  | [], m, n => n
  | x :: r, m, n => if n ≤ m then manys r m (n + many x (m - n)) else n
end
mutual
theorem many_le : ∀ (c : Cr) (m : Int), 1 ≤ many c m ∧ (many c m ≤ m + 1 ∨ many c m = 1)
  | .mk _ _ _ _ s, m => by
    unfold many
    by_cases h : m ≤ 0
    · rw [if_pos h]; omega
    · rw [if_neg h]; have := manys_le s m 1 (by omega) (by omega); omega
theorem manys_le : ∀ (s : List Cr) (m n : Int), 1 ≤ n → n ≤ m + 1 → 1 ≤ manys s m n ∧ manys s m n ≤ m + 1
  | [], m, n, h0, h => by unfold manys; omega
  | x :: r, m, n, h0, h => by
    unfold manys
    by_cases q : n ≤ m
    · rw [if_pos q]
      have := many_le x (m - n)
      exact manys_le r m _ (by omega) (by omega)
    · rw [if_neg q]; omega
end
theorem dep_eq (e : El) : dep e.core = deps (El.cores e.s) + 1 := by rw [El.core_eq, dep]
theorem many_eq (e : El) (m : Int) : many e.core m = if m ≤ 0 then 1 else manys (El.cores e.s) m 1 := by rw [El.core_eq, many]
mutual
theorem dep_pos : ∀ c : Cr, 1 ≤ dep c
  | .mk _ _ _ _ s => by unfold dep; have := deps_pos s; omega
theorem deps_pos : ∀ s : List Cr, 0 ≤ deps s
  | [] => by unfold deps; omega
  | x :: r => by unfold deps; have := deps_pos r; omega
end
end Sp
namespace E12
theorem deps_mem {x : El} : ∀ {l : List El}, x ∈ l → dep x.core ≤ deps (El.cores l)
  | y :: l, h => by
    rw [El.cores, deps]
    rcases List.mem_cons.1 h with rfl | h
    · omega
    · have := deps_mem h; omega
def b40 : Code := lp c40 0
abbrev S40 (e : El) (i : Nat) (n : Int) : St := ⟨[(1, .ptr (1, 1, 0) 0), (3, .int .i64 n), (4, .int .i64 (i : Int))], [((1, 1, 0), bx (ec e))]⟩
theorem go40 (q k1 : Nat) (e x : El) (n r : Int) (i : Nat) (hx : e.s[i]? = some x) (le : e.s.length ≤ 9223372036854775807) (B : ∀ h, aCall E q 0 40 [x.av] h = some (.ret (.int .i64 r), h)) :
    rnd fn40 b40 q k1 (S40 e i n) = some (.normal, S40 e (i + 1) (max n r)) := by
  have hi : i < e.s.length := (List.getElem?_eq_some_iff.1 hx).1
  have ix := El.at_ e.fs e.cs e.s i x hx
  have w := w64' ((i : Int) + 1) (by omega) (by omega)
  have mx : (if n < r then r else n) = max n r := by rw [Int.max_def]; split <;> split <;> omega
  rw [El.av_eq] at B
  simp [b40, lp, lps, c40, ↓s_seq, ↓s_reg, ↓s_cond, ↓s_block, ↓s_cons, s_nil, firstReg, s_val, s_calls, s_cax, s_ret, s_rgx, s_sqn, s_cdb, s_bkn, s_skip', s_clean, o_tmp, o_int, l_hit, l_miss, ol_nil, ol_cons, ol_some, x_move, x_assign, x_bin, bn_s, x_callF, cl_no, x_callB, binA, intOp, sealLW, AV.pure, AV.pureL, keepT, x_load, ldx, x_fieldAddr, x_indexAddr, iax, newK, genOf, setK, lookK, writeL, writeC, readC, conts, TyI.mk1, fieldAddrA, appendA, copyA, builtinA, AV.cells, gcH, reach, keysT, keepK, inKs, AV.keys, AV.keysL, Ty.isAgg, sl_agg, El.avs_len, ix, w, hi, B, mx]
theorem last40 (q k1 : Nat) (e : El) (n : Int) : rnd fn40 b40 q k1 (S40 e e.s.length n) = some (.exit 0, ⟨[(1, .ptr (1, 1, 0) 0), (3, .int .i64 n), (4, .int .i64 (e.s.length : Int)), (9, .bool false)], [((1, 1, 0), bx (ec e))]⟩) := by
  simp [b40, lp, lps, c40, ↓s_seq, ↓s_reg, ↓s_cond, ↓s_cons, s_nil, firstReg, s_val, s_rgx, s_sqn, s_sqe, s_cdb, s_exit, s_clean, o_tmp, l_hit, l_miss, ol_nil, ol_cons, ol_some, x_move, x_bin, bn_s, x_callB, binA, intOp, keepT, x_load, ldx, x_fieldAddr, newK, genOf, setK, lookK, writeL, writeC, readC, conts, TyI.mk1, fieldAddrA, appendA, copyA, builtinA, AV.cells, gcH, reach, keysT, keepK, inKs, AV.keys, AV.keysL, Ty.isAgg, El.avs_len]
theorem depth : ∀ e : El, e.ok → dep e.core ≤ 100000 → ∃ N, Con E N 40 [e.av] (.int .i64 (dep e.core)) := by
  refine El.ind fun e ih he hd => ?_
  rw [dep_eq] at hd
  obtain ⟨N, hN⟩ := unif (P := fun (x : El) (n : Nat) => Con E n 40 [x.av] (.int .i64 (dep x.core))) (fun x n m h hm => h.mono hm) e.s (fun x hx => ih x hx (he.sub x hx) (by have := deps_mem hx; omega))
  obtain ⟨K, hK⟩ : ∃ K, N + e.s.length + 30 = K := ⟨_, rfl⟩
  refine ⟨K + 1, con_of E_fn40 (by simp [AV.pureL, El.av_pure]) (Nat.le_of_ble_eq_true rfl) rfl rfl (g := []) ?_⟩
  rw [body_40, c40]
  have L := loopL (f := aCode E (aCall E K) (dcall (aRun E K)) K 1 fn40 b40) (cl := cleanS 1 ((firstReg b40).bind fn40.head)) e.s (S40 e) (fun n x => .inl (max n (dep x.core)))
    (fun n => (.exit 0, ⟨[(1, .ptr (1, 1, 0) 0), (3, .int .i64 n), (4, .int .i64 (e.s.length : Int)), (9, .bool false)], [((1, 1, 0), bx (ec e))]⟩)) (fun _ => True)
    (fun i x n hx _ => ⟨fun c' e1 => by cases e1; exact ⟨go40 K K e x n _ i hx he.sl (fun h => hN x (List.mem_of_getElem? hx) K (by omega) 0 h), trivial⟩, fun r e1 => by cases e1⟩)
    (fun n _ => ⟨last40 K K e n, by simp⟩) e.s 0 0 K rfl (by simp) trivial (by omega)
  have run : ∀ (l : List El) (n : Int), 0 ≤ n → runL (fun (n : Int) (x : El) => (.inl (max n (dep x.core)) : Int ⊕ (AExit × St))) (fun n => (AExit.exit 0, (⟨[(1, .ptr (1, 1, 0) 0), (3, .int .i64 n), (4, .int .i64 (e.s.length : Int)), (9, .bool false)], [((1, 1, 0), bx (ec e))]⟩ : St))) l n =
      (AExit.exit 0, ⟨[(1, .ptr (1, 1, 0) 0), (3, .int .i64 (max n (deps (El.cores l)))), (4, .int .i64 (e.s.length : Int)), (9, .bool false)], [((1, 1, 0), bx (ec e))]⟩) := by
    intro l
    induction l with
    | nil => intro n hn; have : max n 0 = n := by omega
             simp [runL, El.cores, deps, this]
    | cons x l ih =>
      intro n hn
      unfold runL
      simp only
      rw [ih _ (by omega)]
      have : max (max n (dep x.core)) (deps (El.cores l)) = max n (deps (El.cores (x :: l))) := by rw [El.cores, deps]; omega
      rw [this]
  rw [run _ _ (by omega)] at L
  have d0 := deps_pos (El.cores e.s)
  have e0 : max 0 (deps (El.cores e.s)) = deps (El.cores e.s) := by omega
  rw [e0] at L
  have w := w64' (deps (El.cores e.s) + 1) (by omega) (by omega)
  simp [b40, lp, lps, c40, firstReg, S40, ec] at L
  simp [El.av_eq, ↓s_seq, ↓s_reg, ↓s_block, ↓s_cons, s_nil, s_loop, firstReg, s_val, s_rgx, s_sqn, s_bke, s_ret', s_finr, s_fin1, s_fix, s_clean, o_tmp, o_int, l_hit, l_miss, x_move, x_assign, x_bin, bn_s, frame0, binA, intOp, resL, resA, results1, AV.pure, keepT, x_box, bxx, newK, genOf, setK, lookK, AV.cells, gcH, reach, keysT, keepK, inKs, AV.keys, AV.keysL, sc_int, sc_bool, sc_sl, sl_int, L, w, dep_eq]
def b26 : Code := lp c26 0
abbrev S26 (e : El) (m : Int) (i : Nat) (n : Int) : St := ⟨[(1, .int .i64 m), (2, .ptr (1, 2, 0) 0), (5, .int .i64 n), (6, .int .i64 (i : Int))], [((1, 2, 0), bx (ec e))]⟩
theorem go26 (q k1 : Nat) (e x : El) (m n r : Int) (i : Nat) (hx : e.s[i]? = some x) (le : e.s.length ≤ 9223372036854775807) (n0 : 0 ≤ n) (nm : n ≤ m) (m1 : m ≤ 100000) (r0 : 0 ≤ r) (r1 : r ≤ 200000) (B : ∀ h, aCall E q 0 26 [x.av, .int .i64 (m - n)] h = some (.ret (.int .i64 r), h)) :
    rnd fn26 b26 q k1 (S26 e m i n) = some (.normal, S26 e m (i + 1) (n + r)) := by
  have hi : i < e.s.length := (List.getElem?_eq_some_iff.1 hx).1
  have ix := El.at_ e.fs e.cs e.s i x hx
  have w := w64' ((i : Int) + 1) (by omega) (by omega)
  have w2 := w64' (m - n) (by omega) (by omega)
  have w3 := w64' (n + r) (by omega) (by omega)
  rw [El.av_eq] at B
  simp [b26, lp, lps, c26, ↓s_seq, ↓s_reg, ↓s_cond, ↓s_block, ↓s_cons, ↓s_consG, s_nil, firstReg, s_gt, s_wb, s_val, s_calls, s_cax, s_ret, s_rgx, s_sqn, s_cdb, s_bkn, s_skip', s_clean, o_tmp, o_int, l_hit, l_miss, ol_nil, ol_cons, ol_some, x_move, x_assign, x_pick, pk_t, x_bin, bn_s, x_callF, cl_no, x_callB, binA, intOp, sealLW, AV.pure, AV.pureL, keepT, x_load, ldx, x_fieldAddr, x_indexAddr, iax, newK, genOf, setK, lookK, writeL, writeC, readC, conts, TyI.mk1, fieldAddrA, appendA, copyA, builtinA, AV.cells, gcH, reach, keysT, keepK, inKs, AV.keys, AV.keysL, Ty.isAgg, sl_int, sl_agg, El.avs_len, ix, w, w2, w3, hi, B, nm]
theorem out26 (q k1 : Nat) (e : El) (m n : Int) (i : Nat) (hi : i < e.s.length) (nm : ¬ n ≤ m) : rnd fn26 b26 q k1 (S26 e m i n) = some (.exit 0, ⟨[(1, .int .i64 m), (2, .ptr (1, 2, 0) 0), (5, .int .i64 n), (6, .int .i64 (i : Int)), (18, .bool false)], [((1, 2, 0), bx (ec e))]⟩) := by
  simp [b26, lp, lps, c26, ↓s_seq, ↓s_reg, ↓s_cond, ↓s_cons, ↓s_consG, s_nil, firstReg, s_gt, s_wb, s_val, s_rgx, s_sqn, s_sqe, s_cdb, s_exit, s_clean, o_tmp, l_hit, l_miss, ol_nil, ol_cons, ol_some, x_move, x_pick, pk_t, x_bin, bn_s, x_callB, binA, intOp, keepT, x_load, ldx, x_fieldAddr, newK, genOf, setK, lookK, writeL, writeC, readC, conts, TyI.mk1, fieldAddrA, appendA, copyA, builtinA, AV.cells, gcH, reach, keysT, keepK, inKs, AV.keys, AV.keysL, Ty.isAgg, El.avs_len, hi, nm]
theorem last26 (q k1 : Nat) (e : El) (m n : Int) : rnd fn26 b26 q k1 (S26 e m e.s.length n) = some (.exit 0, ⟨[(1, .int .i64 m), (2, .ptr (1, 2, 0) 0), (5, .int .i64 n), (6, .int .i64 (e.s.length : Int)), (18, .bool false)], [((1, 2, 0), bx (ec e))]⟩) := by
  simp [b26, lp, lps, c26, ↓s_seq, ↓s_reg, ↓s_cond, ↓s_cons, ↓s_consG, s_nil, firstReg, s_gf, s_wb, s_val, s_rgx, s_sqn, s_sqe, s_cdb, s_exit, s_clean, o_tmp, o_bool, l_hit, l_miss, ol_nil, ol_cons, ol_some, x_move, x_pick, pk_f, x_bin, bn_s, x_callB, binA, intOp, keepT, x_load, ldx, x_fieldAddr, newK, genOf, setK, lookK, writeL, writeC, readC, conts, TyI.mk1, fieldAddrA, appendA, copyA, builtinA, AV.cells, gcH, reach, keysT, keepK, inKs, AV.keys, AV.keysL, Ty.isAgg, El.avs_len]
end E12

end
section
/- How many elements there are, and whether they are bounded, at the evaluator. No conditions. -/
open Ab Go TabE Sp E12
set_option maxRecDepth 20000
set_option linter.unusedSimpArgs false
set_option linter.unusedVariables false
set_option maxHeartbeats 8000000
namespace E13
theorem aLoop_many (K : Nat) (e : El) (he : e.ok) (m : Int) (m1 : m ≤ 100000) (B : ∀ x ∈ e.s, ∀ p : Int, p ≤ 100000 → ∀ h, aCall E K 0 26 [x.av, .int .i64 p] h = some (.ret (.int .i64 (many x.core p)), h)) :
    ∀ (rest : List El) (i : Nat) (n : Int) (k : Nat), e.s.drop i = rest → i + rest.length = e.s.length → 1 ≤ n → n ≤ m + 1 → rest.length < k →
      ∃ j : Nat, aLoop (aCode E (aCall E K) (dcall (aRun E K)) K 1 fn26 b26) (cleanS 1 ((firstReg b26).bind fn26.head)) k (S26 e m i n) = some (.exit 0, ⟨[(1, .int .i64 m), (2, .ptr (1, 2, 0) 0), (5, .int .i64 (manys (El.cores rest) m n)), (6, .int .i64 (j : Int)), (18, .bool false)], [((1, 2, 0), bx (ec e))]⟩)
  | [], i, n, k, h1, h2, n0, n1, hk => by
    obtain ⟨k, rfl⟩ : ∃ j, k = j + 1 := ⟨k - 1, by simp at hk; omega⟩
    obtain rfl : i = e.s.length := by simpa using h2
    exact ⟨_, aLoop_end (last26 K K e m n) (by simp)⟩
  | x :: rest, i, n, k, h1, h2, n0, n1, hk => by
    obtain ⟨k, rfl⟩ : ∃ j, k = j + 1 := ⟨k - 1, by simp at hk; omega⟩
    have hx : e.s[i]? = some x := by
      have := congrArg (fun l => l[0]?) h1
      simpa [List.getElem?_drop] using this
    have hd : e.s.drop (i + 1) = rest := by
      have := congrArg List.tail h1
      simpa [List.tail_drop] using this
    rw [El.cores, manys]
    by_cases q : n ≤ m
    · rw [if_pos q]
      have b := many_le x.core (m - n)
      rw [aLoop_succ (go26 K K e x m n _ i hx he.sl (by omega) q m1 (by omega) (by omega) (B x (List.mem_of_getElem? hx) (m - n) (by omega)))]
      exact aLoop_many K e he m m1 B rest (i + 1) _ k hd (by simp at h2; omega) (by omega) (by omega) (by simp at hk; omega)
    · rw [if_neg q]
      exact ⟨_, aLoop_end (out26 K K e m n i (by simp at h2; omega) q) (by simp)⟩
theorem many_con : ∀ e : El, e.ok → ∃ N, ∀ p : Int, p ≤ 100000 → Con E N 26 [e.av, .int .i64 p] (.int .i64 (many e.core p)) := by
  refine El.ind fun e ih he => ?_
  obtain ⟨N, hN⟩ := unif (P := fun (x : El) (n : Nat) => ∀ p : Int, p ≤ 100000 → Con E n 26 [x.av, .int .i64 p] (.int .i64 (many x.core p))) (fun x n m h hm p hp => (h p hp).mono hm) e.s (fun x hx => ih x hx (he.sub x hx))
  obtain ⟨K, hK⟩ : ∃ K, N + e.s.length + 30 = K := ⟨_, rfl⟩
  refine ⟨K + 1, fun p hp => con_of E_fn26 (by simp [AV.pureL, El.av_pure, AV.pure]) (Nat.le_of_ble_eq_true rfl) rfl rfl (g := []) ?_⟩
  rw [body_26, c26, many_eq]
  by_cases h : p ≤ 0
  · simp [El.av_eq, ↓s_seq, ↓s_reg, ↓s_cond, ↓s_cons, s_nil, s_val, s_rgx, s_sqn, s_sqr, s_cdb, s_ret', s_finr, s_fin1, s_fix, s_clean, o_tmp, o_int, l_hit, l_miss, x_move, x_assign, x_bin, bn_s, frame0, binA, intOp, resL, resA, results1, AV.pure, keepT, x_box, bxx, newK, genOf, setK, lookK, AV.cells, gcH, reach, keysT, keepK, inKs, AV.keys, AV.keysL, sc_int, sc_bool, sc_sl, sl_int, h]
  · obtain ⟨j, L⟩ := aLoop_many K e he p hp (fun x hx p hp h => hN x hx p hp K (by omega) 0 h) e.s 0 1 K rfl (by simp) (by omega) (by omega) (by omega)
    simp [b26, lp, lps, c26, firstReg, S26, ec] at L
    simp [El.av_eq, ↓s_seq, ↓s_reg, ↓s_cond, ↓s_block, ↓s_cons, s_nil, s_loop, firstReg, s_val, s_rgx, s_sqn, s_cdb, s_bke, s_ret', s_skip', s_finr, s_fin1, s_fix, s_clean, o_tmp, o_int, l_hit, l_miss, x_move, x_assign, x_bin, bn_s, frame0, binA, intOp, resL, resA, results1, AV.pure, keepT, x_box, bxx, newK, genOf, setK, lookK, AV.cells, gcH, reach, keysT, keepK, inKs, AV.keys, AV.keysL, sc_int, sc_bool, sc_sl, sl_int, h, L]
inductive Exact : El → Prop
  | mk (e : El) : e.cb = some e.b.length → e.cs = some e.s.length → (∀ x ∈ e.s, Exact x) → Exact e
def b27 : Code := lp c27 0
abbrev S27 (e : El) (i : Nat) : St := ⟨[(1, .ptr (1, 1, 0) 0), (3, .int .i64 (i : Int))], [((1, 1, 0), bx (ec e))]⟩
theorem go27 (q k1 : Nat) (e x : El) (i : Nat) (hx : e.s[i]? = some x) (le : e.s.length ≤ 9223372036854775807) (B : ∀ h, aCall E q 0 27 [x.av] h = some (.ret (.bool true), h)) :
    rnd fn27 b27 q k1 (S27 e i) = some (.normal, S27 e (i + 1)) := by
  have hi : i < e.s.length := (List.getElem?_eq_some_iff.1 hx).1
  have ix := El.at_ e.fs e.cs e.s i x hx
  have w := w64' ((i : Int) + 1) (by omega) (by omega)
  rw [El.av_eq] at B
  simp [b27, lp, lps, c27, ↓s_seq, ↓s_reg, ↓s_cond, ↓s_block, ↓s_cons, s_nil, firstReg, s_val, s_calls, s_cax, s_ret, s_rgx, s_sqn, s_cdb, s_bkn, s_skip', s_clean, o_tmp, o_int, l_hit, l_miss, ol_nil, ol_cons, ol_some, x_move, x_assign, x_bin, bn_s, x_un, x_callF, cl_no, x_callB, binA, intOp, sealLW, AV.pure, AV.pureL, keepT, x_load, ldx, x_fieldAddr, x_indexAddr, iax, newK, genOf, setK, lookK, writeL, writeC, readC, conts, TyI.mk1, fieldAddrA, appendA, copyA, builtinA, AV.cells, gcH, reach, keysT, keepK, inKs, AV.keys, AV.keysL, Ty.isAgg, unA, sl_agg, El.avs_len, ix, w, hi, B]
theorem last27 (q k1 : Nat) (e : El) : rnd fn27 b27 q k1 (S27 e e.s.length) = some (.exit 0, ⟨[(1, .ptr (1, 1, 0) 0), (3, .int .i64 (e.s.length : Int)), (24, .bool false)], [((1, 1, 0), bx (ec e))]⟩) := by
  simp [b27, lp, lps, c27, ↓s_seq, ↓s_reg, ↓s_cond, ↓s_cons, s_nil, firstReg, s_val, s_rgx, s_sqn, s_sqe, s_cdb, s_exit, s_clean, o_tmp, l_hit, l_miss, ol_nil, ol_cons, ol_some, x_move, x_bin, bn_s, x_callB, binA, intOp, keepT, x_load, ldx, x_fieldAddr, newK, genOf, setK, lookK, writeL, writeC, readC, conts, TyI.mk1, fieldAddrA, appendA, copyA, builtinA, AV.cells, gcH, reach, keysT, keepK, inKs, AV.keys, AV.keysL, Ty.isAgg, El.avs_len]
theorem exact_con : ∀ e : El, e.ok → Exact e → ∃ N, Con E N 27 [e.av] (.bool true) := by
  refine El.ind fun e ih he hx => ?_
  obtain ⟨_, c1, c2, c3⟩ := hx
  obtain ⟨N, hN⟩ := unif (P := fun (x : El) (n : Nat) => Con E n 27 [x.av] (.bool true)) (fun x n m h hm => h.mono hm) e.s (fun x hx => ih x hx (he.sub x hx) (c3 x hx))
  obtain ⟨K, hK⟩ : ∃ K, N + e.s.length + 30 = K := ⟨_, rfl⟩
  refine ⟨K + 1, con_of E_fn27 (by simp [AV.pureL, El.av_pure]) (Nat.le_of_ble_eq_true rfl) rfl rfl (g := []) ?_⟩
  rw [body_27, c27]
  have L := loopQ (fn := fn27) (b := b27) (K := K) (k := K) (fun i => S27 e i) e.s.length rfl (fun i hi => by
    obtain ⟨x, hx⟩ : ∃ x, e.s[i]? = some x := ⟨e.s[i], by simp⟩
    exact go27 K K e x i hx he.sl fun h => hN x (List.mem_of_getElem? hx) K (by omega) 0 h) (last27 K K e) (by simp) (by omega)
  simp [b27, lp, lps, c27, firstReg, S27, ec, c1, c2] at L
  simp [El.av_eq, ↓s_seq, ↓s_reg, ↓s_cond, ↓s_block, ↓s_cons, ↓s_consG, s_nil, s_loop, firstReg, s_gt, s_wb, s_val, s_rgx, s_sqn, s_cdb, s_bke, s_ret', s_skip', s_finr, s_fin1, s_fix, s_clean, o_tmp, o_int, o_bool, l_hit, l_miss, ol_nil, ol_cons, ol_some, x_move, x_assign, x_pick, pk_f, x_bin, bn_s, x_callB, frame0, binA, intOp, resL, resA, results1, AV.pure, keepT, x_box, bxx, x_load, ldx, x_fieldAddr, newK, genOf, setK, lookK, writeL, writeC, readC, conts, TyI.mk1, fieldAddrA, appendA, copyA, builtinA, AV.cells, gcH, reach, keysT, keepK, inKs, AV.keys, AV.keysL, Ty.isAgg, sc_int, sc_bool, sc_sl, bs_length, sl_bool, El.avs_len, L, c1, c2]
inductive Bd : El → Prop
  | mk (e : El) : e.b.length ≤ 200 → (∀ x ∈ e.s, Bd x) → many e.core 60 ≤ 60 → Bd e
def b38 : Code := lp c38 0
abbrev S38 (e : El) (i : Nat) : St := ⟨[(1, .ptr (1, 1, 0) 0), (3, .int .i64 (i : Int))], [((1, 1, 0), bx (ec e))]⟩
theorem go38 (q k1 : Nat) (e x : El) (i : Nat) (hx : e.s[i]? = some x) (le : e.s.length ≤ 9223372036854775807) (B : ∀ h, aCall E q 0 38 [x.av] h = some (.ret (.int .i64 1), h)) :
    rnd fn38 b38 q k1 (S38 e i) = some (.normal, S38 e (i + 1)) := by
  have hi : i < e.s.length := (List.getElem?_eq_some_iff.1 hx).1
  have ix := El.at_ e.fs e.cs e.s i x hx
  have w := w64' ((i : Int) + 1) (by omega) (by omega)
  rw [El.av_eq] at B
  simp [b38, lp, lps, c38, ↓s_seq, ↓s_reg, ↓s_cond, ↓s_block, ↓s_cons, s_nil, firstReg, s_val, s_calls, s_cax, s_ret, s_rgx, s_sqn, s_cdb, s_bkn, s_skip', s_clean, o_tmp, o_int, l_hit, l_miss, ol_nil, ol_cons, ol_some, x_move, x_assign, x_bin, bn_s, x_callF, cl_no, x_callB, binA, intOp, sealLW, AV.pure, AV.pureL, keepT, x_load, ldx, x_fieldAddr, x_indexAddr, iax, newK, genOf, setK, lookK, writeL, writeC, readC, conts, TyI.mk1, fieldAddrA, appendA, copyA, builtinA, AV.cells, gcH, reach, keysT, keepK, inKs, AV.keys, AV.keysL, Ty.isAgg, sl_agg, i_beq, El.avs_len, ix, w, hi, B]
theorem out38 (q k1 : Nat) (e x : El) (i : Nat) (hx : e.s[i]? = some x) (le : e.s.length ≤ 9223372036854775807) (B : ∀ h, aCall E q 0 38 [x.av] h = some (.ret (.int .i64 0), h)) :
    rnd fn38 b38 q k1 (S38 e i) = some (.ret, ⟨[(2, .int .i64 0)], []⟩) := by
  have hi : i < e.s.length := (List.getElem?_eq_some_iff.1 hx).1
  have ix := El.at_ e.fs e.cs e.s i x hx
  rw [El.av_eq] at B
  simp [b38, lp, lps, c38, ↓s_seq, ↓s_reg, ↓s_cond, ↓s_block, ↓s_cons, s_nil, firstReg, s_val, s_calls, s_cax, s_ret, s_rgx, s_sqn, s_sqr, s_cdb, s_bkr, s_ret', s_skip', s_clean, o_tmp, o_int, l_hit, l_miss, ol_nil, ol_cons, ol_some, x_move, x_assign, x_bin, bn_s, x_callF, cl_no, x_callB, binA, intOp, sealLW, AV.pure, AV.pureL, keepT, x_load, ldx, x_fieldAddr, x_indexAddr, iax, newK, genOf, setK, lookK, writeL, writeC, readC, conts, TyI.mk1, fieldAddrA, appendA, copyA, builtinA, AV.cells, gcH, reach, keysT, keepK, inKs, AV.keys, AV.keysL, Ty.isAgg, sl_agg, El.avs_len, ix, hi, B]
theorem last38 (q k1 : Nat) (e : El) : rnd fn38 b38 q k1 (S38 e e.s.length) = some (.exit 0, ⟨[(1, .ptr (1, 1, 0) 0), (3, .int .i64 (e.s.length : Int)), (15, .bool false)], [((1, 1, 0), bx (ec e))]⟩) := by
  simp [b38, lp, lps, c38, ↓s_seq, ↓s_reg, ↓s_cond, ↓s_cons, s_nil, firstReg, s_val, s_rgx, s_sqn, s_sqe, s_cdb, s_exit, s_clean, o_tmp, l_hit, l_miss, ol_nil, ol_cons, ol_some, x_move, x_bin, bn_s, x_callB, binA, intOp, keepT, x_load, ldx, x_fieldAddr, newK, genOf, setK, lookK, writeL, writeC, readC, conts, TyI.mk1, fieldAddrA, appendA, copyA, builtinA, AV.cells, gcH, reach, keysT, keepK, inKs, AV.keys, AV.keysL, Ty.isAgg, El.avs_len]
theorem bounded : ∀ e : El, e.ok → ∃ N r, Con E N 38 [e.av] (.int .i64 r) ∧ (r = 0 ∨ (r = 1 ∧ Bd e)) := by
  refine El.ind fun e ih he => ?_
  obtain ⟨N, hN⟩ := unif (P := fun (x : El) (n : Nat) => ∃ r, Con E n 38 [x.av] (.int .i64 r) ∧ (r = 0 ∨ (r = 1 ∧ Bd x))) (fun x n m ⟨r, h1, h2⟩ hm => ⟨r, h1.mono hm, h2⟩) e.s (fun x hx => by
    obtain ⟨n, r, h⟩ := ih x hx (he.sub x hx); exact ⟨n, r, h⟩)
  obtain ⟨M, hM⟩ := many_con e he
  obtain ⟨K, hK⟩ : ∃ K, N + M + e.s.length + 30 = K := ⟨_, rfl⟩
  have m60 := hM 60 (by omega) K (by omega) 0
  rw [El.av_eq] at m60
  have lb := bs_length e.b
  by_cases h1 : 60 < many e.core 60
  · refine ⟨K + 1, 0, con_of E_fn38 (by simp [AV.pureL, El.av_pure]) (Nat.le_of_ble_eq_true rfl) rfl rfl (g := []) ?_, .inl rfl⟩
    rw [body_38, c38]
    simp [El.av_eq, ↓s_seq, ↓s_reg, ↓s_cond, ↓s_cons, s_nil, s_val, s_calls, s_cax, s_ret, s_rgx, s_sqn, s_sqr, s_cdb, s_ret', s_finr, s_fin1, s_fix, s_clean, o_tmp, o_int, l_hit, l_miss, ol_nil, ol_cons, ol_some, x_assign, x_bin, bn_s, x_callF, cl_no, frame0, binA, intOp, resL, resA, results1, sealLW, AV.pure, AV.pureL, keepT, x_box, bxx, x_load, ldx, newK, genOf, setK, lookK, readC, TyI.mk1, AV.cells, gcH, reach, keysT, keepK, inKs, AV.keys, AV.keysL, Ty.isAgg, sc_int, sc_bool, sc_sl, sl_int, sl_agg, m60, h1]
  by_cases h2 : 200 < (e.b.length : Int)
  · have h2' : 200 < e.b.length := by omega
    refine ⟨K + 1, 0, con_of E_fn38 (by simp [AV.pureL, El.av_pure]) (Nat.le_of_ble_eq_true rfl) rfl rfl (g := []) ?_, .inl rfl⟩
    rw [body_38, c38]
    simp [El.av_eq, ↓s_seq, ↓s_reg, ↓s_cond, ↓s_cons, s_nil, s_val, s_calls, s_cax, s_ret, s_rgx, s_sqn, s_sqr, s_cdb, s_ret', s_skip', s_finr, s_fin1, s_fix, s_clean, o_tmp, o_int, l_hit, l_miss, ol_nil, ol_cons, ol_some, x_assign, x_bin, bn_s, x_callF, cl_no, x_callB, frame0, binA, intOp, resL, resA, results1, sealLW, AV.pure, AV.pureL, keepT, x_box, bxx, x_load, ldx, x_fieldAddr, newK, genOf, setK, lookK, writeL, writeC, readC, conts, TyI.mk1, fieldAddrA, appendA, copyA, builtinA, AV.cells, gcH, reach, keysT, keepK, inKs, AV.keys, AV.keysL, Ty.isAgg, sc_int, sc_bool, sc_sl, bs_length, sl_int, sl_agg, m60, h1, h2]
  have h2' : ¬ 200 < e.b.length := by omega
  rcases first_bad (fun i => ∀ x, e.s[i]? = some x → Con E N 38 [x.av] (.int .i64 1) ∧ Bd x) e.s.length with all | ⟨j, j1, j2, j3⟩
  · have L := loopQ (fn := fn38) (b := b38) (K := K) (k := K) (fun i => S38 e i) e.s.length rfl (fun i hi => by
      obtain ⟨x, hx⟩ : ∃ x, e.s[i]? = some x := ⟨e.s[i], by simp⟩
      exact go38 K K e x i hx he.sl fun h => (all i hi x hx).1 K (by omega) 0 h) (last38 K K e) (by simp) (by omega)
    refine ⟨K + 1, 1, con_of E_fn38 (by simp [AV.pureL, El.av_pure]) (Nat.le_of_ble_eq_true rfl) rfl rfl (g := []) ?_, .inr ⟨rfl, .mk e (by omega) (fun x hx => ?_) (by omega)⟩⟩
    · rw [body_38, c38]
      simp [b38, lp, lps, c38, firstReg, S38, ec] at L
      simp [El.av_eq, ↓s_seq, ↓s_reg, ↓s_cond, ↓s_block, ↓s_cons, s_nil, s_loop, firstReg, s_val, s_calls, s_cax, s_ret, s_rgx, s_sqn, s_cdb, s_bke, s_ret', s_skip', s_finr, s_fin1, s_fix, s_clean, o_tmp, o_int, l_hit, l_miss, ol_nil, ol_cons, ol_some, x_assign, x_bin, bn_s, x_callF, cl_no, x_callB, frame0, binA, intOp, resL, resA, results1, sealLW, AV.pure, AV.pureL, keepT, x_box, bxx, x_load, ldx, x_fieldAddr, newK, genOf, setK, lookK, writeL, writeC, readC, conts, TyI.mk1, fieldAddrA, appendA, copyA, builtinA, AV.cells, gcH, reach, keysT, keepK, inKs, AV.keys, AV.keysL, Ty.isAgg, sc_int, sc_bool, sc_sl, bs_length, sl_int, sl_agg, m60, h1, h2, L]
    · obtain ⟨i, hi, rfl⟩ := List.getElem_of_mem hx
      exact (all i hi _ (List.getElem?_eq_getElem hi)).2
  · obtain ⟨x, hx⟩ : ∃ x, e.s[j]? = some x := ⟨e.s[j], by simp⟩
    obtain ⟨r, c1, c2⟩ := hN x (List.mem_of_getElem? hx)
    have r0 : r = 0 := by
      rcases c2 with c2 | ⟨rfl, c2⟩
      · exact c2
      · exact absurd (fun y hy => by rw [hx] at hy; cases hy; exact ⟨c1, c2⟩) j2
    subst r0
    have L := loopQ (fn := fn38) (b := b38) (K := K) (k := K) (fun i => S38 e i) j rfl (fun i hi => by
      obtain ⟨y, hy⟩ : ∃ y, e.s[i]? = some y := ⟨e.s[i]'(by omega), List.getElem?_eq_getElem _⟩
      exact go38 K K e y i hy he.sl fun h => (j3 i hi y hy).1 K (by omega) 0 h) (out38 K K e x j hx he.sl fun h => c1 K (by omega) 0 h) (by simp) (by omega)
    refine ⟨K + 1, 0, con_of E_fn38 (by simp [AV.pureL, El.av_pure]) (Nat.le_of_ble_eq_true rfl) rfl rfl (g := []) ?_, .inl rfl⟩
    rw [body_38, c38]
    simp [b38, lp, lps, c38, firstReg, S38, ec] at L
    simp [El.av_eq, ↓s_seq, ↓s_reg, ↓s_cond, ↓s_block, ↓s_cons, s_nil, s_loop, firstReg, s_val, s_calls, s_cax, s_ret, s_rgx, s_sqn, s_sqr, s_cdb, s_bkr, s_skip', s_finr, s_fin1, s_fix, s_clean, o_tmp, o_int, l_hit, l_miss, ol_nil, ol_cons, ol_some, x_assign, x_bin, bn_s, x_callF, cl_no, x_callB, frame0, binA, intOp, resL, resA, results1, sealLW, AV.pure, AV.pureL, keepT, x_box, bxx, x_load, ldx, x_fieldAddr, newK, genOf, setK, lookK, writeL, writeC, readC, conts, TyI.mk1, fieldAddrA, appendA, copyA, builtinA, AV.cells, gcH, reach, keysT, keepK, inKs, AV.keys, AV.keysL, Ty.isAgg, sc_int, sc_bool, sc_sl, bs_length, sl_int, sl_agg, m60, h1, h2, L]
end E13

end
section
/- elements.equal, Same and Compare at the evaluator. No conditions. -/
open Ab Go TabE Sp
set_option maxRecDepth 20000
set_option linter.unusedSimpArgs false
set_option linter.unusedVariables false
set_option maxHeartbeats 8000000
namespace E14
theorem beq (f c g d) (xs ys : List Int) (hx : isB xs) (hy : isB ys) : Con E 5 104 [.sl f (bs xs) c, .sl g (bs ys) d] (.bool (decide (xs = ys))) := by
  refine con_of E_fn104 (by simp [AV.pureL, AV.pure]) (Nat.le_of_ble_eq_true rfl) rfl rfl (g := []) ?_
  rw [body_104, c104]
  simp [↓s_seq, ↓s_reg, ↓s_cons, s_nil, s_val, s_rgx, s_sqn, s_ret', s_finr, s_fin1, s_fix, s_clean, o_tmp, o_bool, l_hit, l_miss, x_move, x_assign, x_bin, bn_s, x_conv, cvx, convA, frame0, binA, resL, resA, results1, AV.pure, keepT, lookK, conts, gcH, bs_length, bs_cells, sl_bool, bs_go hx, bs_go hy]
def b105 : Code := lp c105 0
abbrev S (f g : Bool) (a b : List El) (c d : Option Nat) (i : Nat) : St := ⟨[(1, .sl g (El.avs b) d), (2, .fn 78 [] []), (15, .sl f (El.avs a) c), (16, .int .i64 (a.length : Int)), (17, .int .i64 (i : Int))], []⟩
theorem go (q k1 : Nat) (f g a b c d) (i : Nat) (x y : El) (hx : a[i]? = some x) (hy : b[i]? = some y) (la : a.length ≤ 9223372036854775807) (B : ∀ h, aCall E q 0 78 [x.av, y.av] h = some (.ret (.bool true), h)) :
    rndO fn105 b105 q k1 (S f g a b c d i) = some (.normal, S f g a b c d (i + 1)) := by
  have hi : i < a.length := (List.getElem?_eq_some_iff.1 hx).1
  have ix := El.at_ f c a i x hx
  have iy := El.at_ g d b i y hy
  have w := w64' ((i : Int) + 1) (by omega) (by omega)
  rw [El.av_eq, El.av_eq] at B
  simp [b105, lp, lps, c105, ↓s_seq, ↓s_reg, ↓s_cond, ↓s_block, ↓s_cons, s_nil, firstReg, s_val, s_skip, s_cax, s_ret, s_rgx, s_sqn, s_cdb, s_bkn, s_skip', s_clean, o_tmp, o_int, l_hit, l_miss, ol_nil, ol_cons, ol_some, x_move, x_assign, x_bin, bn_s, x_un, cl_no, binA, intOp, sealLW, AV.pure, AV.pureL, keepT, x_alloc, x_load, ldx, x_store, stx, x_indexAddr, iax, newK, genOf, setK, lookK, writeL, writeC, readC, TyI.mk1, AV.cells, gcH, reach, keysT, keepK, inKs, AV.keys, AV.keysL, Ty.isAgg, unA, sc_int, sc_bool, sc_sl, sl_agg, s_site, s_stxN, x_callT, clx, ix, iy, w, hi, B]
theorem out (q k1 : Nat) (f g a b c d) (i : Nat) (x y : El) (hx : a[i]? = some x) (hy : b[i]? = some y) (la : a.length ≤ 9223372036854775807) (B : ∀ h, aCall E q 0 78 [x.av, y.av] h = some (.ret (.bool false), h)) :
    rndO fn105 b105 q k1 (S f g a b c d i) = some (.ret, ⟨[(6, .bool false)], []⟩) := by
  have hi : i < a.length := (List.getElem?_eq_some_iff.1 hx).1
  have ix := El.at_ f c a i x hx
  have iy := El.at_ g d b i y hy
  rw [El.av_eq, El.av_eq] at B
  simp [b105, lp, lps, c105, ↓s_seq, ↓s_reg, ↓s_cond, ↓s_block, ↓s_cons, s_nil, firstReg, s_val, s_skip, s_cax, s_ret, s_rgx, s_sqn, s_sqr, s_cdb, s_bkr, s_ret', s_skip', s_clean, o_tmp, o_bool, l_hit, l_miss, ol_nil, ol_cons, ol_some, x_move, x_assign, x_bin, bn_s, x_un, cl_no, binA, intOp, sealLW, AV.pure, AV.pureL, keepT, x_alloc, x_load, ldx, x_store, stx, x_indexAddr, iax, newK, genOf, setK, lookK, writeL, writeC, readC, TyI.mk1, AV.cells, gcH, reach, keysT, keepK, inKs, AV.keys, AV.keysL, Ty.isAgg, unA, sc_int, sc_bool, sc_sl, sl_agg, s_site, s_stxN, x_callT, clx, ix, iy, hi, B]
theorem last (q k1 : Nat) (f g a b c d) : rndO fn105 b105 q k1 (S f g a b c d a.length) = some (.exit 0, ⟨[(1, .sl g (El.avs b) d), (2, .fn 78 [] []), (15, .sl f (El.avs a) c), (16, .int .i64 (a.length : Int)), (17, .int .i64 (a.length : Int)), (18, .bool false)], []⟩) := by
  simp [b105, lp, lps, c105, ↓s_seq, ↓s_reg, ↓s_cond, ↓s_cons, s_nil, firstReg, s_val, s_rgx, s_sqn, s_sqe, s_cdb, s_exit, s_clean, o_tmp, l_hit, l_miss, x_bin, bn_s, binA, intOp, keepT, gcH]
theorem eqf (N : Nat) (f g a b c d) (la : a.length ≤ 9223372036854775807) (B : ∀ x ∈ a, ∀ y ∈ b, ∃ v, Con E N 78 [x.av, y.av] (.bool v) ∧ (v = true ↔ x.core = y.core)) :
    ∃ v, (∀ k, N + a.length + 21 ≤ k → aRun E k 105 [.sl f (El.avs a) c, .sl g (El.avs b) d, .fn 78 [] []] [] = some (.ret (.bool v), [])) ∧ (v = true ↔ El.cores a = El.cores b) := by
  by_cases hl : a.length = b.length
  case neg =>
    refine ⟨false, fun k hk => ?_, ?_⟩
    · obtain ⟨K, rfl⟩ : ∃ K, k = K + 1 := ⟨k - 1, by omega⟩
      rw [aRun_fn rfl E_fn105 rfl (Nat.le_of_ble_eq_true rfl), body_105, c105]
      have hl' : ¬ ((a.length : Int) = (b.length : Int)) := by omega
      simp [↓s_seq, ↓s_reg, ↓s_cond, ↓s_cons, s_nil, s_val, s_rgx, s_sqn, s_sqr, s_cdb, s_ret', s_finr, s_fin1, s_clean, o_tmp, o_bool, l_hit, l_miss, ol_nil, ol_cons, ol_some, x_move, x_assign, x_bin, bn_s, x_callB, frame0, binA, intOp, resL, resA, results1, keepT, newK, genOf, setK, lookK, writeC, conts, appendA, copyA, builtinA, AV.cells, gcH, Ty.isAgg, i_bne, El.avs_len, hl']
    · simp; intro h; exact hl (El.cores_len h)
  rcases first_bad (fun i => ∀ x y, a[i]? = some x → b[i]? = some y → x.core = y.core) a.length with all | ⟨j, j1, j2, j3⟩
  · refine ⟨true, fun k hk => ?_, ?_⟩
    · obtain ⟨K, rfl⟩ : ∃ K, k = K + 1 := ⟨k - 1, by omega⟩
      rw [aRun_fn rfl E_fn105 rfl (Nat.le_of_ble_eq_true rfl), body_105, c105]
      have L := loopO (fn := fn105) (b := b105) (K := K) (k := K) (fun i => S f g a b c d i) a.length rfl (fun i hi => by
        obtain ⟨x, hx⟩ : ∃ x, a[i]? = some x := ⟨a[i], by simp⟩
        obtain ⟨y, hy⟩ : ∃ y, b[i]? = some y := ⟨b[i]'(by omega), List.getElem?_eq_getElem _⟩
        obtain ⟨v, v1, v2⟩ := B x (List.mem_of_getElem? hx) y (List.mem_of_getElem? hy)
        obtain rfl := v2.2 (all i hi x y hx hy)
        exact go K K f g a b c d i x y hx hy la fun h => v1 K (by omega) 0 h) (last K K f g a b c d) (by simp) (by omega)
      simp [b105, lp, lps, c105, firstReg, S, hl] at L
      simp [↓s_seq, ↓s_reg, ↓s_cond, ↓s_block, ↓s_cons, s_nil, s_loop, firstReg, s_val, s_rgx, s_sqn, s_cdb, s_bke, s_ret', s_skip', s_finr, s_fin1, s_clean, o_tmp, o_int, o_bool, l_hit, l_miss, ol_nil, ol_cons, ol_some, x_move, x_assign, x_bin, bn_s, x_callB, frame0, binA, intOp, resL, resA, results1, keepT, newK, genOf, setK, lookK, writeC, conts, appendA, copyA, builtinA, AV.cells, gcH, Ty.isAgg, El.avs_len, hl, L]
    · simp only [true_iff]
      rw [El.cores_map, El.cores_map]
      apply List.ext_getElem?
      intro i
      rw [List.getElem?_map, List.getElem?_map]
      by_cases hi : i < a.length
      · obtain ⟨x, hx⟩ : ∃ x, a[i]? = some x := ⟨a[i], by simp⟩
        obtain ⟨y, hy⟩ : ∃ y, b[i]? = some y := ⟨b[i]'(by omega), List.getElem?_eq_getElem _⟩
        rw [hx, hy, Option.map_some, Option.map_some, all i hi x y hx hy]
      · rw [List.getElem?_eq_none (by omega), List.getElem?_eq_none (by omega)]
  · obtain ⟨x, hx⟩ : ∃ x, a[j]? = some x := ⟨a[j], by simp⟩
    obtain ⟨y, hy⟩ : ∃ y, b[j]? = some y := ⟨b[j]'(by omega), List.getElem?_eq_getElem _⟩
    have ne : x.core ≠ y.core := fun e => j2 fun x' y' hx' hy' => by rw [hx] at hx'; rw [hy] at hy'; cases hx'; cases hy'; exact e
    refine ⟨false, fun k hk => ?_, ?_⟩
    · obtain ⟨K, rfl⟩ : ∃ K, k = K + 1 := ⟨k - 1, by omega⟩
      rw [aRun_fn rfl E_fn105 rfl (Nat.le_of_ble_eq_true rfl), body_105, c105]
      obtain ⟨v, v1, v2⟩ := B x (List.mem_of_getElem? hx) y (List.mem_of_getElem? hy)
      have v0 : v = false := by cases v; rfl; exact absurd (v2.1 rfl) ne
      subst v0
      have L := loopO (fn := fn105) (b := b105) (K := K) (k := K) (fun i => S f g a b c d i) j rfl (fun i hi => by
        obtain ⟨x, hx⟩ : ∃ x, a[i]? = some x := ⟨a[i]'(by omega), List.getElem?_eq_getElem _⟩
        obtain ⟨y, hy⟩ : ∃ y, b[i]? = some y := ⟨b[i]'(by omega), List.getElem?_eq_getElem _⟩
        obtain ⟨v, v1, v2⟩ := B x (List.mem_of_getElem? hx) y (List.mem_of_getElem? hy)
        obtain rfl := v2.2 (j3 i hi x y hx hy)
        exact go K K f g a b c d i x y hx hy la fun h => v1 K (by omega) 0 h) (out K K f g a b c d j x y hx hy la fun h => v1 K (by omega) 0 h) (by simp) (by omega)
      simp [b105, lp, lps, c105, firstReg, S, hl] at L
      simp [↓s_seq, ↓s_reg, ↓s_cond, ↓s_block, ↓s_cons, s_nil, s_loop, firstReg, s_val, s_rgx, s_sqn, s_sqr, s_cdb, s_bkr, s_skip', s_finr, s_fin1, s_clean, o_tmp, o_int, o_bool, l_hit, l_miss, ol_nil, ol_cons, ol_some, x_move, x_assign, x_bin, bn_s, x_callB, frame0, binA, intOp, resL, resA, results1, keepT, newK, genOf, setK, lookK, writeC, conts, appendA, copyA, builtinA, AV.cells, gcH, Ty.isAgg, El.avs_len, hl, L]
    · simp
      intro h
      exact ne (El.cores_get h hx hy)
theorem op_eqf {run : RunF} {slot : Nat} {x y : AV} {v : Bool} {h : Heap} (hx : x.pure = true) (hy : y.pure = true) (hr : run 105 [x, y, .fn 78 [] []] [] = some (.ret (.bool v), [])) :
    opened [false, false, true] true run slot 105 [x, y, .fn 78 [] []] h = some (.ret (.bool v), h) := by
  have e1 : sealM (sealA 20) [false, false, true] h [x, y, .fn 78 [] []] = some ([x, y, .fn 78 [] []], h) := by simp [sealM, sealA_of_pure hx, sealA_of_pure hy]
  have e2 : AV.keysL [x, y, .fn 78 [] []] = [] := by simp [AV.keysL, AV.keys, AV.keys_pure x hx, AV.keys_pure y hy]
  have e3 : AV.rnL (inK []) [x, y, .fn 78 [] []] = [x, y, .fn 78 [] []] := by simp [AV.rnL, AV.rn, rn_pure x hx, rn_pure y hy]
  have e7 : ∀ h : Heap, dd (reach h 3 []) = [] := fun h => rfl
  unfold opened
  rw [e1]
  simp only [e2, e7]
  unfold lendA
  simp only [lendH, closedH, e2, List.all_nil, and_self, if_true, e3, hr]
  rfl
theorem equal : ∀ a : El, ∀ b : El, a.ok → b.ok → ∃ N v, Con E N 78 [a.av, b.av] (.bool v) ∧ (v = true ↔ a.core = b.core) := by
  refine El.ind fun a ih b ha hb => ?_
  obtain ⟨N, hN⟩ := unif (P := fun (x : El) (n : Nat) => ∀ y ∈ b.s, ∃ v, Con E n 78 [x.av, y.av] (.bool v) ∧ (v = true ↔ x.core = y.core)) (fun x n m h hm y hy => by obtain ⟨v, v1, v2⟩ := h y hy; exact ⟨v, v1.mono hm, v2⟩) a.s (fun x hx => by
    obtain ⟨M, hM⟩ := unif (P := fun (y : El) (n : Nat) => ∃ v, Con E n 78 [x.av, y.av] (.bool v) ∧ (v = true ↔ x.core = y.core)) (fun y n m ⟨v, v1, v2⟩ hm => ⟨v, v1.mono hm, v2⟩) b.s (fun y hy => by
      obtain ⟨n, v, h⟩ := ih x hx y (ha.sub x hx) (hb.sub y hy); exact ⟨n, v, h⟩)
    exact ⟨M, fun y hy => hM y hy⟩)
  obtain ⟨v, v1, v2⟩ := eqf N a.fs b.fs a.s b.s a.cs b.cs ha.sl hN
  obtain ⟨K, hK⟩ : ∃ K, N + a.s.length + 41 = K := ⟨_, rfl⟩
  have o := fun slot h => op_eqf (slot := slot) (h := h) rfl rfl (v1 K (by omega))
  have q := beq a.fb a.cb b.fb b.cb a.b b.b ha.bb hb.bb K (by omega) 0
  refine ⟨K + 1, decide (a.c = b.c) && decide (a.k = b.k) && decide (a.n = b.n) && decide (a.b = b.b) && v, con_ofO E_fn78 (by simp [AV.pureL, El.av_pure]) (Nat.le_of_ble_eq_true rfl) rfl (g := []) ?_, ?_⟩
  · rw [body_78, c78]
    by_cases h1 : a.c = b.c
    case neg => simp [El.av_eq, ↓s_seq, ↓s_reg, ↓s_cons, ↓s_consG, s_nil, s_gf, s_wb, s_val, s_rgx, s_sqn, s_ret', s_finr, s_fin1, s_fix, s_clean, o_tmp, o_bool, o_fn, l_hit, l_miss, ol_nil, ol_cons, ol_some, x_move, x_assign, x_pick, pk_f, x_bin, bn_s, x_callF, cl_no, frame0, binA, resL, resA, results1, AV.pure, keepT, x_box, bxx, x_load, ldx, x_fieldAddr, newK, genOf, setK, lookK, readC, TyI.mk1, fieldAddrA, AV.cells, gcH, reach, keysT, keepK, inKs, AV.keys, AV.keysL, Ty.isAgg, eq1, eqL, sc_int, sc_bool, sc_sl, sl_bool, i_beq, fitZ, h1]
    by_cases h2 : a.k = b.k
    case neg => have h2' : (a.k == b.k) = false := by simpa using h2
                simp [El.av_eq, ↓s_seq, ↓s_reg, ↓s_cons, ↓s_consG, s_nil, s_gf, s_wb, s_val, s_rgx, s_sqn, s_ret', s_finr, s_fin1, s_fix, s_clean, o_tmp, o_bool, o_fn, l_hit, l_miss, ol_nil, ol_cons, ol_some, x_move, x_assign, x_pick, pk_f, x_bin, bn_s, x_callF, cl_no, frame0, binA, resL, resA, results1, AV.pure, keepT, x_box, bxx, x_load, ldx, x_fieldAddr, newK, genOf, setK, lookK, readC, TyI.mk1, fieldAddrA, AV.cells, gcH, reach, keysT, keepK, inKs, AV.keys, AV.keysL, Ty.isAgg, eq1, eqL, sc_int, sc_bool, sc_sl, sl_bool, i_beq, fitZ, h1, h2, h2']
    by_cases h3 : a.n = b.n
    case neg => simp [El.av_eq, ↓s_seq, ↓s_reg, ↓s_cons, ↓s_consG, s_nil, s_gf, s_wb, s_val, s_rgx, s_sqn, s_ret', s_finr, s_fin1, s_fix, s_clean, o_tmp, o_bool, o_fn, l_hit, l_miss, ol_nil, ol_cons, ol_some, x_move, x_assign, x_pick, pk_f, x_bin, bn_s, x_callF, cl_no, frame0, binA, resL, resA, results1, AV.pure, keepT, x_box, bxx, x_load, ldx, x_fieldAddr, newK, genOf, setK, lookK, readC, TyI.mk1, fieldAddrA, AV.cells, gcH, reach, keysT, keepK, inKs, AV.keys, AV.keysL, Ty.isAgg, eq1, eqL, sc_int, sc_bool, sc_sl, sl_bool, i_beq, fitZ, h1, h2, h3]
    by_cases h4 : a.b = b.b
    · rw [decide_eq_true h4, h4] at q
      simp [El.av_eq, ↓s_seq, ↓s_reg, ↓s_cons, ↓s_consG, s_nil, s_gt, s_wb, s_val, s_cax, s_ret, s_rgx, s_sqn, s_ret', s_finr, s_fin1, s_fix, s_clean, o_tmp, o_bool, o_fn, l_hit, l_miss, ol_nil, ol_cons, ol_some, x_move, x_assign, x_pick, pk_t, x_bin, bn_s, x_callF, cl_no, frame0, binA, resL, resA, results1, sealLW, AV.pure, AV.pureL, keepT, x_box, bxx, x_load, ldx, x_fieldAddr, newK, genOf, setK, lookK, readC, TyI.mk1, fieldAddrA, AV.cells, gcH, reach, keysT, keepK, inKs, AV.keys, AV.keysL, Ty.isAgg, eq1, eqL, sc_int, sc_bool, sc_sl, sl_bool, sl_sl, s_site, s_stxN, s_stxO, fitZ, h1, h2, h3, h4, q, o]
    · rw [decide_eq_false h4] at q
      simp [El.av_eq, ↓s_seq, ↓s_reg, ↓s_cons, ↓s_consG, s_nil, s_gt, s_gf, s_wb, s_val, s_cax, s_ret, s_rgx, s_sqn, s_ret', s_finr, s_fin1, s_fix, s_clean, o_tmp, o_bool, o_fn, l_hit, l_miss, ol_nil, ol_cons, ol_some, x_move, x_assign, x_pick, pk_t, pk_f, x_bin, bn_s, x_callF, cl_no, frame0, binA, resL, resA, results1, sealLW, AV.pure, AV.pureL, keepT, x_box, bxx, x_load, ldx, x_fieldAddr, newK, genOf, setK, lookK, readC, TyI.mk1, fieldAddrA, AV.cells, gcH, reach, keysT, keepK, inKs, AV.keys, AV.keysL, Ty.isAgg, eq1, eqL, sc_int, sc_bool, sc_sl, sl_bool, sl_sl, s_site, s_stxN, fitZ, h1, h2, h3, h4, q]
  · rw [El.core_inj, ← v2]
    simp [and_assoc]
theorem same_ok (a b : El) (ha : a.ok) (hb : b.ok) (h1 : (chk a.core 1 0 0).1 = 0) (h2 : (chk b.core 1 0 0).1 = 0) : ∃ N v, Con E N 36 [a.av, b.av] (.bool v) ∧ (v = true ↔ a.core = b.core) := by
  obtain ⟨N, v, e1, e2⟩ := equal a b ha hb
  obtain ⟨N1, c1⟩ := E10.check a ha
  obtain ⟨N2, c2⟩ := E10.check b hb
  obtain ⟨K, hK⟩ : ∃ K, N + N1 + N2 + 20 = K := ⟨_, rfl⟩
  have e1' := e1 K (by omega) 0
  have c1' := c1 K (by omega) 0
  have c2' := c2 K (by omega) 0
  rw [El.av_eq, h1] at c1'
  rw [El.av_eq, h2] at c2'
  rw [El.av_eq, El.av_eq] at e1'
  refine ⟨K + 1, v, con_of E_fn36 (by simp [AV.pureL, El.av_pure]) (Nat.le_of_ble_eq_true rfl) rfl rfl (g := []) ?_, e2⟩
  rw [body_36, c36]
  simp [El.av_eq, ↓s_seq, ↓s_reg, ↓s_cons, ↓s_consG, s_nil, s_gt, s_wb, s_val, s_calls, s_cax, s_ret, s_rgx, s_sqn, s_ret', s_finr, s_fin1, s_fix, s_clean, o_tmp, o_int, o_bool, l_hit, l_miss, ol_nil, ol_cons, ol_some, x_move, x_assign, x_pick, pk_t, x_bin, bn_s, x_callF, cl_no, frame0, binA, intOp, resL, resA, results1, sealLW, AV.pure, AV.pureL, keepT, x_box, bxx, x_load, ldx, newK, genOf, setK, lookK, readC, TyI.mk1, AV.cells, gcH, reach, keysT, keepK, inKs, AV.keys, AV.keysL, Ty.isAgg, sc_int, sc_bool, sc_sl, sl_bool, sl_agg, c1', c2', e1']
theorem same_bad (a b : El) (ha : a.ok) (h1 : (chk a.core 1 0 0).1 ≠ 0) : ∃ N, Con E N 36 [a.av, b.av] (.bool false) := by
  obtain ⟨N1, c1⟩ := E10.check a ha
  obtain ⟨K, hK⟩ : ∃ K, N1 + 20 = K := ⟨_, rfl⟩
  have c1' := c1 K (by omega) 0
  rw [El.av_eq] at c1'
  refine ⟨K + 1, con_of E_fn36 (by simp [AV.pureL, El.av_pure]) (Nat.le_of_ble_eq_true rfl) rfl rfl (g := []) ?_⟩
  rw [body_36, c36]
  simp [El.av_eq, ↓s_seq, ↓s_reg, ↓s_cons, ↓s_consG, s_nil, s_gf, s_wb, s_val, s_calls, s_cax, s_ret, s_rgx, s_sqn, s_ret', s_finr, s_fin1, s_fix, s_clean, o_tmp, o_int, o_bool, l_hit, l_miss, ol_nil, ol_cons, ol_some, x_move, x_assign, x_pick, pk_f, x_bin, bn_s, x_callF, cl_no, frame0, binA, intOp, resL, resA, results1, sealLW, AV.pure, AV.pureL, keepT, x_box, bxx, x_load, ldx, newK, genOf, setK, lookK, readC, TyI.mk1, AV.cells, gcH, reach, keysT, keepK, inKs, AV.keys, AV.keysL, Ty.isAgg, sc_int, sc_bool, sc_sl, sl_bool, sl_agg, i_beq, c1', h1]
theorem bcmp (f c g d) (xs ys : List Int) (hx : isB xs) (hy : isB ys) : Con E 5 79 [.sl f (bs xs) c, .sl g (bs ys) d] (.int .i64 (cmpI xs ys)) := by
  refine con_of E_fn79 (by simp [AV.pureL, AV.pure]) (Nat.le_of_ble_eq_true rfl) rfl rfl (g := []) ?_
  rw [body_79, c79]
  simp [↓s_seq, ↓s_reg, ↓s_cons, s_nil, s_val, s_rgx, s_sqn, s_ret', s_finr, s_fin1, s_fix, s_clean, o_tmp, o_int, l_hit, l_miss, ol_nil, ol_cons, ol_some, x_move, x_assign, x_callF, frame0, resL, resA, results1, AV.pure, keepT, gcH, sl_int, cl_yes, extA, bs_go hx, bs_go hy]
theorem compare (a b : El) (f c g d) (xs ys : List Int) (hx : isB xs) (hy : isB ys) (N : Nat) (e1 e2 : Int) (ha : Con E N 21 [a.av] (.tup [.sl f (bs xs) c, .int .i64 e1])) (hb : Con E N 21 [b.av] (.tup [.sl g (bs ys) d, .int .i64 e2])) :
    Con E (N + 21) 37 [a.av, b.av] (.int .i64 (cmpI xs ys)) := by
  have ha' := ha (N + 20) (by omega) 0
  have hb' := hb (N + 20) (by omega) 0
  have q := bcmp f c g d xs ys hx hy (N + 20) (by omega) 0
  rw [El.av_eq] at ha' hb'
  refine con_of E_fn37 (by simp [AV.pureL, El.av_pure]) (Nat.le_of_ble_eq_true rfl) rfl rfl (g := []) ?_
  rw [body_37, c37]
  simp [El.av_eq, ↓s_seq, ↓s_reg, ↓s_cons, s_nil, s_val, s_calls, s_cax, s_ret, s_rgx, s_sqn, s_ret', s_finr, s_fin1, s_fix, s_clean, o_tmp, o_int, l_hit, l_miss, ol_nil, ol_cons, ol_some, x_move, x_assign, x_extract, x_callF, cl_no, frame0, resL, resA, results1, sealLW, AV.pure, AV.pureL, keepT, x_box, bxx, x_load, ldx, newK, genOf, setK, lookK, readC, TyI.mk1, AV.cells, gcH, reach, keysT, keepK, inKs, AV.keys, AV.keysL, Ty.isAgg, sc_int, sc_bool, sc_sl, sl_int, sl_sl, sl_agg, ha', hb', q]
end E14

end
section
/- The reference's octets of tags, at the evaluator. No conditions. -/
open Ab Go TabE Sp
set_option maxRecDepth 20000
set_option linter.unusedSimpArgs false
set_option linter.unusedVariables false
set_option maxHeartbeats 8000000
namespace E15
theorem grp1 (v : Int) (h0 : 0 ≤ v) (h1 : v < 128) : Con E 20 103 [.int .i64 v] (.sl false [.int .u8 (TG.oct v 0)] (some 1)) := by
  refine con_of E_fn103 rfl (Nat.le_of_ble_eq_true rfl) rfl rfl (g := []) ?_
  rw [body_103, c103]
  have q1 : v.tmod 128 = v := by rw [Int.tmod_eq_emod_of_nonneg h0]; omega
  have q2 : v.tdiv 128 = 0 := by rw [Int.tdiv_eq_ediv_of_nonneg h0]; omega
  have q3 : v % 256 = v := by omega
  have o : TG.oct v 0 = v := by unfold TG.oct; simp; omega
  simp [↓s_seq, ↓s_reg, ↓s_cond, ↓s_block, ↓s_cons, s_nil, s_loop, s_round, s_lpe, firstReg, s_val, s_rgx, s_sqn, s_sqe, s_cdb, s_bke, s_exit, s_ret', s_finr, s_fin1, s_fix, s_clean, o_tmp, o_int, o_nil, l_hit, l_miss, ol_nil, ol_cons, ol_some, x_move, x_assign, x_bin, bn_s, x_conv, cvx, convA, frame0, binA, intOp, resL, resA, results1, AV.pure, AV.pureL, keepT, x_buildSlice, bsx, newK, genOf, setK, lookK, fillA, writeL, conts, AV.cells, gcH, reach, keysT, keepK, inKs, AV.keys, AV.keysL, Ty.isAgg, w_u8, w_i64, sc_int, sl_row, sealRow, sealY, q1, q2, q3, o, w_i64]
theorem grp2 (v : Int) (h0 : 128 ≤ v) (h1 : v < 16384) : Con E 20 103 [.int .i64 v] (.sl false [.int .u8 (TG.oct v 1), .int .u8 (TG.oct v 0)] none) := by
  refine con_of E_fn103 rfl (Nat.le_of_ble_eq_true rfl) rfl rfl (g := []) ?_
  rw [body_103, c103]
  have q1 : v.tmod 128 = v % 128 := Int.tmod_eq_emod_of_nonneg (by omega)
  have q2 : v.tdiv 128 = v / 128 := Int.tdiv_eq_ediv_of_nonneg (by omega)
  have q3 : v % 128 % 256 = v % 128 := by omega
  have a1 : 0 < v / 128 := by omega
  have q4 : (v / 128).tmod 128 = v / 128 := by rw [Int.tmod_eq_emod_of_nonneg (by omega)]; omega
  have q5 : (v / 128).tdiv 128 = 0 := by rw [Int.tdiv_eq_ediv_of_nonneg (by omega)]; omega
  have w1 := w64' (v / 128) (by omega) (by omega)
  have w2 := w64' (128 + v / 128) (by omega) (by omega)
  have q6 : (128 + v / 128) % 256 = 128 + v / 128 := by omega
  have o0 : TG.oct v 0 = v % 128 := by unfold TG.oct; simp
  have o1 : TG.oct v 1 = 128 + v / 128 := by unfold TG.oct; simp; omega
  simp [↓s_seq, ↓s_reg, ↓s_cond, ↓s_block, ↓s_cons, s_nil, s_loop, s_round, s_lpn, s_lpe, firstReg, s_val, s_rgx, s_sqn, s_sqe, s_cdb, s_bkn, s_bke, s_exit, s_ret', s_skip', s_finr, s_fin1, s_fix, s_clean, o_tmp, o_int, o_nil, l_hit, l_miss, ol_nil, ol_cons, ol_some, x_move, x_assign, x_bin, bn_s, x_callB, x_conv, cvx, convA, frame0, binA, intOp, resL, resA, results1, AV.pure, AV.pureL, keepT, x_buildSlice, bsx, newK, genOf, setK, lookK, fillA, writeL, writeC, conts, appendA, copyA, builtinA, AV.cells, gcH, reach, keysT, keepK, inKs, AV.keys, AV.keysL, Ty.isAgg, w_u8, w_i64, sc_int, sl_row, sealRow, sealY, q1, q2, q3, a1, q4, q5, w1, w2, q6, o0, o1, w_i64]
theorem grp3 (v : Int) (h0 : 16384 ≤ v) (h1 : v < 2097152) : Con E 20 103 [.int .i64 v] (.sl false [.int .u8 (TG.oct v 2), .int .u8 (TG.oct v 1), .int .u8 (TG.oct v 0)] none) := by
  refine con_of E_fn103 rfl (Nat.le_of_ble_eq_true rfl) rfl rfl (g := []) ?_
  rw [body_103, c103]
  have q1 : v.tmod 128 = v % 128 := Int.tmod_eq_emod_of_nonneg (by omega)
  have q2 : v.tdiv 128 = v / 128 := Int.tdiv_eq_ediv_of_nonneg (by omega)
  have q3 : v % 128 % 256 = v % 128 := by omega
  have a1 : 0 < v / 128 := by omega
  have q4 : (v / 128).tmod 128 = v / 128 % 128 := Int.tmod_eq_emod_of_nonneg (by omega)
  have q5 : (v / 128).tdiv 128 = v / 16384 := by rw [Int.tdiv_eq_ediv_of_nonneg (by omega)]; omega
  have a2 : 0 < v / 16384 := by omega
  have q7 : (v / 16384).tmod 128 = v / 16384 := by rw [Int.tmod_eq_emod_of_nonneg (by omega)]; omega
  have q8 : (v / 16384).tdiv 128 = 0 := by rw [Int.tdiv_eq_ediv_of_nonneg (by omega)]; omega
  have w1 := w64' (v / 128) (by omega) (by omega)
  have w3 := w64' (v / 16384) (by omega) (by omega)
  have w2 := w64' (128 + v / 128 % 128) (by omega) (by omega)
  have w4 := w64' (128 + v / 16384) (by omega) (by omega)
  have q6 : (128 + v / 128 % 128) % 256 = 128 + v / 128 % 128 := by omega
  have q9 : (128 + v / 16384) % 256 = 128 + v / 16384 := by omega
  have o0 : TG.oct v 0 = v % 128 := by unfold TG.oct; simp
  have o1 : TG.oct v 1 = 128 + v / 128 % 128 := by unfold TG.oct; simp; omega
  have o2 : TG.oct v 2 = 128 + v / 16384 := by unfold TG.oct; simp; omega
  simp [↓s_seq, ↓s_reg, ↓s_cond, ↓s_block, ↓s_cons, s_nil, s_loop, s_round, s_lpn, s_lpe, firstReg, s_val, s_rgx, s_sqn, s_sqe, s_cdb, s_bkn, s_bke, s_exit, s_ret', s_skip', s_finr, s_fin1, s_fix, s_clean, o_tmp, o_int, o_nil, l_hit, l_miss, ol_nil, ol_cons, ol_some, x_move, x_assign, x_bin, bn_s, x_callB, x_conv, cvx, convA, frame0, binA, intOp, resL, resA, results1, AV.pure, AV.pureL, keepT, x_buildSlice, bsx, newK, genOf, setK, lookK, fillA, writeL, writeC, conts, appendA, copyA, builtinA, AV.cells, gcH, reach, keysT, keepK, inKs, AV.keys, AV.keysL, Ty.isAgg, w_u8, w_i64, sc_int, sl_row, sealRow, sealY, nat_1, q1, q2, q3, a1, a2, q4, q5, q7, q8, w1, w2, w3, w4, q6, q9, o0, o1, o2, w_i64]
theorem grp4 (v : Int) (h0 : 2097152 ≤ v) (h1 : v < 268435456) : Con E 20 103 [.int .i64 v] (.sl false [.int .u8 (TG.oct v 3), .int .u8 (TG.oct v 2), .int .u8 (TG.oct v 1), .int .u8 (TG.oct v 0)] none) := by
  refine con_of E_fn103 rfl (Nat.le_of_ble_eq_true rfl) rfl rfl (g := []) ?_
  rw [body_103, c103]
  have q1 : v.tmod 128 = v % 128 := Int.tmod_eq_emod_of_nonneg (by omega)
  have q2 : v.tdiv 128 = v / 128 := Int.tdiv_eq_ediv_of_nonneg (by omega)
  have q3 : v % 128 % 256 = v % 128 := by omega
  have a1 : 0 < v / 128 := by omega
  have q4 : (v / 128).tmod 128 = v / 128 % 128 := Int.tmod_eq_emod_of_nonneg (by omega)
  have q5 : (v / 128).tdiv 128 = v / 16384 := by rw [Int.tdiv_eq_ediv_of_nonneg (by omega)]; omega
  have a2 : 0 < v / 16384 := by omega
  have q7 : (v / 16384).tmod 128 = v / 16384 % 128 := Int.tmod_eq_emod_of_nonneg (by omega)
  have q8 : (v / 16384).tdiv 128 = v / 2097152 := by rw [Int.tdiv_eq_ediv_of_nonneg (by omega)]; omega
  have a3 : 0 < v / 2097152 := by omega
  have q10 : (v / 2097152).tmod 128 = v / 2097152 := by rw [Int.tmod_eq_emod_of_nonneg (by omega)]; omega
  have q11 : (v / 2097152).tdiv 128 = 0 := by rw [Int.tdiv_eq_ediv_of_nonneg (by omega)]; omega
  have w1 := w64' (v / 128) (by omega) (by omega)
  have w3 := w64' (v / 16384) (by omega) (by omega)
  have w5 := w64' (v / 2097152) (by omega) (by omega)
  have w2 := w64' (128 + v / 128 % 128) (by omega) (by omega)
  have w4 := w64' (128 + v / 16384 % 128) (by omega) (by omega)
  have w6 := w64' (128 + v / 2097152) (by omega) (by omega)
  have q6 : (128 + v / 128 % 128) % 256 = 128 + v / 128 % 128 := by omega
  have q9 : (128 + v / 16384 % 128) % 256 = 128 + v / 16384 % 128 := by omega
  have q12 : (128 + v / 2097152) % 256 = 128 + v / 2097152 := by omega
  have o0 : TG.oct v 0 = v % 128 := by unfold TG.oct; simp
  have o1 : TG.oct v 1 = 128 + v / 128 % 128 := by unfold TG.oct; simp; omega
  have o2 : TG.oct v 2 = 128 + v / 16384 % 128 := by unfold TG.oct; simp; omega
  have o3 : TG.oct v 3 = 128 + v / 2097152 := by unfold TG.oct; simp; omega
  simp [↓s_seq, ↓s_reg, ↓s_cond, ↓s_block, ↓s_cons, s_nil, s_loop, s_round, s_lpn, s_lpe, firstReg, s_val, s_rgx, s_sqn, s_sqe, s_cdb, s_bkn, s_bke, s_exit, s_ret', s_skip', s_finr, s_fin1, s_fix, s_clean, o_tmp, o_int, o_nil, l_hit, l_miss, ol_nil, ol_cons, ol_some, x_move, x_assign, x_bin, bn_s, x_callB, x_conv, cvx, convA, frame0, binA, intOp, resL, resA, results1, AV.pure, AV.pureL, keepT, x_buildSlice, bsx, newK, genOf, setK, lookK, fillA, writeL, writeC, conts, appendA, copyA, builtinA, AV.cells, gcH, reach, keysT, keepK, inKs, AV.keys, AV.keysL, Ty.isAgg, w_u8, w_i64, sc_int, sl_row, sealRow, sealY, nat_1, q1, q2, q3, a1, a2, a3, q4, q5, q7, q8, q10, q11, w1, w2, w3, w4, w5, w6, q6, q9, q12, o0, o1, o2, o3, w_i64]
theorem groups (v : Int) (h0 : 0 ≤ v) (h1 : v < 268435456) : ∃ c, Con E 20 103 [.int .i64 v] (.sl false (bs (TG.grp v)) c) := by
  unfold TG.grp TG.top
  by_cases a : v < 128
  · rw [if_pos a]; exact ⟨_, grp1 v h0 a⟩
  rw [if_neg a]
  by_cases b : v < 16384
  · rw [if_pos b]; exact ⟨_, grp2 v (by omega) b⟩
  rw [if_neg b]
  by_cases c : v < 2097152
  · rw [if_pos c]; exact ⟨_, grp3 v (by omega) c⟩
  rw [if_neg c]; exact ⟨_, grp4 v (by omega) h1⟩
theorem rtag_lo (c : Int) (k : Bool) (n : Int) (c0 : 0 ≤ c) (c3 : c ≤ 3) (n0 : 0 ≤ n) (n1 : n < 31) : ∀ q, 20 ≤ q → aRun E q 76 [.agg [.int .u8 c, .bool k, .int .u32 n]] [] = some (.ret (.ref (1, 21, 0) 0 1 (some 1)), [((1, 21, 0), ⟨bs (TG.tagO c k n), true, true, true, 1, false⟩)]) := by
  intro q hq
  obtain ⟨K, rfl⟩ : ∃ K, q = K + 1 := ⟨q - 1, by omega⟩
  rw [aRun_fn rfl E_fn76 rfl (Nat.le_of_ble_eq_true rfl), body_76, c76]
  have w1 := w64' c (by omega) (by omega)
  have w2 := w64' (64 * c) (by omega) (by omega)
  have w3 := w64' (64 * c + 32) (by omega) (by omega)
  have w4 := w64' n (by omega) (by omega)
  have w5 := w64' (64 * c + n) (by omega) (by omega)
  have w6 := w64' (64 * c + 32 + n) (by omega) (by omega)
  have m1 : (64 * c + n) % 256 = 64 * c + n := by omega
  have m2 : (64 * c + 32 + n) % 256 = 64 * c + 32 + n := by omega
  unfold TG.tagO
  rw [if_pos n1]
  cases k <;> simp [↓s_seq, ↓s_reg, ↓s_cond, ↓s_cons, s_nil, s_val, s_rgx, s_sqn, s_sqr, s_cdb, s_ret', s_skip', s_finr, s_fin1, s_clean, o_tmp, o_int, o_nil, l_hit, l_miss, ol_nil, ol_cons, ol_some, x_move, x_assign, x_bin, bn_s, x_conv, cvx, convA, frame0, binA, intOp, resL, resA, results1, keepT, x_box, bxx, x_buildSlice, bsx, x_load, ldx, x_fieldAddr, newK, genOf, setK, lookK, fillA, writeL, readC, conts, TyI.mk1, fieldAddrA, AV.cells, gcH, reach, keysT, keepK, inKs, AV.keys, AV.keysL, Ty.isAgg, w_u8, sc_int, sc_bool, bs_cons, bs_nil, n1, w1, w2, w3, w4, w5, w6, m1, m2]
theorem rtag_hi (c : Int) (k : Bool) (n : Int) (c0 : 0 ≤ c) (c3 : c ≤ 3) (n0 : 31 ≤ n) (n1 : n < 268435456) : ∀ q, 40 ≤ q → aRun E q 76 [.agg [.int .u8 c, .bool k, .int .u32 n]] [] = some (.ret (.ref (1, 30, 0) 0 (TG.tagO c k n).length none), [((1, 30, 0), ⟨bs (TG.tagO c k n), true, true, false, 1, false⟩)]) := by
  intro q hq
  obtain ⟨K, rfl⟩ : ∃ K, q = K + 1 := ⟨q - 1, by omega⟩
  rw [aRun_fn rfl E_fn76 rfl (Nat.le_of_ble_eq_true rfl), body_76, c76]
  have w1 := w64' c (by omega) (by omega)
  have w2 := w64' (64 * c) (by omega) (by omega)
  have w3 := w64' (64 * c + 32) (by omega) (by omega)
  have w4 := w64' n (by omega) (by omega)
  have w5 := w64' (64 * c + 31) (by omega) (by omega)
  have w6 := w64' (64 * c + 32 + 31) (by omega) (by omega)
  have m1 : (64 * c + 31) % 256 = 64 * c + 31 := by omega
  have m2 : (64 * c + 32 + 31) % 256 = 64 * c + 32 + 31 := by omega
  have h31 : ¬ n < 31 := by omega
  obtain ⟨gc, hg⟩ := groups n (by omega) n1
  have hg' := hg K (by omega) 0
  unfold TG.tagO
  rw [if_neg h31]
  have gl : 1 ≤ (TG.grp n).length ∧ (TG.grp n).length ≤ 4 := by unfold TG.grp; split <;> simp
  have g1 : TG.grp n ≠ [] := by intro e; rw [e] at gl; simp at gl
  have cp : (TG.grp n).length + 1 ≤ 70368744177664 := by omega
  cases k <;> simp [↓s_seq, ↓s_reg, ↓s_cond, ↓s_cons, s_nil, s_val, s_cax, s_ret, s_rgx, s_sqn, s_cdb, s_ret', s_skip', s_finr, s_fin1, s_clean, o_tmp, o_int, o_nil, l_hit, l_miss, ol_nil, ol_cons, ol_some, x_move, x_assign, x_bin, bn_s, x_callF, cl_no, x_callB, x_conv, cvx, convA, frame0, binA, intOp, resL, resA, results1, sealLW, AV.pure, AV.pureL, keepT, x_box, bxx, x_buildSlice, bsx, x_load, ldx, x_fieldAddr, newK, genOf, setK, lookK, fillA, writeL, writeC, readC, conts, TyI.mk1, fieldAddrA, appendA, copyA, builtinA, AV.cells, gcH, reach, keysT, keepK, inKs, AV.keys, AV.keysL, Ty.isAgg, w_u8, sc_int, sc_bool, sc_mem, bs_kl, bs_length, bs_cells, sl_int, nat_1, bs_cons, s_site, s_stxN, h31, w1, w2, w3, w4, w5, w6, m1, m2, hg', g1, cp]
end E15

end
section
/- The reference's Put at the evaluator. No conditions. -/
open Ab Go TabE Sp
set_option maxRecDepth 20000
set_option linter.unusedSimpArgs false
set_option linter.unusedVariables false
set_option maxHeartbeats 8000000
namespace E16
theorem op_give {run : RunF} {slot : Nat} {g : FuncId} {cs : List AV} {kk : Key} {len : Nat} {cap : Option Nat} {o : AObj} {h : Heap} (hk : kk.1 ≠ 0) (hp : AV.pureL cs = true) (k1 : AV.keysL o.cells = []) (r1 : ∀ φ, AV.rnL φ o.cells = o.cells) (hg : genOf h 1 slot = 0)
    (hr : run g [.agg cs] [] = some (.ret (.ref kk 0 len cap), [(kk, o)])) :
    opened [false] false run slot g [.agg cs] h = some (.ret (.ref (1, slot, 0) 0 len cap), setK h (1, slot, 0) o) := by
  have e1 : sealM (sealA 20) [false] h [.agg cs] = some ([.agg cs], h) := by simp [sealM, sl_agg, hp]
  have kc : AV.keysL cs = [] := AV.keysL_pure _ hp
  have rc : ∀ φ, AV.rnL φ cs = cs := fun φ => rnL_pure cs hp
  unfold opened
  rw [e1]
  have e2 : AV.keysL [.agg cs] = [] := by simp [AV.keysL, AV.keys, kc]
  have e7 : ∀ h : Heap, dd (reach h 3 []) = [] := fun h => rfl
  simp only [e2, e7]
  unfold lendA
  have e3 : AV.rnL (inK []) [.agg cs] = [.agg cs] := by simp [AV.rnL, AV.rn, rc]
  simp only [lendH, closedH, e2, List.all_nil, and_self, if_true, e3, hr]
  have e4 : AV.keysL [AV.ref kk 0 len cap] = [kk] := rfl
  have e5 : dd (reach [(kk, o)] 3 ([] ++ [kk])) = [kk] := by simp [reach, lookK, k1, dd]
  have e6 : lentKs 0 = [] := rfl
  simp only [backR, Bool.false_eq_true, if_false, backV, back, List.length_nil, e4, e6, e5, backA]
  have e8 : closedH [(kk, o)] [kk] [kk] = true := by simp [closedH, lookK, k1]
  have e9 : ([kk] : List Key).all (okK 0) = true := by simp [okK, hk]
  rw [if_pos ⟨e8, e9, by simp [inKs], by simp⟩]
  have e10 : ([kk] : List Key).filter (fun k => !decide (k.1 = 0)) = [kk] := by simp [hk]
  have e11 : outK [] [kk] slot (genOf h 1 slot) kk = (1, slot, 0) := by unfold outK; rw [if_neg hk]; simp [posK, hg]
  simp only [e10, AV.rnL, AV.rn, e11, putAll, lookK, if_true, r1]
def b35 : Code := lp c35 0
abbrev S (e : El) (i : Nat) (key : Key) (cap : Option Nat) (ex : Bool) (ys : List Int) : St := ⟨[(1, .ptr (1, 1, 0) 0), (3, .ref key 0 ys.length cap), (4, .int .i64 (i : Int))], [((1, 1, 0), bx (ec e)), (key, ⟨bs ys, true, true, ex, 1, false⟩)]⟩
theorem first (q k1 : Nat) (e x : El) (i : Nat) (xs : List Int) (c : Option Nat) (hx : e.s[i]? = some x) (le : e.s.length ≤ 9223372036854775807) (n0 : xs ≠ []) (n1 : xs.length ≤ 2000000) (B : ∀ h, aCall E q 0 35 [x.av] h = some (.ret (.sl false (bs xs) c), h)) :
    rndO fn35 b35 q k1 (S e i (1, 5, 0) (some 0) true []) = some (.normal, S e (i + 1) (1, 23, 0) none false xs) := by
  have hi : i < e.s.length := (List.getElem?_eq_some_iff.1 hx).1
  have ix := El.at_ e.fs e.cs e.s i x hx
  have w := w64' ((i : Int) + 1) (by omega) (by omega)
  have cp : xs.length ≤ 70368744177664 := by omega
  rw [El.av_eq] at B
  simp [b35, lp, lps, c35, ↓s_seq, ↓s_reg, ↓s_cond, ↓s_block, ↓s_cons, s_nil, firstReg, s_val, s_cax, s_ret, s_rgx, s_sqn, s_cdb, s_bkn, s_skip', s_clean, o_tmp, o_int, l_hit, l_miss, ol_nil, ol_cons, ol_some, x_move, x_assign, x_bin, bn_s, x_callF, cl_no, x_callB, binA, intOp, sealLW, AV.pure, AV.pureL, keepT, x_load, ldx, x_fieldAddr, x_indexAddr, iax, newK, genOf, setK, lookK, writeL, writeC, readC, conts, TyI.mk1, fieldAddrA, appendA, copyA, builtinA, AV.cells, gcH, reach, keysT, keepK, inKs, AV.keys, AV.keysL, Ty.isAgg, sc_mem, bs_kl, bs_length, bs_cells, sl_agg, bs_nil, s_site, s_stxN, El.avs_len, ix, w, hi, B, n0, cp]
theorem next (q k1 : Nat) (e x : El) (i m : Nat) (xs ys : List Int) (c : Option Nat) (hx : e.s[i]? = some x) (le : e.s.length ≤ 9223372036854775807) (n1 : ys.length + xs.length ≤ 2000000) (B : ∀ h, aCall E q 0 35 [x.av] h = some (.ret (.sl false (bs xs) c), h)) :
    rndO fn35 b35 q k1 (S e i (1, 23, m) none false ys) = some (.normal, S e (i + 1) (1, 23, m + 1) none false (ys ++ xs)) := by
  have hi : i < e.s.length := (List.getElem?_eq_some_iff.1 hx).1
  have ix := El.at_ e.fs e.cs e.s i x hx
  have w := w64' ((i : Int) + 1) (by omega) (by omega)
  have cp : ys.length + xs.length ≤ 70368744177664 := by omega
  have kk : AV.keysL (bs ys ++ bs xs) = [] := by rw [← bs_append]; exact bs_kl _
  rw [El.av_eq] at B
  simp [b35, lp, lps, c35, ↓s_seq, ↓s_reg, ↓s_cond, ↓s_block, ↓s_cons, s_nil, firstReg, s_val, s_cax, s_ret, s_rgx, s_sqn, s_cdb, s_bkn, s_skip', s_clean, o_tmp, o_int, l_hit, l_miss, ol_nil, ol_cons, ol_some, x_move, x_assign, x_bin, bn_s, x_callF, cl_no, x_callB, binA, intOp, sealLW, AV.pure, AV.pureL, keepT, x_load, ldx, x_fieldAddr, x_indexAddr, iax, newK, genOf, setK, lookK, writeL, writeC, readC, conts, TyI.mk1, fieldAddrA, appendA, copyA, builtinA, AV.cells, gcH, reach, keysT, keepK, inKs, AV.keys, AV.keysL, Ty.isAgg, sc_mem, bs_kl, bs_length, bs_cells, sl_agg, s_site, s_stxN, El.avs_len, ix, w, hi, B, cp, bs_append, kk]
theorem last (q k1 : Nat) (e : El) (key : Key) (cap : Option Nat) (ex : Bool) (ys : List Int) (hkey : key = (1, 5, 0) ∨ key = (1, 8, 0) ∨ ∃ m, key = (1, 23, m)) : rndO fn35 b35 q k1 (S e e.s.length key cap ex ys) = some (.exit 0, ⟨[(1, .ptr (1, 1, 0) 0), (3, .ref key 0 ys.length cap), (4, .int .i64 (e.s.length : Int)), (13, .bool false)], [((1, 1, 0), bx (ec e)), (key, ⟨bs ys, true, true, ex, 1, false⟩)]⟩) := by
  rcases hkey with rfl | rfl | ⟨m, rfl⟩ <;> simp [b35, lp, lps, c35, ↓s_seq, ↓s_reg, ↓s_cond, ↓s_cons, s_nil, firstReg, s_val, s_rgx, s_sqn, s_sqe, s_cdb, s_exit, s_clean, o_tmp, l_hit, l_miss, ol_nil, ol_cons, ol_some, x_move, x_bin, bn_s, x_callB, binA, intOp, keepT, x_load, ldx, x_fieldAddr, newK, genOf, setK, lookK, writeL, writeC, readC, conts, TyI.mk1, fieldAddrA, appendA, copyA, builtinA, AV.cells, gcH, reach, keysT, keepK, inKs, AV.keys, AV.keysL, Ty.isAgg, bs_kl, El.avs_len]
end E16

end
