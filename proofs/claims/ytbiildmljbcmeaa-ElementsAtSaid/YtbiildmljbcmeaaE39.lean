/- Own work, no conditions. -/
import Derived.Test.YtbiildmljbcmeaaE31
import Derived.Test.YtbiildmljbcmeaaP5
import Derived.Test.YtbiildmljbcmeaaB40
import Derived.KernelRfl
section
/- elements.copied at the evaluator. No conditions. -/
open Ab Go TabE Sp E31
set_option maxRecDepth 20000
set_option linter.unusedSimpArgs false
set_option linter.unusedVariables false
set_option maxHeartbeats 8000000
namespace E32
theorem fl_set (r : List El) (i : Nat) (y : El) (h : i < r.length) : El.fl (r.set i y) = El.fl (r.take i) ++ .int .u8 y.c :: .bool y.k :: .int .u32 y.n :: .sl y.fb (bs y.b) y.cb :: .sl y.fs (El.avs y.s) y.cs :: El.fl (r.drop (i + 1)) := by
  rw [List.set_eq_take_append_cons_drop, if_pos h, El.fl_app]
  rfl
abbrev z0 : El := .mk 0 false 0 true [] (some 0) true [] (some 0)
theorem fl_rep : ∀ n, (List.replicate n [AV.int .u8 0, .bool false, .int .u32 0, .sl true [] (some 0), .sl true [] (some 0)]).flatten = El.fl (List.replicate n z0)
  | 0 => rfl
  | n + 1 => by rw [List.replicate_succ, List.replicate_succ, List.flatten_cons, fl_rep n]; rfl
theorem sealX_fl (n : Nat) (h : Heap) (key : Key) (st : List El) (cap : Option Nat) (mt ex : Bool) (hk : lookK h key = some ⟨El.fl st, true, mt, ex, 5, true⟩) : sealX (n + 2) h (.ref key 0 st.length cap) = some (.sl false (El.avs st) cap, setK h key ⟨El.fl st, true, false, ex, 5, true⟩) := by
  unfold sealX sealA
  have hp : (AV.ref key 0 st.length cap).pure = false := rfl
  have f3 : (El.fl st).take (st.length * 5) = El.fl st := by rw [El.fl_take, List.take_length]
  simp only [hp, Bool.false_eq_true, if_false, hk]
  rw [if_pos ⟨trivial, by rw [El.fl_len]; omega, by simp⟩]
  simp only [List.drop_zero, f3]
  rw [sealL_of_pure n _ _ (El.fl_pure st)]
  simp only [El.fl_chunk]
def row (e : El) (i : Nat) : List El := (e.s.map cp).take i ++ List.replicate (e.s.length - i) z0
theorem row_len (e : El) (i : Nat) (h : i ≤ e.s.length) : (row e i).length = e.s.length := by unfold row; simp; omega
theorem row_next (e x : El) (i : Nat) (hx : e.s[i]? = some x) : (row e i).set i (cp x) = row e (i + 1) := by
  have hi : i < e.s.length := (List.getElem?_eq_some_iff.1 hx).1
  apply List.ext_getElem?
  intro j
  have hm : (e.s.map cp)[i]? = some (cp x) := by rw [List.getElem?_map, hx]; rfl
  rw [List.getElem?_set, row_len e i (by omega)]
  unfold row
  by_cases hj : i = j
  · subst hj
    rw [if_pos rfl, if_pos hi, List.getElem?_append_left (by simp; omega), List.getElem?_take_of_lt (by omega), hm]
  · rw [if_neg hj]
    by_cases hl : j < i
    · rw [List.getElem?_append_left (by simp; omega), List.getElem?_append_left (by simp; omega), List.getElem?_take_of_lt hl, List.getElem?_take_of_lt (by omega)]
    · rw [List.getElem?_append_right (by simp; omega), List.getElem?_append_right (by simp; omega)]
      simp only [List.length_take, List.length_map, List.getElem?_replicate]
      have a : min i e.s.length = i := by omega
      have b : min (i + 1) e.s.length = i + 1 := by omega
      rw [a, b]
      by_cases hq : j < e.s.length
      · rw [if_pos (by omega), if_pos (by omega)]
      · rw [if_neg (by omega), if_neg (by omega)]
def b74 : Code := lp c74 0
abbrev S (e : El) (r : List El) (i : Nat) : St := ⟨[(2, .ptr (1, 2, 0) 0), (3, .ptr (1, 3, 0) 0), (23, .sl e.fs (El.avs e.s) e.cs), (24, .int .i64 (e.s.length : Int)), (25, .int .i64 (i : Int))], [((1, 2, 0), bx [.int .u8 0, .bool false, .int .u32 0, .sl true [] (some 0), .sl true [] (some 0)]), ((1, 3, 0), bx [.int .u8 e.c, .bool e.k, .int .u32 e.n, .sl e.fb (bs e.b) (some e.b.length), .ref (1, 20, 0) 0 e.s.length (some e.s.length)]), ((1, 20, 0), ⟨El.fl r, true, true, true, 5, true⟩)]⟩
theorem row_at (i n : Nat) (hi : i < n) (hn : n ≤ 1000000) : ∀ h o, lookK h (1, 20, 0) = some o → o.live = true → o.esz = 5 → n * 5 ≤ o.cells.length → indexAddrA E 28 (.ref (1, 20, 0) 0 n (some n)) (.int .i64 (i : Int)) h = some (.ptr (1, 20, 0) (i * 5)) := by
  intro h o h1 h2 h3 h4
  have a : i * 5 + 5 ≤ n * 5 := by omega
  simp [indexAddrA, hi]
theorem go (q k1 : Nat) (e x : El) (r : List El) (i : Nat) (hx : e.s[i]? = some x) (hr : r.length = e.s.length) (le : e.s.length ≤ 1000000) (B : ∀ h, aCall E q 0 74 [x.av] h = some (.ret (cp x).av, h)) :
    rnd fn74 b74 q k1 (S e r i) = some (.normal, S e (r.set i (cp x)) (i + 1)) := by
  have hi : i < e.s.length := (List.getElem?_eq_some_iff.1 hx).1
  have ix := fun hp => El.at_ e.fs e.cs e.s i x hx hp
  have w := w64' ((i : Int) + 1) (by omega) (by omega)
  have ir := row_at i e.s.length hi (by omega)
  rw [El.av_eq, El.av_eq] at B
  have f1 := El.fl_len r
  have f2 : (El.fl r).take (i * 5) = El.fl (r.take i) := El.fl_take i r
  have f3 : (El.fl r).drop (i * 5 + 5) = El.fl (r.drop (i + 1)) := by rw [← El.fl_drop]; congr 1; omega
  have g1 : i * 5 + 5 ≤ e.s.length * 5 := by omega
  have f4 := El.fl_keys r
  have f5 := El.fl_keys (r.take i)
  have f6 := El.fl_keys (r.drop (i + 1))
  have fs := fl_set r i (cp x) (by omega)
  simp [b74, lp, lps, c74, ↓s_seq, ↓s_reg, ↓s_regd, ↓s_cond, ↓s_block, ↓s_cons, s_nil, firstReg, s_val, s_skip, s_callP, s_ret, s_rgx, s_sqn, s_cdb, s_bkn, s_skip', s_clean, o_tmp, o_int, l_hit, l_miss, ol_nil, ol_cons, ol_some, x_move, x_assign, x_bin, bn_s, x_callF, cl_no, binA, intOp, AV.pure, AV.pureL, keepT, x_alloc, x_load, ldx, x_store, stx, x_fieldAddr, x_indexAddr, iax, newK, genOf, setK, lookK, writeL, writeC, readC, TyI.mk1, fieldAddrA, AV.cells, gcH, reach, keysT, keepK, inKs, AV.keys, AV.keysL, Ty.isAgg, sc_int, sc_bool, sc_sl, ix, ir, fs, w, hi, B, f1, f2, f3, f4, f6, g1, hr, El.fl_keysr]
end E32

end
section
/- elements.copied at the evaluator: what it answers. No conditions. -/
open Ab Go TabE Sp E31 E32
set_option maxRecDepth 20000
set_option linter.unusedSimpArgs false
set_option linter.unusedVariables false
set_option maxHeartbeats 8000000
namespace E33
theorem last (q k1 : Nat) (e : El) (r : List El) : rnd fn74 b74 q k1 (S e r e.s.length) = some (.exit 0, ⟨[(2, .ptr (1, 2, 0) 0), (3, .ptr (1, 3, 0) 0), (23, .sl e.fs (El.avs e.s) e.cs), (24, .int .i64 (e.s.length : Int)), (25, .int .i64 (e.s.length : Int)), (26, .bool false)], [((1, 2, 0), bx [.int .u8 0, .bool false, .int .u32 0, .sl true [] (some 0), .sl true [] (some 0)]), ((1, 3, 0), bx [.int .u8 e.c, .bool e.k, .int .u32 e.n, .sl e.fb (bs e.b) (some e.b.length), .ref (1, 20, 0) 0 e.s.length (some e.s.length)]), ((1, 20, 0), ⟨El.fl r, true, true, true, 5, true⟩)]⟩) := by
  have f4 := El.fl_keys r
  simp [b74, lp, lps, c74, ↓s_seq, ↓s_reg, ↓s_cond, ↓s_cons, s_nil, firstReg, s_val, s_rgx, s_sqn, s_sqe, s_cdb, s_exit, s_clean, o_tmp, l_hit, l_miss, x_bin, bn_s, binA, intOp, keepT, lookK, gcH, reach, keysT, keepK, inKs, AV.keys, AV.keysL, f4]
inductive Sh : El → Prop
  | mk (e : El) : e.b.length ≤ 1000000 → e.s.length ≤ 1000000 → (∀ x ∈ e.s, Sh x) → Sh e
theorem copy : ∀ e : El, Nn e → Sh e → ∃ N, Con E N 74 [e.av] (cp e).av := by
  refine El.ind fun e ih hn hs => ?_
  obtain ⟨_, n1, n2, n3⟩ := hn
  obtain ⟨_, s1, s2, s3⟩ := hs
  obtain ⟨N, hN⟩ := unif (P := fun (x : El) (n : Nat) => Con E n 74 [x.av] (cp x).av) (fun x n m h hm => h.mono hm) e.s (fun x hx => ih x hx (n3 x hx) (s3 x hx))
  obtain ⟨c, hc, C⟩ := clone e.fb e.b e.cb n1 (by omega)
  have P := clip e.fb e.b c hc
  obtain ⟨K, hK⟩ : ∃ K, N + e.s.length + 60 = K := ⟨_, rfl⟩
  have C' := C K (by omega) 0
  have P' := P K (by omega) 0
  refine ⟨K + 1, con_of E_fn74 (by simp [AV.pureL, El.av_pure]) (Nat.le_of_ble_eq_true rfl) rfl rfl (g := []) ?_⟩
  rw [body_74, c74]
  have lv := El.avs_len e.s
  by_cases h0 : e.s.length = 0
  · have es : e.s = [] := List.length_eq_zero_iff.1 h0
    have t : (cp e).av = .agg [.int .u8 e.c, .bool e.k, .int .u32 e.n, .sl e.fb (bs e.b) (some e.b.length), .sl true [] (some 0)] := by rw [cp_eq, El.av, es]; rfl
    rw [t]
    obtain ⟨k, hk⟩ : ∃ k, K = k + 1 := ⟨K - 1, by omega⟩
    have L : aLoop (aCode E (aCall E K) (dcall (aRun E K)) K 1 fn74 b74) (cleanS 1 ((firstReg b74).bind fn74.head)) K ⟨[(2, .ptr (1, 2, 0) 0), (3, .ptr (1, 3, 0) 0), (23, .sl e.fs [] e.cs), (24, .int .i64 0), (25, .int .i64 0)], [((1, 2, 0), bx [.int .u8 0, .bool false, .int .u32 0, .sl true [] (some 0), .sl true [] (some 0)]), ((1, 3, 0), bx [.int .u8 e.c, .bool e.k, .int .u32 e.n, .sl e.fb (bs e.b) (some e.b.length), .sl true [] (some 0)])]⟩ = some (.exit 0, ⟨[(2, .ptr (1, 2, 0) 0), (3, .ptr (1, 3, 0) 0), (23, .sl e.fs [] e.cs), (24, .int .i64 0), (25, .int .i64 0), (26, .bool false)], [((1, 2, 0), bx [.int .u8 0, .bool false, .int .u32 0, .sl true [] (some 0), .sl true [] (some 0)]), ((1, 3, 0), bx [.int .u8 e.c, .bool e.k, .int .u32 e.n, .sl e.fb (bs e.b) (some e.b.length), .sl true [] (some 0)])]⟩) := by
      rw [hk]
      refine aLoop_end ?_ (by simp)
      simp [b74, lp, lps, c74, ↓s_seq, ↓s_reg, ↓s_cond, ↓s_cons, s_nil, firstReg, s_val, s_rgx, s_sqn, s_sqe, s_cdb, s_exit, s_clean, o_tmp, l_hit, l_miss, x_bin, bn_s, binA, intOp, keepT, lookK, gcH, reach, keysT, keepK, inKs, AV.keys, AV.keysL]
    simp [b74, lp, lps, c74, firstReg, bx] at L
    simp [El.av_eq, El.avs, ↓s_seq, ↓s_reg, ↓s_regd, ↓s_cond, ↓s_block, ↓s_cons, s_nil, s_loop, firstReg, s_val, s_skip, s_callP, s_ret, s_rgx, s_sqn, s_cdb, s_bke, s_ret', s_skip', s_finr, s_fin1, s_fix, s_clean, o_tmp, o_int, l_hit, l_miss, ol_nil, ol_cons, ol_some, x_move, x_bin, bn_s, x_callF, cl_no, x_callB, frame0, binA, intOp, resL, resA, results1, AV.pure, AV.pureL, keepT, x_alloc, x_box, bxx, x_build, bdx, x_load, ldx, x_store, stx, x_fieldAddr, newK, genOf, setK, lookK, fillA, writeL, writeC, readC, conts, TyI.mk1, fieldAddrA, appendA, copyA, builtinA, AV.cells, gcH, reach, keysT, keepK, inKs, AV.keys, AV.keysL, Ty.isAgg, sc_int, sc_bool, sc_sl, sl_agg, L, es, C', P']
  · have es : e.s ≠ [] := fun h => h0 (by rw [h]; rfl)
    have rl : row e e.s.length = e.s.map cp := by unfold row; rw [Nat.sub_self, List.take_of_length_le (by simp)]; simp
    have r0 : row e 0 = List.replicate e.s.length z0 := by unfold row; simp
    have t : (cp e).av = .agg [.int .u8 e.c, .bool e.k, .int .u32 e.n, .sl e.fb (bs e.b) (some e.b.length), .sl false (El.avs (e.s.map cp)) (some e.s.length)] := by rw [cp_eq, El.av]; simp [es]
    rw [t]
    have L := loopQ (fn := fn74) (b := b74) (K := K) (k := K) (fun i => S e (row e i) i) e.s.length rfl (fun i hi => by
      obtain ⟨x, hx⟩ : ∃ x, e.s[i]? = some x := ⟨e.s[i], by simp⟩
      have := go K K e x (row e i) i hx (row_len e i (by omega)) s2 fun h => hN x (List.mem_of_getElem? hx) K (by omega) 0 h
      rwa [row_next e x i hx] at this) (last K K e _) (by simp) (by omega)
    rw [rl, r0] at L
    have sx := fun n h key => sealX_fl n h key (e.s.map cp) (some e.s.length) true true
    rw [List.length_map] at sx
    have f1 := El.fl_len (e.s.map cp)
    have f2 := El.fl_keys (e.s.map cp)
    have f3 := El.fl_keys (List.replicate e.s.length z0)
    have cp56 : (e.s.length : Int) * 56 ≤ 70368744177664 := by omega
    have h1 : 0 < e.s.length := by omega
    have h2 : (0 : Int) < e.s.length := by omega
    simp [b74, lp, lps, c74, firstReg, S, bx] at L
    simp [El.av_eq, ↓s_seq, ↓s_reg, ↓s_regd, ↓s_cond, ↓s_block, ↓s_cons, s_nil, s_loop, firstReg, s_val, s_skip, s_callP, s_ret, s_rgx, s_sqn, s_cdb, s_bke, s_ret', s_finr, s_fin1, s_fix, s_clean, o_tmp, o_int, l_hit, l_miss, ol_nil, ol_cons, ol_some, x_move, x_bin, bn_s, x_callF, cl_no, x_callB, frame0, binA, intOp, resL, resA, results1, sealLW, AV.pure, AV.pureL, keepT, x_alloc, x_box, bxx, x_build, bdx, x_load, ldx, x_store, stx, x_fieldAddr, x_makeSlice, msx, newK, genOf, setK, lookK, fillA, writeL, writeC, readC, conts, TyI.mk1, fieldAddrA, appendA, copyA, builtinA, AV.cells, gcH, reach, keysT, keepK, inKs, AV.keys, AV.keysL, Ty.isAgg, sc_int, sc_bool, sc_sl, sc_ref, sl_row, sealRow, sealY, sl_int, sl_bool, sl_sl, sl_agg, L, h1, lv, C', P', sx, f1, f2, f3, fl_rep, cp56, List.length_map]
end E33

end
section
/- elements.At at the evaluator. No conditions. -/
open Ab Go TabE Sp E31 E32 E33
set_option maxRecDepth 20000
set_option linter.unusedSimpArgs false
set_option linter.unusedVariables false
set_option maxHeartbeats 8000000
namespace E34
abbrev ns (ps : List Int) : List AV := ps.map (AV.int .i64)
theorem int_at (f c) (ps : List Int) (i : Nat) (p : Int) (h : ps[i]? = some p) : ∀ hp, indexAddrA E 47 (.sl f (ns ps) c) (.int .i64 i) hp = some (.pel [.int .i64 p]) := by
  intro hp
  have hi : i < ps.length := (List.getElem?_eq_some_iff.1 h).1
  unfold indexAddrA
  simp only [E_ty47, E_ty3]
  rw [if_pos ⟨by omega, by rw [List.length_map]; omega⟩]
  simp only [Int.toNat_natCast, ns, List.getElem?_map, h, Option.map_some]
  rfl
def walk : El → List Int → Option El
  | e, [] => some e
  | e, p :: r => if p < 0 then none else match e.s[p.toNat]? with
    | some x => walk x r
    | none => none
theorem walk_P {P : El → Prop} (hP : ∀ e, P e → ∀ x ∈ e.s, P x) : ∀ (ps : List Int) (e x : El), P e → walk e ps = some x → P x
  | [], e, x, h, hw => by cases hw; exact h
  | p :: r, e, x, h, hw => by
    unfold walk at hw
    split at hw
    · cases hw
    · split at hw
      · rename_i y hy
        exact walk_P hP r y x (hP e h y (List.mem_of_getElem? hy)) hw
      · cases hw
def b25 : Code := lp c25 0
abbrev S (f : Bool) (ps : List Int) (c : Option Nat) (i : Nat) (x : El) : St := ⟨[(2, .ptr (1, 2, 0) 0), (4, .ptr (1, 4, 0) 0), (15, .sl f (ns ps) c), (16, .int .i64 (ps.length : Int)), (17, .int .i64 (i : Int))], [((1, 2, 0), bx (ec x)), ((1, 4, 0), bx [.int .u8 0, .bool false, .int .u32 0, .sl true [] (some 0), .sl true [] (some 0)])]⟩
abbrev Bad : AExit × St := (.ret, ⟨[(4, .ptr (1, 4, 0) 0), (5, .int .i64 19)], [((1, 4, 0), bx [.int .u8 0, .bool false, .int .u32 0, .sl true [] (some 0), .sl true [] (some 0)])]⟩)
theorem go (q k1 : Nat) (f ps c) (i : Nat) (e x : El) (p : Int) (hp : ps[i]? = some p) (lp' : ps.length ≤ 1000) (p0 : 0 ≤ p) (hx : e.s[p.toNat]? = some x) : rnd fn25 b25 q k1 (S f ps c i e) = some (.normal, S f ps c (i + 1) x) := by
  have hi : i < ps.length := (List.getElem?_eq_some_iff.1 hp).1
  have hl : p.toNat < e.s.length := (List.getElem?_eq_some_iff.1 hx).1
  have ip := int_at f c ps i p hp
  have ix := El.at_ e.fs e.cs e.s p.toNat x hx
  have pp : (p.toNat : Int) = p := Int.toNat_of_nonneg p0
  rw [pp] at ix
  have w := w64' ((i : Int) + 1) (by omega) (by omega)
  have p1 : ¬ p < 0 := by omega
  have p2 : p < (e.s.length : Int) := by omega
  have p3 : ¬ ((e.s.length : Int) ≤ p) := by omega
  have lv := El.avs_len e.s
  simp [b25, lp, lps, c25, ↓s_seq, ↓s_reg, ↓s_cond, ↓s_block, ↓s_cons, ↓s_consG, s_nil, firstReg, s_gt, s_wb, s_val, s_skip, s_rgx, s_sqn, s_cdb, s_bkn, s_skip', s_clean, o_tmp, o_int, l_hit, l_miss, ol_nil, ol_cons, ol_some, x_move, x_assign, x_pick, pk_f, x_bin, bn_s, x_callB, binA, intOp, keepT, x_load, ldx, x_store, stx, x_fieldAddr, x_indexAddr, iax, newK, genOf, setK, lookK, writeL, writeC, readC, conts, TyI.mk1, fieldAddrA, appendA, copyA, builtinA, AV.cells, gcH, reach, keysT, keepK, inKs, AV.keys, AV.keysL, Ty.isAgg, sc_int, sc_bool, sc_sl, ip, ix, w, hi, p1, p3, lv]
theorem bad (q k1 : Nat) (f ps c) (i : Nat) (e : El) (p : Int) (hp : ps[i]? = some p) (lp' : ps.length ≤ 1000) (h : p < 0 ∨ e.s.length ≤ p) : rnd fn25 b25 q k1 (S f ps c i e) = some Bad := by
  have hi : i < ps.length := (List.getElem?_eq_some_iff.1 hp).1
  have ip := int_at f c ps i p hp
  have lv := El.avs_len e.s
  by_cases h0 : p < 0
  · simp [b25, lp, lps, c25, ↓s_seq, ↓s_reg, ↓s_cond, ↓s_block, ↓s_cons, ↓s_consG, s_nil, firstReg, s_gf, s_wb, s_val, s_skip, s_rgx, s_sqn, s_sqr, s_cdb, s_bkr, s_ret', s_skip', s_clean, o_tmp, o_int, o_bool, l_hit, l_miss, ol_nil, ol_cons, ol_some, x_move, x_assign, x_pick, pk_t, x_bin, bn_s, x_callB, binA, intOp, keepT, x_build, bdx, x_load, ldx, x_store, stx, x_fieldAddr, x_indexAddr, iax, newK, genOf, setK, lookK, fillA, writeL, writeC, readC, conts, TyI.mk1, fieldAddrA, appendA, copyA, builtinA, AV.cells, gcH, reach, keysT, keepK, inKs, AV.keys, AV.keysL, Ty.isAgg, sc_int, sc_bool, sc_sl, ip, hi, h0]
  · have p2 : (e.s.length : Int) ≤ p := by omega
    have p3 : ¬ (p < (e.s.length : Int)) := by omega
    simp [b25, lp, lps, c25, ↓s_seq, ↓s_reg, ↓s_cond, ↓s_block, ↓s_cons, ↓s_consG, s_nil, firstReg, s_gt, s_wb, s_val, s_skip, s_rgx, s_sqn, s_sqr, s_cdb, s_bkr, s_ret', s_skip', s_clean, o_tmp, o_int, l_hit, l_miss, ol_nil, ol_cons, ol_some, x_move, x_assign, x_pick, pk_f, x_bin, bn_s, x_callB, binA, intOp, keepT, x_build, bdx, x_load, ldx, x_store, stx, x_fieldAddr, x_indexAddr, iax, newK, genOf, setK, lookK, fillA, writeL, writeC, readC, conts, TyI.mk1, fieldAddrA, appendA, copyA, builtinA, AV.cells, gcH, reach, keysT, keepK, inKs, AV.keys, AV.keysL, Ty.isAgg, sc_int, sc_bool, sc_sl, ip, hi, h0, p2, lv]
theorem last (q k1 : Nat) (f ps c) (e : El) : rnd fn25 b25 q k1 (S f ps c ps.length e) = some (.exit 0, ⟨[(2, .ptr (1, 2, 0) 0), (4, .ptr (1, 4, 0) 0), (15, .sl f (ns ps) c), (16, .int .i64 (ps.length : Int)), (17, .int .i64 (ps.length : Int)), (18, .bool false)], [((1, 2, 0), bx (ec e)), ((1, 4, 0), bx [.int .u8 0, .bool false, .int .u32 0, .sl true [] (some 0), .sl true [] (some 0)])]⟩) := by
  simp [b25, lp, lps, c25, ↓s_seq, ↓s_reg, ↓s_cond, ↓s_cons, s_nil, firstReg, s_val, s_rgx, s_sqn, s_sqe, s_cdb, s_exit, s_clean, o_tmp, l_hit, l_miss, x_bin, bn_s, binA, intOp, keepT, lookK, gcH, reach, keysT, keepK, inKs, AV.keys, AV.keysL]
end E34

end
section
/- elements.At at the evaluator: what it answers. No conditions. -/
open Ab Go TabE Sp E31 E33 E34
set_option maxRecDepth 20000
set_option linter.unusedSimpArgs false
set_option linter.unusedVariables false
set_option maxHeartbeats 8000000
namespace E35
def nx (e : El) (p : Int) : El ⊕ (AExit × St) := if p < 0 then .inr Bad else match e.s[p.toNat]? with
  | some x => .inl x
  | none => .inr Bad
abbrev fin (f : Bool) (ps : List Int) (c : Option Nat) (e : El) : AExit × St := (.exit 0, ⟨[(2, .ptr (1, 2, 0) 0), (4, .ptr (1, 4, 0) 0), (15, .sl f (ns ps) c), (16, .int .i64 (ps.length : Int)), (17, .int .i64 (ps.length : Int)), (18, .bool false)], [((1, 2, 0), bx (ec e)), ((1, 4, 0), bx [.int .u8 0, .bool false, .int .u32 0, .sl true [] (some 0), .sl true [] (some 0)])]⟩)
theorem run_walk (f ps c) : ∀ (r : List Int) (e : El), runL E35.nx (fin f ps c) r e = (match E34.walk e r with
    | some x => fin f ps c x
    | none => Bad)
  | [], e => rfl
  | p :: r, e => by
    unfold runL E34.walk E35.nx
    by_cases h : p < 0
    · rw [if_pos h, if_pos h]
    · rw [if_neg h, if_neg h]
      cases hx : e.s[p.toNat]? with
      | none => rfl
      | some x => exact run_walk f ps c r x
theorem at_ok (e : El) (he : e.ok) (hc : (chk e.core 1 0 0).1 = 0) (hn : Nn e) (hs : Sh e) (f : Bool) (ps : List Int) (c : Option Nat) (lp' : ps.length ≤ 1000) : ∃ N, Con E N 25 [e.av, .sl f (ns ps) c] (match E34.walk e ps with
    | some x => .tup [(cp x).av, .int .i64 0]
    | none => .tup [.agg [.int .u8 0, .bool false, .int .u32 0, .sl true [] (some 0), .sl true [] (some 0)], .int .i64 19]) := by
  obtain ⟨N1, C1⟩ := E10.check e he
  rw [hc] at C1
  have key : ∃ N, ∀ x, E34.walk e ps = some x → Con E N 74 [x.av] (cp x).av := by
    cases hw : E34.walk e ps with
    | none => exact ⟨0, fun x h => by cases h⟩
    | some x =>
      have px : Nn x ∧ Sh x := walk_P (P := fun e => Nn e ∧ Sh e) (fun e h y hy => by
        obtain ⟨h1, h2⟩ := h
        cases h1 with | mk _ _ _ a => cases h2 with | mk _ _ _ b => exact ⟨a y hy, b y hy⟩) ps e x ⟨hn, hs⟩ hw
      obtain ⟨N, h⟩ := copy x px.1 px.2
      exact ⟨N, fun y hy => by cases hy; exact h⟩
  obtain ⟨N2, C2⟩ := key
  obtain ⟨K, hK⟩ : ∃ K, N1 + N2 + ps.length + 60 = K := ⟨_, rfl⟩
  have w1 := C1 K (by omega) 0
  rw [El.av_eq] at w1
  have L := loopL (f := aCode E (aCall E K) (dcall (aRun E K)) K 1 fn25 b25) (cl := cleanS 1 ((firstReg b25).bind fn25.head)) ps (fun i e => S f ps c i e) E35.nx (fin f ps c) (fun _ => True) (fun i p e hp _ => by
    refine ⟨fun x hx => ?_, fun r hr => ?_⟩
    · unfold E35.nx at hx
      by_cases h : p < 0
      · rw [if_pos h] at hx; cases hx
      · rw [if_neg h] at hx
        cases hq : e.s[p.toNat]? with
        | none => rw [hq] at hx; cases hx
        | some y =>
          rw [hq] at hx
          obtain rfl : y = x := by cases hx; rfl
          exact ⟨E34.go K K f ps c i e y p hp lp' (by omega) hq, trivial⟩
    · unfold E35.nx at hr
      by_cases h : p < 0
      · rw [if_pos h] at hr; cases hr; exact ⟨bad K K f ps c i e p hp lp' (.inl h), by simp⟩
      · rw [if_neg h] at hr
        cases hq : e.s[p.toNat]? with
        | none =>
          rw [hq] at hr; cases hr
          have := List.getElem?_eq_none_iff.1 hq
          exact ⟨bad K K f ps c i e p hp lp' (.inr (by omega)), by simp⟩
        | some y => rw [hq] at hr; cases hr) (fun e _ => ⟨last K K f ps c e, by simp⟩) ps 0 e K rfl (by omega) trivial (by omega)
  rw [run_walk] at L
  refine ⟨K + 1, con_of E_fn25 (by simp [AV.pureL, El.av_pure, AV.pure]) (Nat.le_of_ble_eq_true rfl) rfl rfl (g := []) ?_⟩
  rw [body_25, c25]
  cases hw : E34.walk e ps with
  | none =>
    rw [hw] at L
    simp [b25, lp, lps, c25, firstReg, S, bx, ec] at L
    simp [El.av_eq, ↓s_seq, ↓s_reg, ↓s_cond, ↓s_block, ↓s_cons, s_nil, s_loop, firstReg, s_val, s_calls, s_cax, s_ret, s_rgx, s_sqn, s_sqr, s_cdb, s_bkr, s_skip', s_finr, s_fin1, s_fix, s_clean, o_tmp, o_int, l_hit, l_miss, ol_nil, ol_cons, ol_some, x_move, x_assign, x_bin, bn_s, x_callF, cl_no, x_callB, frame0, binA, intOp, resL, resA, results1, sealLW, AV.pure, AV.pureL, keepT, x_alloc, x_box, bxx, x_load, ldx, newK, genOf, setK, lookK, writeL, writeC, readC, conts, TyI.mk1, appendA, copyA, builtinA, AV.cells, gcH, reach, keysT, keepK, inKs, AV.keys, AV.keysL, Ty.isAgg, sc_int, sc_bool, sc_sl, sl_agg, sl_tup, L, w1]
  | some x =>
    rw [hw] at L
    have w2 := C2 x hw K (by omega) 0
    rw [El.av_eq, El.av_eq] at w2
    show _ = some (ARes.ret (.tup [(cp x).av, .int .i64 0]), _)
    rw [El.av_eq (cp x)]
    simp [b25, lp, lps, c25, firstReg, S, bx, ec, fin] at L
    simp [El.av_eq, ↓s_seq, ↓s_reg, ↓s_cond, ↓s_block, ↓s_cons, s_nil, s_loop, firstReg, s_val, s_skip, s_calls, s_cax, s_ret, s_rgx, s_sqn, s_cdb, s_bke, s_ret', s_skip', s_finr, s_fin1, s_fix, s_clean, o_tmp, o_int, l_hit, l_miss, ol_nil, ol_cons, ol_some, x_move, x_assign, x_bin, bn_s, x_callF, cl_no, x_callB, frame0, binA, intOp, resL, resA, results1, sealLW, AV.pure, AV.pureL, keepT, x_alloc, x_box, bxx, x_load, ldx, x_store, stx, newK, genOf, setK, lookK, writeL, writeC, readC, conts, TyI.mk1, appendA, copyA, builtinA, AV.cells, gcH, reach, keysT, keepK, inKs, AV.keys, AV.keysL, Ty.isAgg, sc_int, sc_bool, sc_sl, sl_agg, sl_tup, L, w1, w2]
end E35

end
section
/- Elements below elements, in plain Lean. No conditions. -/
open Ab Go TabE Sp E18 E20 E22 E23 E26 E31 E33
set_option linter.unusedVariables false
set_option linter.unusedSimpArgs false
namespace E36
theorem cnts_mem {x : El} : ∀ {l : List El}, x ∈ l → cnt x.core ≤ cnts (El.cores l)
  | y :: r, h => by
    rw [El.cores, cnts]
    have := cnt_pos y.core
    have := cnts_pos (El.cores r)
    rcases List.mem_cons.1 h with rfl | h
    · omega
    · have := cnts_mem h; omega
theorem good_sub (e : El) (h : Good e) : ∀ x ∈ e.s, Good x := fun x hx => by
  have d := E12.deps_mem hx
  have c := cnts_mem hx
  have h1 := h.dep
  have h2 := h.cnt
  rw [dep_eq] at h1
  rw [cnt_eq] at h2
  have f := h.fw
  cases f with
  | mk _ _ f2 => exact ⟨h.ok.sub x hx, vlds_all.1 ((vld_eq e).1 h.vld).2.2.2 x hx, by omega, f2 x hx, by omega⟩
theorem good_sh : ∀ e : El, Good e → Sh e := by
  refine El.ind fun e ih h => ?_
  have f := h.fw
  have h2 := h.cnt
  rw [cnt_eq] at h2
  have := cnts_len e.s
  cases f with
  | mk _ f1 _ => exact .mk e (by omega) (by omega) fun x hx => ih x hx (good_sub e h x hx)
theorem leaf_nn (g : G) : Nn (leaf g) := .mk _ (fun h => by simp [leaf, El.fb, El.b] at h ⊢; exact h) (fun _ => rfl) fun x hx => by cases hx
theorem nd_nn (g : G) (d : List El) (h : ∀ x ∈ d, Nn x) : Nn (nd g d) := .mk _ (fun _ => rfl) (fun q => by simpa [El.fs, El.s] using q) h
theorem sq_nn (l : List G) : ∀ i, ∀ x ∈ sq l i, Nn x
  | 0 => fun x h => by simp [sq] at h
  | i + 1 => by
    have ih := sq_nn l i
    unfold sq
    cases hg : l[i]? with
    | none => exact ih
    | some g =>
      intro x hx
      simp only [] at hx
      unfold E26.nx at hx
      split at hx
      · rcases List.mem_append.1 hx with h | h
        · exact ih x h
        · obtain rfl := List.mem_singleton.1 h
          exact leaf_nn g
      split at hx
      · rcases List.mem_append.1 hx with h | h
        · exact ih x (List.mem_of_mem_take h)
        · obtain rfl := List.mem_singleton.1 h
          exact nd_nn g _ fun y hy => ih y (List.mem_of_mem_drop hy)
      · exact ih x hx
theorem of_nn (l : List G) : Nn (ofE l) := by
  have h := sq_nn l (min 39 l.length)
  unfold ofE
  generalize sq l (min 39 l.length) = st at h
  unfold top
  split
  · rename_i x
    exact h x (by simp)
  · exact .mk _ (fun _ => rfl) (fun q => by simpa [El.fs, El.s] using q) h
mutual
theorem many_cnt : ∀ (c : Cr) (m : Int), 1 ≤ m → cnt c ≤ m → many c m = cnt c
  | .mk _ _ _ _ s, m, h0, h => by
    unfold cnt at h
    have := cnts_pos s
    unfold many cnt
    rw [if_neg (by omega)]
    exact manys_cnt s m 1 (by omega) h
theorem manys_cnt : ∀ (s : List Cr) (m n : Int), 1 ≤ n → n + cnts s ≤ m → manys s m n = n + cnts s
  | [], m, n, _, _ => by unfold manys cnts; omega
  | x :: r, m, n, h0, h => by
    unfold cnts at h
    have := cnts_pos r
    have := cnt_pos x
    unfold manys cnts
    rw [if_pos (by omega), many_cnt x (m - n) (by omega) (by omega), manys_cnt r m _ (by omega) (by omega)]
    omega
end
theorem meas_ok (e : El) (h : Good e) : (E5.meas e).2.1 = cnt e.core ∧ (E5.meas e).2.2 = dep e.core := by
  have hw := h.chk
  have cd := chk_dep e.core 1 0 0 hw
  have dp := dep_pos e.core
  unfold E5.meas
  rw [if_pos hw]
  exact ⟨by rw [cd.2.1]; omega, by rw [cd.1]; omega⟩
end E36

end
section
/- The examples of the chapters, at the evaluator. No conditions. -/
open Ab Go TabE
set_option maxRecDepth 100000
namespace LV
theorem l04 : Con E 200 18 [] (.bool true) := by
  obtain ⟨g, h⟩ := isT_some (show isT (aCall E 200 0 18 [] []) = true by kernel_rfl)
  exact .of (g := g) rfl h
end LV

end
section
/- The law ElementsCheck at the evaluator: true at every element. No conditions. -/
open Ab Go TabE Sp E13 E18
set_option maxRecDepth 20000
set_option linter.unusedSimpArgs false
set_option linter.unusedVariables false
set_option maxHeartbeats 8000000
namespace E18
def z : El := .mk 0 false 0 true [] (some 0) true [] (some 0)
def ex : El := .mk 0 true 16 true [] (some 0) false [.mk 0 false 2 false [7] (some 1) true [] (some 0), .mk 0 false 5 true [] (some 0) true [] (some 0)] (some 2)
theorem ex_con : Con E 20 41 [] ex.av := .of (g := []) rfl (by kernel_rfl)
theorem z_ok : z.ok := by simp [z, El.ok, El.oks, isB]
theorem ex_ok : ex.ok := by simp [ex, El.ok, El.oks, isB]
theorem ex_sm : ex.sm := by simp [ex, El.sm, El.sms]
theorem ex_chk : (chk ex.core 1 0 0).1 = 0 := by decide +kernel
theorem ex_enc : enc ex.core = [48, 5, 2, 1, 7, 5, 0] := by decide +kernel
theorem z_av : z.av = .agg [.int .u8 0, .bool false, .int .u32 0, .sl true [] (some 0), .sl true [] (some 0)] := rfl
theorem at_bad (e : El) (he : e.ok) (f c) (h : (chk e.core 1 0 0).1 ≠ 0) (ps : List AV) (hp : AV.pureL ps = true) : ∃ N, Con E N 25 [e.av, .sl f ps c] (.tup [z.av, .int .i64 (chk e.core 1 0 0).1]) := by
  obtain ⟨N, C⟩ := E10.check e he
  have C' := C (N + 10) (by omega) 0
  rw [El.av_eq] at C'
  refine ⟨N + 10 + 1, con_of E_fn25 (by simp [AV.pureL, El.av_pure, AV.pure]) (Nat.le_of_ble_eq_true rfl) rfl rfl (g := []) ?_⟩
  rw [body_25, c25, z_av]
  simp [El.av_eq, ↓s_seq, ↓s_reg, ↓s_cond, ↓s_cons, s_nil, s_val, s_skip, s_calls, s_cax, s_ret, s_rgx, s_sqn, s_sqr, s_cdb, s_ret', s_finr, s_fin1, s_fix, s_clean, o_tmp, o_int, l_hit, l_miss, ol_nil, ol_cons, ol_some, x_move, x_assign, x_bin, bn_s, x_callF, cl_no, frame0, binA, intOp, resL, resA, results1, sealLW, AV.pure, AV.pureL, keepT, x_alloc, x_box, bxx, x_build, bdx, x_load, ldx, x_store, stx, newK, genOf, setK, lookK, fillA, writeL, writeC, readC, TyI.mk1, AV.cells, gcH, reach, keysT, keepK, inKs, AV.keys, AV.keysL, Ty.isAgg, sc_int, sc_bool, sc_sl, sl_agg, sl_tup, i_bne, C', h]
theorem isB_app {a b : List Int} (ha : isB a) (hb : isB b) : isB (a ++ b) := fun x h => (List.mem_append.1 h).elim (ha x) (hb x)
theorem oct_B (v : Int) (k : Nat) : 0 ≤ TG.oct v k ∧ TG.oct v k < 256 := by
  unfold TG.oct
  generalize v / 2 ^ (7 * k) = w
  split <;> omega
theorem grp_B (v : Int) : isB (TG.grp v) := by
  unfold TG.grp
  split <;> intro x hx <;> simp at hx <;> (rcases hx with rfl | rfl | rfl | rfl) <;> exact oct_B _ _
theorem tagO_B (c k n) (hc : 0 ≤ c) (hc3 : c ≤ 3) (hn : 0 ≤ n) : isB (TG.tagO c k n) := by
  unfold TG.tagO
  split
  · intro x hx; simp at hx; subst hx; cases k <;> simp <;> omega
  · rw [isB_cons]; exact ⟨by cases k <;> simp <;> omega, grp_B n⟩
theorem lenO_B (n : Int) (h0 : 0 ≤ n) (h1 : n ≤ 16777215) : isB (lenO n) := by
  unfold lenO
  split
  · intro x hx; simp at hx; omega
  split
  · intro x hx; simp at hx; omega
  split
  · intro x hx; simp at hx; omega
  · intro x hx; simp at hx; omega
theorem encs_B : ∀ l : List El, (∀ x ∈ l, isB (enc x.core)) → isB (encs (El.cores l))
  | [], _ => isB_nil
  | x :: r, h => by
    rw [El.cores, encs]
    exact isB_app (h x (List.mem_cons_self ..)) (encs_B r fun y hy => h y (List.mem_cons_of_mem _ hy))
theorem encs_mem {x : El} : ∀ {l : List El}, x ∈ l → (enc x.core).length ≤ (encs (El.cores l)).length
  | y :: r, h => by
    rw [El.cores, encs, List.length_append]
    rcases List.mem_cons.1 h with rfl | h
    · omega
    · have := encs_mem h; omega
theorem enc_B : ∀ e : El, e.ok → vld e.core → (enc e.core).length ≤ 16777215 → isB (enc e.core) := by
  refine El.ind fun e ih he hv hl => ?_
  have v := (vld_eq e).1 hv
  have hs := encs_B e.s fun x hx => ih x hx (he.sub x hx) (vlds_all.1 v.2.2.2 x hx) (by
    have := encs_mem hx
    rw [enc_eq] at hl
    simp only [List.length_append] at hl
    omega)
  have t : e.c ≤ 3 := by
    have := v.1
    unfold tagE at this
    by_cases q : 3 < e.c ∨ 268435455 < e.n
    · rw [if_pos q] at this; cases this
    · omega
  rw [enc_eq] at hl ⊢
  simp only [List.length_append] at hl
  exact isB_app (tagO_B _ _ _ he.cb.1 t he.nb.1) (isB_app (lenO_B _ (by omega) (by simp only [List.length_append]; omega)) (isB_app he.bb hs))
theorem cmpI_refl : ∀ l : List Int, cmpI l l = 0
  | [] => rfl
  | a :: r => by rw [cmpI, if_pos rfl]; exact cmpI_refl r
theorem law (e : El) (he : e.ok) : ∃ N, Con E N 9 [e.av] (.bool true) := by
  obtain ⟨N0, r, B, hr⟩ := bounded e he
  rcases hr with rfl | ⟨rfl, hb⟩
  · have B' := B (N0 + 300) (by omega) 0
    rw [El.av_eq] at B'
    have l := LV.l04 (N0 + 300) (by omega) 0
    refine ⟨N0 + 300 + 1, con_of E_fn9 (by simp [AV.pureL, El.av_pure]) (Nat.le_of_ble_eq_true rfl) rfl rfl (g := []) ?_⟩
    rw [body_9, c9]
    simp [El.av_eq, ↓s_seq, ↓s_reg, ↓s_cond, ↓s_cons, s_nil, s_val, s_calls, s_cax, s_ret, s_rgx, s_sqn, s_sqr, s_cdb, s_ret', s_finr, s_fin1, s_fix, s_clean, o_tmp, o_int, o_bool, l_hit, l_miss, ol_nil, ol_cons, ol_some, x_assign, x_bin, bn_s, x_callF, cl_no, frame0, binA, intOp, resL, resA, results1, sealLW, AV.pure, AV.pureL, keepT, x_box, bxx, x_load, ldx, newK, genOf, setK, lookK, readC, TyI.mk1, AV.cells, gcH, reach, keysT, keepK, inKs, AV.keys, AV.keysL, Ty.isAgg, sc_int, sc_bool, sc_sl, sl_bool, sl_agg, B', l]
  have hcnt : cnt e.core ≤ 60 := by
    obtain ⟨_, _, _, hm⟩ := hb
    rw [cnt_many e.core 60 (by omega) hm]; exact hm
  have hf := fw_bd e hb
  have hs := fw_sm (by omega) e hf (by omega)
  have hl := fw_len e hf
  have hl2 : (enc e.core).length ≤ 1048576 := by omega
  obtain ⟨N1, C1⟩ := E11.check e he
  obtain ⟨N2, C2⟩ := E10.check e he
  obtain ⟨N3, C3⟩ := E10.count e he
  obtain ⟨N4, C4⟩ := E10.depth e he
  by_cases hw : (chk e.core 1 0 0).1 = 0
  · have hv := vld_of _ _ _ _ hw
    have cd := chk_dep e.core 1 0 0 hw
    have dp := dep_pos e.core
    have dc := dep_cnt e.core
    have rc1 : E11.rc e.core 1 0 = (0, cnt e.core) := by
      unfold E11.rc
      rw [if_pos hw, hw, cd.2.1, Int.zero_add]
    have m1 : (E5.meas e).2.1 = cnt e.core ∧ (E5.meas e).2.2 = dep e.core := by
      unfold E5.meas; rw [if_pos hw]; exact ⟨by rw [cd.2.1]; omega, by rw [cd.1]; omega⟩
    obtain ⟨N5, C5⟩ := E10.put_ok e he hs hw hl2
    obtain ⟨N6, v, C6, hv6⟩ := E14.same_ok e e he he hw hw
    obtain rfl := hv6.2 rfl
    obtain ⟨N7, C7⟩ := E17.rput e he hv (by omega)
    obtain ⟨N8, C8⟩ := E10.size_ok e he hs hw
    rw [if_pos hl2] at C8
    obtain ⟨N9, C9⟩ := E12.depth e he (by omega)
    obtain ⟨K, hK⟩ : ∃ K, N0 + N1 + N2 + N3 + N4 + N5 + N6 + N7 + N8 + N9 + 300 = K := ⟨_, rfl⟩
    have w0 := B K (by omega) 0
    have w1 := C1 K (by omega) 1 0 (by omega) (by omega) (by omega) (by omega)
    rw [rc1] at w1
    have w2 := C2 K (by omega) 0
    rw [hw] at w2
    have w3 := C3 K (by omega) 0
    rw [m1.1] at w3
    have w4 := C4 K (by omega) 0
    rw [m1.2] at w4
    have w5 := C5 K (by omega) 0
    have w6 := C6 K (by omega) 0
    have w7 := C7 K (by omega) 0
    have w8 := C8 K (by omega) 0
    have w9 := C9 K (by omega) 0
    have l := LV.l04 K (by omega) 0
    rw [El.av_eq] at w0 w1 w2 w3 w4 w5 w6 w7 w8 w9
    have eb : isB (enc e.core) := enc_B e he hv (by omega)
    have gb := bs_go eb
    refine ⟨K + 1, con_of E_fn9 (by simp [AV.pureL, El.av_pure]) (Nat.le_of_ble_eq_true rfl) rfl rfl (g := []) ?_⟩
    rw [body_9, c9]
    simp [El.av_eq, ↓s_seq, ↓s_reg, ↓s_regd, ↓s_cond, ↓s_cons, ↓s_consG, s_nil, s_gt, s_wb, s_val, s_calls, s_callP, s_cax, s_ret, s_rgx, s_sqn, s_sqr, s_cdb, s_ret', s_skip', s_finr, s_fin1, s_fix, s_clean, o_tmp, o_int, o_bool, l_hit, l_miss, ol_nil, ol_cons, ol_some, x_move, x_assign, x_pick, pk_t, pk_f, x_bin, bn_s, x_extract, x_callF, cl_no, x_callB, x_conv, cvx, convA, frame0, binA, intOp, resL, resA, results1, sealLW, AV.pure, AV.pureL, keepT, x_box, bxx, x_load, ldx, newK, genOf, setK, lookK, writeL, writeC, readC, conts, TyI.mk1, appendA, copyA, builtinA, AV.cells, gcH, reach, keysT, keepK, inKs, AV.keys, AV.keysL, Ty.isAgg, sc_int, sc_bool, sc_sl, bs_length, bs_cells, sl_int, sl_bool, sl_agg, i_beq, w0, w1, w2, w3, w4, w5, w6, w7, w8, w9, l, gb]
  · have m1 : (E5.meas e).2.1 = 0 ∧ (E5.meas e).2.2 = 0 := by unfold E5.meas; rw [if_neg hw]; exact ⟨rfl, rfl⟩
    have rc1 : E11.rc e.core 1 0 = ((chk e.core 1 0 0).1, 0) := by unfold E11.rc; rw [if_neg hw]
    obtain ⟨N5, C5⟩ := E10.put_bad e he hw
    obtain ⟨N6, C6⟩ := E14.same_bad e e he hw
    obtain ⟨N7, C7⟩ := at_bad e he true (some 0) hw [] rfl
    obtain ⟨N8, C8⟩ := E10.size_bad e he hw
    obtain ⟨N9, C9⟩ := E1.same z z z_ok rfl
    obtain ⟨N10, C10⟩ := E10.put_ok ex ex_ok ex_sm ex_chk (by rw [ex_enc]; decide)
    have C11 := E14.compare e ex _ _ _ _ [] _ isB_nil (by rw [ex_enc]; simp [isB]) (N5 + N10) _ _ (C5.mono (by omega)) (C10.mono (by omega))
    have C12 := E14.compare e e _ _ _ _ [] [] isB_nil isB_nil (N5 + N10) _ _ (C5.mono (by omega)) (C5.mono (by omega))
    obtain ⟨w, hw'⟩ : ∃ w, (chk e.core 1 0 0).1 = w := ⟨_, rfl⟩
    rw [hw'] at hw rc1
    obtain ⟨K, hK⟩ : ∃ K, N0 + N1 + N2 + N3 + N4 + N5 + N6 + N7 + N8 + N9 + N10 + 300 = K := ⟨_, rfl⟩
    have w0 := B K (by omega) 0
    have w1 := C1 K (by omega) 1 0 (by omega) (by omega) (by omega) (by omega)
    rw [rc1] at w1
    have w2 := C2 K (by omega) 0
    rw [hw'] at w2
    have w3 := C3 K (by omega) 0
    rw [m1.1] at w3
    have w4 := C4 K (by omega) 0
    rw [m1.2] at w4
    have w5 := C5 K (by omega) 0
    rw [hw'] at w5
    have w6 := C6 K (by omega) 0
    have w7 := C7 K (by omega) 0
    rw [hw'] at w7
    have w8 := C8 K (by omega) 0
    have w9 := C9 K (by omega) 0
    have w10 := ex_con K (by omega) 0
    have w11 := C11 K (by omega) 0
    have w12 := C12 K (by omega) 0
    rw [ex_enc] at w11
    rw [cmpI_refl] at w12
    have w13 : cmpI [] [48, 5, 2, 1, 7, 5, 0] = -1 := rfl
    rw [w13] at w11
    have l := LV.l04 K (by omega) 0
    have xa : ∃ cs, ex.av = .agg cs ∧ AV.pureL cs = true := ⟨_, rfl, rfl⟩
    obtain ⟨xs, xa, xp⟩ := xa
    rw [xa] at w10 w11
    rw [z_av] at w7 w9
    rw [El.av_eq] at w0 w1 w2 w3 w4 w5 w6 w7 w8 w11 w12
    refine ⟨K + 1, con_of E_fn9 (by simp [AV.pureL, El.av_pure]) (Nat.le_of_ble_eq_true rfl) rfl rfl (g := []) ?_⟩
    rw [body_9, c9]
    simp [El.av_eq, ↓s_seq, ↓s_reg, ↓s_regd, ↓s_cond, ↓s_cons, ↓s_consG, s_nil, s_gt, s_wb, s_val, s_skip, s_calls, s_callP, s_cax, s_ret, s_rgx, s_sqn, s_cdb, s_ret', s_skip', s_finr, s_fin1, s_fix, s_clean, o_tmp, o_int, o_bool, o_nil, l_hit, l_miss, ol_nil, ol_cons, ol_some, x_move, x_assign, x_pick, pk_t, pk_f, x_bin, bn_s, x_extract, x_callF, cl_no, x_callB, frame0, binA, intOp, resL, resA, results1, sealLW, AV.pure, AV.pureL, keepT, x_alloc, x_box, bxx, x_build, bdx, x_load, ldx, x_store, stx, newK, genOf, setK, lookK, fillA, writeL, writeC, readC, conts, TyI.mk1, appendA, copyA, builtinA, AV.cells, gcH, reach, keysT, keepK, inKs, AV.keys, AV.keysL, Ty.isAgg, sc_int, sc_bool, sc_sl, sl_int, sl_bool, sl_sl, sl_agg, i_beq, w0, w1, w2, w3, w4, w5, w6, w7, w8, w9, w10, w11, w12, l, hw, xp]
end E18

end
section
/- The law ElementsAt at the evaluator: its loops. No conditions. -/
open Ab Go TabE Sp E18 E22 E26 E31 E33 E34
set_option maxRecDepth 20000
set_option linter.unusedSimpArgs false
set_option linter.unusedVariables false
set_option maxHeartbeats 8000000
namespace E37
def b5 : Code := lp c5 0
abbrev Zc : List AV := [.int .u8 0, .bool false, .int .u32 0, .sl true [] (some 0), .sl true [] (some 0)]
abbrev S1 (f : Bool) (ps : List Int) (c : Option Nat) (cs : List AV) (r : Int) (i : Nat) (x : El) : St := ⟨[(1, .sl f (ns ps) c), (6, .ptr (1, 6, 0) 0), (7, .int .i64 r), (8, .ptr (1, 8, 0) 0), (9, .int .i64 (i : Int))], [((1, 6, 0), bx cs), ((1, 8, 0), bx (ec x))]⟩
theorem go (q k1 : Nat) (f ps c cs r) (i : Nat) (e x : El) (p : Int) (hk : AV.keysL cs = []) (hp : ps[i]? = some p) (lp' : ps.length ≤ 1000) (p0 : 0 ≤ p) (hx : e.s[p.toNat]? = some x) : rnd fn5 b5 q k1 (S1 f ps c cs r i e) = some (.normal, S1 f ps c cs r (i + 1) x) := by
  have hi : i < ps.length := (List.getElem?_eq_some_iff.1 hp).1
  have hl : p.toNat < e.s.length := (List.getElem?_eq_some_iff.1 hx).1
  have ip := int_at f c ps i p hp
  have ix := El.at_ e.fs e.cs e.s p.toNat x hx
  have pp : (p.toNat : Int) = p := Int.toNat_of_nonneg p0
  rw [pp] at ix
  have w := w64' ((i : Int) + 1) (by omega) (by omega)
  have p1 : ¬ p < 0 := by omega
  have p2 : p < (e.s.length : Int) := by omega
  have p3 : ¬ ((e.s.length : Int) ≤ p) := by omega
  have lv := El.avs_len e.s
  simp [b5, lp, lps, c5, ↓s_seq, ↓s_reg, ↓s_regd, ↓s_cond, ↓s_block, ↓s_cons, ↓s_consG, s_nil, firstReg, s_gt, s_wb, s_val, s_skip, s_rgx, s_sqn, s_cdb, s_bkn, s_skip', s_clean, o_tmp, o_int, l_hit, l_miss, ol_nil, ol_cons, ol_some, x_move, x_assign, x_pick, pk_f, x_bin, bn_s, x_callB, binA, intOp, keepT, x_load, ldx, x_store, stx, x_fieldAddr, x_indexAddr, iax, newK, genOf, setK, lookK, writeL, writeC, readC, conts, TyI.mk1, fieldAddrA, appendA, copyA, builtinA, AV.cells, gcH, reach, keysT, keepK, inKs, AV.keys, AV.keysL, Ty.isAgg, sc_int, sc_bool, sc_sl, ip, ix, w, hi, p1, p3, lv, hk]
theorem bad (q k1 : Nat) (f ps c) (i : Nat) (e : El) (p : Int) (hp : ps[i]? = some p) (lp' : ps.length ≤ 1000) (h : p < 0 ∨ e.s.length ≤ p)
    (B : ∀ h, aCall E q 0 24 [.agg Zc, .agg Zc] h = some (.ret (.bool true), h)) (V : ∀ h, aCall E q 0 18 [] h = some (.ret (.bool true), h)) :
    rnd fn5 b5 q k1 (S1 f ps c Zc 19 i e) = some (.ret, ⟨[(4, .bool true)], []⟩) := by
  have hi : i < ps.length := (List.getElem?_eq_some_iff.1 hp).1
  have ip := int_at f c ps i p hp
  have lv := El.avs_len e.s
  by_cases h0 : p < 0
  · simp [b5, lp, lps, c5, ↓s_seq, ↓s_reg, ↓s_regd, ↓s_cond, ↓s_block, ↓s_cons, ↓s_consG, s_nil, firstReg, s_gt, s_gf, s_wb, s_val, s_calls, s_cax, s_ret, s_rgx, s_sqn, s_sqr, s_cdb, s_bkr, s_ret', s_skip', s_clean, o_tmp, o_int, o_bool, l_hit, l_miss, ol_nil, ol_cons, ol_some, x_move, x_assign, x_pick, pk_t, x_bin, bn_s, x_callF, cl_no, x_callB, binA, intOp, sealLW, AV.pure, AV.pureL, keepT, x_build, bdx, x_load, ldx, x_fieldAddr, x_indexAddr, iax, newK, genOf, setK, lookK, fillA, writeL, writeC, readC, conts, TyI.mk1, indexAddrA, fieldAddrA, appendA, copyA, builtinA, AV.cells, gcH, reach, keysT, keepK, inKs, AV.keys, AV.keysL, Ty.isAgg, sl_agg, -indexAddrA, ip, hi, h0, B, V]
  · have p2 : (e.s.length : Int) ≤ p := by omega
    have p3 : ¬ (p < (e.s.length : Int)) := by omega
    simp [b5, lp, lps, c5, ↓s_seq, ↓s_reg, ↓s_regd, ↓s_cond, ↓s_block, ↓s_cons, ↓s_consG, s_nil, firstReg, s_gt, s_wb, s_val, s_calls, s_cax, s_ret, s_rgx, s_sqn, s_sqr, s_cdb, s_bkr, s_ret', s_skip', s_clean, o_tmp, o_int, l_hit, l_miss, ol_nil, ol_cons, ol_some, x_move, x_assign, x_pick, pk_t, pk_f, x_bin, bn_s, x_callF, cl_no, x_callB, binA, intOp, sealLW, AV.pure, AV.pureL, keepT, x_build, bdx, x_load, ldx, x_fieldAddr, x_indexAddr, iax, newK, genOf, setK, lookK, fillA, writeL, writeC, readC, conts, TyI.mk1, fieldAddrA, appendA, copyA, builtinA, AV.cells, gcH, reach, keysT, keepK, inKs, AV.keys, AV.keysL, Ty.isAgg, sl_agg, ip, hi, h0, p2, lv, B, V]
theorem last (q k1 : Nat) (f ps c cs r) (e : El) (hk : AV.keysL cs = []) : rnd fn5 b5 q k1 (S1 f ps c cs r ps.length e) = some (.exit 0, ⟨[(1, .sl f (ns ps) c), (6, .ptr (1, 6, 0) 0), (7, .int .i64 r), (8, .ptr (1, 8, 0) 0), (9, .int .i64 (ps.length : Int)), (31, .bool false)], [((1, 6, 0), bx cs), ((1, 8, 0), bx (ec e))]⟩) := by
  simp [b5, lp, lps, c5, ↓s_seq, ↓s_reg, ↓s_cond, ↓s_cons, s_nil, firstReg, s_val, s_rgx, s_sqn, s_sqe, s_cdb, s_exit, s_clean, o_tmp, l_hit, l_miss, ol_nil, ol_cons, ol_some, x_move, x_bin, bn_s, x_callB, binA, intOp, keepT, newK, genOf, setK, lookK, writeL, writeC, conts, appendA, copyA, builtinA, AV.cells, gcH, reach, keysT, keepK, inKs, AV.keys, AV.keysL, Ty.isAgg, hk]
def b6 : Code := lp c5 1
abbrev S2 (x : El) (i : Nat) (a b c : Int) : St := ⟨[(8, .ptr (1, 8, 0) 0), (10, .int .i64 a), (11, .int .i64 b), (12, .int .i64 c), (13, .int .i64 (i : Int))], [((1, 8, 0), bx (ec x))]⟩
theorem go2 (q k1 : Nat) (e x : El) (i : Nat) (a b c n m d : Int) (hx : e.s[i]? = some x) (le : e.s.length ≤ 1000) (a0 : 0 ≤ a ∧ a ≤ 100000) (b0 : 0 ≤ b ∧ b ≤ 100000) (n0 : 0 ≤ n ∧ n ≤ 100000) (m0 : 0 ≤ m ∧ m ≤ 100000)
    (A : ∀ h, aCall E q 0 28 [x.av] h = some (.ret (.int .i64 n), h)) (B : ∀ h, aCall E q 0 29 [x.av] h = some (.ret (.int .i64 m), h)) (C : ∀ h, aCall E q 0 30 [x.av] h = some (.ret (.int .i64 d), h)) :
    rnd fn5 b6 q k1 (S2 e i a b c) = some (.normal, S2 e (i + 1) (a + n) (b + m) (if c < d then d else c)) := by
  have hi : i < e.s.length := (List.getElem?_eq_some_iff.1 hx).1
  have ix := El.at_ e.fs e.cs e.s i x hx
  have w := w64' ((i : Int) + 1) (by omega) (by omega)
  have w1 := w64' (a + n) (by omega) (by omega)
  have w2 := w64' (b + m) (by omega) (by omega)
  have lv := El.avs_len e.s
  rw [El.av_eq] at A B C
  simp [b6, lp, lps, c5, ↓s_seq, ↓s_reg, ↓s_cond, ↓s_block, ↓s_cons, s_nil, firstReg, s_val, s_calls, s_cax, s_ret, s_rgx, s_sqn, s_cdb, s_bkn, s_skip', s_clean, o_tmp, o_int, l_hit, l_miss, ol_nil, ol_cons, ol_some, x_move, x_assign, x_bin, bn_s, x_callF, cl_no, x_callB, binA, intOp, sealLW, AV.pure, AV.pureL, keepT, x_load, ldx, x_fieldAddr, x_indexAddr, iax, newK, genOf, setK, lookK, writeL, writeC, readC, conts, TyI.mk1, fieldAddrA, appendA, copyA, builtinA, AV.cells, gcH, reach, keysT, keepK, inKs, AV.keys, AV.keysL, Ty.isAgg, sl_agg, ix, w, w1, w2, hi, lv, A, B, C]
theorem last2 (q k1 : Nat) (e : El) (a b c : Int) : rnd fn5 b6 q k1 (S2 e e.s.length a b c) = some (.exit 2, ⟨[(8, .ptr (1, 8, 0) 0), (10, .int .i64 a), (11, .int .i64 b), (12, .int .i64 c), (13, .int .i64 (e.s.length : Int)), (92, .bool false)], [((1, 8, 0), bx (ec e))]⟩) := by
  have lv := El.avs_len e.s
  simp [b6, lp, lps, c5, ↓s_seq, ↓s_reg, ↓s_cond, ↓s_cons, s_nil, firstReg, s_val, s_rgx, s_sqn, s_sqe, s_cdb, s_exit, s_clean, o_tmp, l_hit, l_miss, ol_nil, ol_cons, ol_some, x_move, x_bin, bn_s, x_callB, binA, intOp, keepT, x_load, ldx, x_fieldAddr, newK, genOf, setK, lookK, writeL, writeC, readC, conts, TyI.mk1, fieldAddrA, appendA, copyA, builtinA, AV.cells, gcH, reach, keysT, keepK, inKs, AV.keys, AV.keysL, Ty.isAgg, lv]
end E37

end
section
/- E.Of at the evaluator: what it answers. No conditions. -/
open Ab Go TabE Sp E18 E20 E22 E23 E26
set_option maxRecDepth 20000
set_option linter.unusedSimpArgs false
set_option linter.unusedVariables false
set_option maxHeartbeats 8000000
namespace E27
theorem lastS (q0 k1 : Nat) (f q) (l : List G) (key : Key) (st : List El) (hkey : ∃ m, key = (1, 49, m) ∨ key = (1, 92, m)) (i : Nat) (hi : i = min 39 l.length) :
    rndO fn22 b22 q0 k1 (S f (l.map G.av) q key st i) = some (.exit 0, ⟨[(1, .ptr (1, 1, 0) 0), (2, .ptr (1, 2, 0) 0), (3, .ref key 0 st.length none), (4, .int .i64 (i : Int)), (17, .bool false)], [((1, 1, 0), bx [.sl f (l.map G.av) q]), ((1, 2, 0), bx Z), (key, ⟨El.fl st, true, true, false, 5, true⟩)]⟩) := by
  by_cases h : i < l.length
  · have i39 : i = 39 := by omega
    subst i39
    have h' : (39 : Int) < l.length := by omega
    obtain ⟨m, rfl | rfl⟩ := hkey <;> simp [b22, lp, lps, c22, ↓s_seq, ↓s_reg, ↓s_cond, ↓s_cons, ↓s_consG, s_nil, firstReg, s_gt, s_wb, s_val, s_rgx, s_sqn, s_sqe, s_cdb, s_exit, s_clean, o_tmp, o_int, l_hit, l_miss, ol_nil, ol_cons, ol_some, x_move, x_pick, pk_t, x_bin, bn_s, x_callB, binA, intOp, keepT, x_load, ldx, x_fieldAddr, newK, genOf, setK, lookK, writeL, writeC, readC, conts, TyI.mk1, fieldAddrA, appendA, copyA, builtinA, AV.cells, gcH, reach, keysT, keepK, inKs, AV.keys, AV.keysL, Ty.isAgg, h', El.fl_keys]
  · obtain ⟨m, rfl | rfl⟩ := hkey <;> simp [b22, lp, lps, c22, ↓s_seq, ↓s_reg, ↓s_cond, ↓s_cons, ↓s_consG, s_nil, firstReg, s_gf, s_wb, s_val, s_rgx, s_sqn, s_sqe, s_cdb, s_exit, s_clean, o_tmp, o_int, o_bool, l_hit, l_miss, ol_nil, ol_cons, ol_some, x_move, x_pick, pk_f, x_bin, bn_s, x_callB, binA, intOp, keepT, x_load, ldx, x_fieldAddr, newK, genOf, setK, lookK, writeL, writeC, readC, conts, TyI.mk1, fieldAddrA, appendA, copyA, builtinA, AV.cells, gcH, reach, keysT, keepK, inKs, AV.keys, AV.keysL, Ty.isAgg, h, El.fl_keys]
theorem last0 (q0 k1 : Nat) (f q) :
    rndO fn22 b22 q0 k1 (S0 f [] q 0) = some (.exit 0, ⟨[(1, .ptr (1, 1, 0) 0), (2, .ptr (1, 2, 0) 0), (3, .sl true [] (some 0)), (4, .int .i64 0), (17, .bool false)], [((1, 1, 0), bx [.sl f [] q]), ((1, 2, 0), bx Z)]⟩) := by
  simp [b22, lp, lps, c22, ↓s_seq, ↓s_reg, ↓s_cond, ↓s_cons, ↓s_consG, s_nil, firstReg, s_gf, s_wb, s_val, s_rgx, s_sqn, s_sqe, s_cdb, s_exit, s_clean, o_tmp, o_int, o_bool, l_hit, l_miss, ol_nil, ol_cons, ol_some, x_move, x_pick, pk_f, x_bin, bn_s, x_callB, binA, intOp, keepT, x_load, ldx, x_fieldAddr, newK, genOf, setK, lookK, writeL, writeC, readC, conts, TyI.mk1, fieldAddrA, appendA, copyA, builtinA, AV.cells, gcH, reach, keysT, keepK, inKs, AV.keys, AV.keysL, Ty.isAgg]
theorem step (K : Nat) (f q) (l : List G) (hl : ∀ g ∈ l, g.ok) (ll : l.length ≤ 9223372036854775807) (i : Nat) (g : G) (hx : l[i]? = some g) (hi : i < 39) (key : Key) (hkey : ∃ m, key = (1, 49, m) ∨ key = (1, 92, m)) (hne : (sq l i).length ≠ 0)
    (T : ∀ k : Int, 0 ≤ k → k < 256 → ∀ h, aCall E K 0 71 [.agg [.int .u8 g.c, .int .u8 k, .int .u32 g.n]] h = some (.ret (.agg [.int .u8 (g.c % 4), .bool (decide (k % 2 = 1)), .int .u32 (tn g.c k g.n)]), h))
    (D : ∀ h, aCall E K 0 40 [(nd g ((sq l i).drop ((sq l i).length - kk g (sq l i).length))).av] h = some (.ret (.int .i64 (dep (nd g ((sq l i).drop ((sq l i).length - kk g (sq l i).length))).core)), h)) :
    ∃ key', (∃ m, key' = (1, 49, m) ∨ key' = (1, 92, m)) ∧ rndO fn22 b22 K K (S f (l.map G.av) q key (sq l i) i) = some (.normal, S f (l.map G.av) q key' (sq l (i + 1)) (i + 1)) := by
  have og := hl g (List.mem_of_getElem? hx)
  have iv := inv l hl i (by omega)
  have ln := cnts_len (sq l i)
  have e : sq l (i + 1) = E26.nx (sq l i) g := by rw [sq, hx]
  rw [e]
  generalize sq l i = st at *
  by_cases ha : g.a % 3 = 0
  · have t := T 0 (by omega) (by omega)
    have e2 : E26.nx st g = st ++ [leaf g] := by unfold E26.nx; rw [if_pos ha]
    rw [e2]
    exact ⟨_, ⟨_, .inl rfl⟩, leafR key st (by omega) hkey K K f q l i g og hx hi ha ll t⟩
  have t := T 1 (by omega) (by omega)
  have e2 : E26.nx st g = if dep (nd g (st.drop (st.length - kk g st.length))).core < 15 then st.take (st.length - kk g st.length) ++ [nd g (st.drop (st.length - kk g st.length))] else st := by unfold E26.nx; rw [if_neg ha]
  rw [e2]
  have kl := kk_le g st.length
  have hkp : st.length = kk g st.length + (st.length - kk g st.length) := by omega
  by_cases h2 : g.a % 3 = 2
  · exact nodeA key st (by omega) hne hkey _ _ hkp (by unfold kk; rw [if_pos h2]) K K f q l i g og hx hi ha ll h2 _ t D
  have h3 : g.a % 3 ≠ 2 ∧ (if (st.length : Int) < g.b % 5 then (st.length : Int) else g.b % 5) = (kk g st.length : Int) := by
    refine ⟨h2, ?_⟩
    unfold kk
    rw [if_neg h2]
    split <;> omega
  by_cases k0 : kk g st.length = 0
  · exact E24.nodeC key st (by omega) hne hkey _ _ hkp k0 K K f q l i g og hx hi ha ll h3 _ t D
  by_cases k1 : kk g st.length = st.length
  · exact E24.nodeB key st (by omega) hne hkey _ _ hkp k1 K K f q l i g og hx hi ha ll h3 _ t D
  · exact E25.nodeD key st (by omega) hne hkey _ _ hkp ⟨by omega, by omega⟩ K K f q l i g og hx hi ha ll h3 _ t D
theorem first (K : Nat) (f q) (l : List G) (hl : ∀ g ∈ l, g.ok) (ll : l.length ≤ 9223372036854775807) (g : G) (hx : l[0]? = some g)
    (T : ∀ k : Int, 0 ≤ k → k < 256 → ∀ h, aCall E K 0 71 [.agg [.int .u8 g.c, .int .u8 k, .int .u32 g.n]] h = some (.ret (.agg [.int .u8 (g.c % 4), .bool (decide (k % 2 = 1)), .int .u32 (tn g.c k g.n)]), h))
    (D : ∀ h, aCall E K 0 40 [(nd g []).av] h = some (.ret (.int .i64 (dep (nd g []).core)), h)) :
    ∃ key', (∃ m, key' = (1, 49, m) ∨ key' = (1, 92, m)) ∧ rndO fn22 b22 K K (S0 f (l.map G.av) q 0) = some (.normal, S f (l.map G.av) q key' (sq l 1) 1) := by
  have og := hl g (List.mem_of_getElem? hx)
  have e : sq l 1 = E26.nx [] g := by rw [sq, hx]; rfl
  have d1 : dep (nd g []).core = 1 := rfl
  rw [d1] at D
  rw [e]
  by_cases ha : g.a % 3 = 0
  · have t := T 0 (by omega) (by omega)
    have e2 : E26.nx [] g = [leaf g] := by unfold E26.nx; rw [if_pos ha]; rfl
    rw [e2]
    exact ⟨_, ⟨_, .inl rfl⟩, leaf0 K K f q l 0 g og hx (by omega) ha ll t⟩
  have t := T 1 (by omega) (by omega)
  have e2 : E26.nx [] g = [nd g []] := by unfold E26.nx; rw [if_neg ha]; simp [d1]
  rw [e2]
  exact ⟨_, ⟨_, .inr rfl⟩, node0 K K f q l 0 g og hx (by omega) ha ll t D⟩
abbrev Fin (f : Bool) (q : Option Nat) (l : List G) (key : Key) (st : List El) : Option (AExit × St) := some (.exit 0, ⟨[(1, .ptr (1, 1, 0) 0), (2, .ptr (1, 2, 0) 0), (3, .ref key 0 st.length none), (4, .int .i64 ((min 39 l.length : Nat) : Int)), (17, .bool false)], [((1, 1, 0), bx [.sl f (l.map G.av) q]), ((1, 2, 0), bx Z), (key, ⟨El.fl st, true, true, false, 5, true⟩)]⟩)
theorem loop (K : Nat) (f q) (l : List G) (hl : ∀ g ∈ l, g.ok) (ll : l.length ≤ 9223372036854775807)
    (T : ∀ g ∈ l, ∀ k : Int, 0 ≤ k → k < 256 → ∀ h, aCall E K 0 71 [.agg [.int .u8 g.c, .int .u8 k, .int .u32 g.n]] h = some (.ret (.agg [.int .u8 (g.c % 4), .bool (decide (k % 2 = 1)), .int .u32 (tn g.c k g.n)]), h))
    (D : ∀ i g, i < 39 → l[i]? = some g → ∀ h, aCall E K 0 40 [(nd g ((sq l i).drop ((sq l i).length - kk g (sq l i).length))).av] h = some (.ret (.int .i64 (dep (nd g ((sq l i).drop ((sq l i).length - kk g (sq l i).length))).core)), h)) :
    ∀ (n i : Nat) (key : Key) (k : Nat), (∃ m, key = (1, 49, m) ∨ key = (1, 92, m)) → i + n = min 39 l.length → 0 < i → n < k →
      ∃ key', (∃ m, key' = (1, 49, m) ∨ key' = (1, 92, m)) ∧ aLoop (aCode E (site fn22 (aRun E K)) (dcall (aRun E K)) K 1 fn22 b22) (cleanS 1 ((firstReg b22).bind fn22.head)) k (S f (l.map G.av) q key (sq l i) i) = Fin f q l key' (sq l (min 39 l.length))
  | 0, i, key, k, hkey, hi, i0, hk => by
    obtain ⟨k, rfl⟩ : ∃ j, k = j + 1 := ⟨k - 1, by omega⟩
    obtain rfl : i = min 39 l.length := by omega
    exact ⟨key, hkey, aLoop_end (lastS K K f q l key _ hkey _ rfl) (by simp)⟩
  | n + 1, i, key, k, hkey, hi, i0, hk => by
    obtain ⟨k, rfl⟩ : ∃ j, k = j + 1 := ⟨k - 1, by omega⟩
    have hx : l[i]? = some (l[i]'(by omega)) := List.getElem?_eq_getElem _
    have hne : (sq l i).length ≠ 0 := by
      obtain ⟨j, rfl⟩ : ∃ j, i = j + 1 := ⟨i - 1, by omega⟩
      exact sq_ne l j (by omega)
    obtain ⟨key1, hk1, h1⟩ := step K f q l hl ll i _ hx (by omega) key hkey hne (T _ (List.mem_of_getElem? hx)) (D i _ (by omega) hx)
    obtain ⟨key2, hk2, h2⟩ := loop K f q l hl ll T D n (i + 1) key1 k hk1 (by omega) (by omega) (by omega)
    exact ⟨key2, hk2, by rw [aLoop_succ h1, h2]⟩
end E27

end
section
/- E.Of at the evaluator: its answer. No conditions. -/
open Ab Go TabE Sp E18 E20 E22 E23 E26
set_option maxRecDepth 20000
set_option linter.unusedSimpArgs false
set_option linter.unusedVariables false
set_option maxHeartbeats 8000000
namespace E28
theorem sealX_fl (n : Nat) (h : Heap) (key : Key) (st : List El) (hk : lookK h key = some ⟨El.fl st, true, true, false, 5, true⟩) : sealX (n + 2) h (.ref key 0 st.length none) = some (.sl false (El.avs st) none, setK h key ⟨El.fl st, true, false, false, 5, true⟩) := by
  unfold sealX sealA
  have hp : (AV.ref key 0 st.length none).pure = false := rfl
  have f3 : (El.fl st).take (st.length * 5) = El.fl st := by rw [El.fl_take, List.take_length]
  simp only [hp, Bool.false_eq_true, if_false, hk]
  rw [if_pos ⟨trivial, by rw [El.fl_len]; omega, by simp⟩]
  simp only [List.drop_zero, f3]
  rw [sealL_of_pure n _ _ (El.fl_pure st)]
  simp only [El.fl_chunk]
theorem of (f : Bool) (q : Option Nat) (l : List G) (hl : ∀ g ∈ l, g.ok) (ll : l.length ≤ 9223372036854775807) : ∃ N, Con E N 22 [.agg [.sl f (l.map G.av) q]] (ofE l).av := by
  obtain ⟨N, hN⟩ := unif (P := fun (i n : Nat) => ∀ g, l[i]? = some g → Con E n 40 [(nd g ((sq l i).drop ((sq l i).length - kk g (sq l i).length))).av] (.int .i64 (dep (nd g ((sq l i).drop ((sq l i).length - kk g (sq l i).length))).core))) (fun i n m h hm g hg => (h g hg).mono hm) (List.range 39) (fun i hi => by
    have hi' : i < 39 := List.mem_range.1 hi
    cases hg : l[i]? with
    | none => exact ⟨0, fun g h => by cases h⟩
    | some g =>
      have iv := inv l hl i (by omega)
      have ln := cnts_len (sq l i)
      have w := nd_W g (hl g (List.mem_of_getElem? hg)) ((sq l i).drop ((sq l i).length - kk g (sq l i).length)) (fun x hx => iv.2 x (List.mem_of_mem_drop hx)) (by rw [List.length_drop]; omega)
      obtain ⟨n, hn⟩ := E12.depth _ w.1 (by omega)
      exact ⟨n, fun g' h => by cases h; exact hn⟩)
  obtain ⟨K, hK⟩ : ∃ K, N + 100 = K := ⟨_, rfl⟩
  have T : ∀ g ∈ l, ∀ k : Int, 0 ≤ k → k < 256 → ∀ h, aCall E K 0 71 [.agg [.int .u8 g.c, .int .u8 k, .int .u32 g.n]] h = some (.ret (.agg [.int .u8 (g.c % 4), .bool (decide (k % 2 = 1)), .int .u32 (tn g.c k g.n)]), h) := fun g hg k k0 k1 h =>
    E20.of g.c k g.n (hl g hg).2.2.1 ⟨k0, k1⟩ (hl g hg).2.2.2.2.1 K (by omega) 0 h
  have D := fun i g (hi : i < 39) (hx : l[i]? = some g) h => hN i (List.mem_range.2 hi) g hx K (by omega) 0 h
  refine ⟨K + 1, con_ofO E_fn22 (by simp [AV.pureL, AV.pure]) (Nat.le_of_ble_eq_true rfl) rfl (g := []) ?_⟩
  rw [body_22, c22]
  cases hc : l with
  | nil =>
    obtain ⟨k, hk⟩ : ∃ k, K = k + 1 := ⟨K - 1, by omega⟩
    have L : aLoop (aCode E (site fn22 (aRun E K)) (dcall (aRun E K)) K 1 fn22 b22) (cleanS 1 ((firstReg b22).bind fn22.head)) K (S0 f [] q 0) = some (.exit 0, ⟨[(1, .ptr (1, 1, 0) 0), (2, .ptr (1, 2, 0) 0), (3, .sl true [] (some 0)), (4, .int .i64 0), (17, .bool false)], [((1, 1, 0), bx [.sl f [] q]), ((1, 2, 0), bx Z)]⟩) := by
      rw [hk]; exact aLoop_end (E27.last0 (k + 1) (k + 1) f q) (by simp)
    simp [b22, lp, lps, c22, firstReg, bx, Z, S0] at L
    have t : ofE [] = .mk 0 true 16 true [] (some 0) true [] (some 0) := rfl
    rw [t]
    simp [↓s_seq, ↓s_reg, ↓s_cond, ↓s_block, ↓s_cons, s_nil, s_loop, firstReg, s_val, s_skip, s_rgx, s_sqn, s_cdb, s_bke, s_ret', s_skip', s_finr, s_fin1, s_fix, s_clean, o_tmp, o_int, o_bool, o_nil, l_hit, l_miss, ol_nil, ol_cons, ol_some, x_move, x_assign, x_bin, bn_s, x_callB, frame0, binA, intOp, resL, resA, results1, AV.pure, AV.pureL, keepT, x_alloc, x_box, bxx, x_build, bdx, x_store, stx, newK, genOf, setK, lookK, fillA, writeL, writeC, readC, conts, TyI.mk1, appendA, copyA, builtinA, AV.cells, gcH, reach, keysT, keepK, inKs, AV.keys, AV.keysL, Ty.isAgg, sc_int, sc_bool, sc_sl, sl_agg, bs_nil, i_beq, L, El.av, El.avs]
  | cons g r =>
    rw [← hc]
    have hx : l[0]? = some g := by rw [hc]; rfl
    have l0 : 0 < l.length := by rw [hc]; simp
    obtain ⟨key1, hk1, h1⟩ := E27.first K f q l hl ll g hx (T g (by rw [hc]; simp)) (by simpa [sq] using D 0 g (by omega) hx)
    obtain ⟨k, hk⟩ : ∃ k, K = k + 1 := ⟨K - 1, by omega⟩
    obtain ⟨key, hkey, h2⟩ := E27.loop K f q l hl ll T D (min 39 l.length - 1) 1 key1 k hk1 (by omega) (by omega) (by omega)
    have L : aLoop (aCode E (site fn22 (aRun E K)) (dcall (aRun E K)) K 1 fn22 b22) (cleanS 1 ((firstReg b22).bind fn22.head)) K (S0 f (l.map G.av) q 0) = E27.Fin f q l key (sq l (min 39 l.length)) := by
      have hk' : aLoop (aCode E (site fn22 (aRun E K)) (dcall (aRun E K)) K 1 fn22 b22) (cleanS 1 ((firstReg b22).bind fn22.head)) (k + 1) (S0 f (l.map G.av) q 0) = E27.Fin f q l key (sq l (min 39 l.length)) := by rw [aLoop_succ h1]; exact h2
      rwa [← hk] at hk'
    have hne : (sq l (min 39 l.length)).length ≠ 0 := by
      obtain ⟨j, hj⟩ : ∃ j, min 39 l.length = j + 1 := ⟨min 39 l.length - 1, by omega⟩
      rw [hj]; exact sq_ne l j (by omega)
    have iv := inv l hl (min 39 l.length) (by omega)
    have ln := cnts_len (sq l (min 39 l.length))
    unfold ofE
    unfold E27.Fin at L
    generalize sq l (min 39 l.length) = st at L hne iv ln ⊢
    simp [b22, lp, lps, c22, firstReg, bx, Z, S0] at L
    have l1 := El.fl_len st
    have l2 := El.fl_keys st
    have l3 := El.fl_pure st
    by_cases one : st.length = 1
    · obtain ⟨x, rfl⟩ : ∃ x, st = [x] := List.length_eq_one_iff.1 one
      have t : top [x] = x := rfl
      rw [t, El.av_eq]
      rw [El.fl_one] at L
      simp only [List.length_singleton] at L
      obtain ⟨m, rfl | rfl⟩ := hkey <;> simp [↓s_seq, ↓s_reg, ↓s_cond, ↓s_block, ↓s_cons, s_nil, s_loop, firstReg, s_val, s_skip, s_rgx, s_sqn, s_sqr, s_cdb, s_bke, s_ret', s_finr, s_fin1, s_fix, s_clean, o_tmp, o_int, o_nil, l_hit, l_miss, ol_nil, ol_cons, ol_some, x_move, x_assign, x_bin, bn_s, x_callB, frame0, binA, intOp, resL, resA, results1, AV.pure, AV.pureL, keepT, x_alloc, x_box, bxx, x_load, ldx, x_store, stx, x_indexAddr, iax, newK, genOf, setK, lookK, writeL, writeC, readC, conts, TyI.mk1, indexAddrA, appendA, copyA, builtinA, AV.cells, gcH, reach, keysT, keepK, inKs, AV.keys, AV.keysL, Ty.isAgg, sc_int, sc_bool, sc_sl, sl_agg, L]
    · have t : top st = .mk 0 true 16 true [] (some 0) false st none := by
        match st, hne, one with
        | x :: y :: r, _, _ => simp [top]
      have one' : ¬ ((st.length : Int) = 1) := by omega
      rw [t, El.av]
      obtain ⟨m, rfl | rfl⟩ := hkey <;> simp [↓s_seq, ↓s_reg, ↓s_cond, ↓s_block, ↓s_cons, s_nil, s_loop, firstReg, s_val, s_skip, s_rgx, s_sqn, s_cdb, s_bke, s_ret', s_skip', s_finr, s_fin1, s_fix, s_clean, o_tmp, o_int, o_bool, o_nil, l_hit, l_miss, ol_nil, ol_cons, ol_some, x_move, x_assign, x_bin, bn_s, x_callB, frame0, binA, intOp, resL, resA, results1, sealLW, AV.pure, AV.pureL, keepT, x_alloc, x_box, bxx, x_build, bdx, x_store, stx, newK, genOf, setK, lookK, fillA, writeL, writeC, readC, conts, TyI.mk1, appendA, copyA, builtinA, AV.cells, gcH, reach, keysT, keepK, inKs, AV.keys, AV.keysL, Ty.isAgg, sc_int, sc_bool, sc_sl, sc_ref, sl_row, sealRow, sealY, sl_int, sl_bool, sl_sl, sl_agg, bs_nil, i_beq, L, one', l1, l2, l3, sealX_fl]
end E28

end
section
/- The law ElementsAt at the evaluator: true at every recipe and path. No conditions. -/
open Ab Go TabE Sp E18 E22 E26 E31 E33 E34 E37
set_option maxRecDepth 20000
set_option linter.unusedSimpArgs false
set_option linter.unusedVariables false
set_option maxHeartbeats 8000000
namespace E38
def nx (e : El) (p : Int) : El ⊕ (AExit × St) := if p < 0 then .inr (.ret, ⟨[(4, .bool true)], []⟩) else match e.s[p.toNat]? with
  | some x => .inl x
  | none => .inr (.ret, ⟨[(4, .bool true)], []⟩)
abbrev fin (f : Bool) (ps : List Int) (c : Option Nat) (cs : List AV) (r : Int) (e : El) : AExit × St := (.exit 0, ⟨[(1, .sl f (ns ps) c), (6, .ptr (1, 6, 0) 0), (7, .int .i64 r), (8, .ptr (1, 8, 0) 0), (9, .int .i64 (ps.length : Int)), (31, .bool false)], [((1, 6, 0), bx cs), ((1, 8, 0), bx (ec e))]⟩)
theorem run_walk (fin : El → AExit × St) : ∀ (r : List Int) (e : El), runL E38.nx fin r e = (match E34.walk e r with
    | some x => fin x
    | none => (.ret, ⟨[(4, .bool true)], []⟩))
  | [], e => rfl
  | p :: r, e => by
    unfold runL E34.walk E38.nx
    by_cases h : p < 0
    · rw [if_pos h, if_pos h]
    · rw [if_neg h, if_neg h]
      cases hx : e.s[p.toNat]? with
      | none => rfl
      | some x => exact run_walk fin r x
theorem loopOk (K : Nat) (f ps c cs) (e x : El) (hk : AV.keysL cs = []) (lp' : ps.length ≤ 1000) (hK : ps.length < K) (hw : E34.walk e ps = some x) :
    aLoop (aCode E (aCall E K) (dcall (aRun E K)) K 1 fn5 b5) (cleanS 1 ((firstReg b5).bind fn5.head)) K (S1 f ps c cs 0 0 e) = some (fin f ps c cs 0 x) := by
  have gen : ∀ (r : List Int) (i k : Nat) (e : El), ps.drop i = r → i + r.length = ps.length → r.length < k → E34.walk e r = some x → aLoop (aCode E (aCall E K) (dcall (aRun E K)) K 1 fn5 b5) (cleanS 1 ((firstReg b5).bind fn5.head)) k (S1 f ps c cs 0 i e) = some (fin f ps c cs 0 x) := by
    intro r
    induction r with
    | nil =>
      intro i k e h1 h2 h3 h4
      obtain ⟨k, rfl⟩ : ∃ j, k = j + 1 := ⟨k - 1, by simp at h3; omega⟩
      obtain rfl : i = ps.length := by simpa using h2
      obtain rfl : e = x := by cases h4; rfl
      exact aLoop_end (E37.last K K f ps c cs 0 e hk) (by simp)
    | cons p r ih =>
      intro i k e h1 h2 h3 h4
      obtain ⟨k, rfl⟩ : ∃ j, k = j + 1 := ⟨k - 1, by simp at h3; omega⟩
      have hp : ps[i]? = some p := by
        have := congrArg (fun l => l[0]?) h1
        simpa [List.getElem?_drop] using this
      have hd : ps.drop (i + 1) = r := by
        have := congrArg List.tail h1
        simpa [List.tail_drop] using this
      unfold E34.walk at h4
      by_cases p0 : p < 0
      · rw [if_pos p0] at h4; cases h4
      rw [if_neg p0] at h4
      cases hx : e.s[p.toNat]? with
      | none => rw [hx] at h4; cases h4
      | some y =>
        rw [hx] at h4
        rw [aLoop_succ (E37.go K K f ps c cs 0 i e y p hk hp lp' (by omega) hx)]
        exact ih (i + 1) k y hd (by simp at h2; omega) (by simp at h3; omega) h4
  exact gen ps 0 K e rfl (by omega) hK hw
theorem loopBad (K : Nat) (f ps c) (e : El) (lp' : ps.length ≤ 1000) (hK : ps.length < K) (hw : E34.walk e ps = none)
    (B : ∀ h, aCall E K 0 24 [.agg Zc, .agg Zc] h = some (.ret (.bool true), h)) (V : ∀ h, aCall E K 0 18 [] h = some (.ret (.bool true), h)) :
    aLoop (aCode E (aCall E K) (dcall (aRun E K)) K 1 fn5 b5) (cleanS 1 ((firstReg b5).bind fn5.head)) K (S1 f ps c Zc 19 0 e) = some (.ret, ⟨[(4, .bool true)], []⟩) := by
  have gen : ∀ (r : List Int) (i k : Nat) (e : El), ps.drop i = r → i + r.length = ps.length → r.length < k → E34.walk e r = none → aLoop (aCode E (aCall E K) (dcall (aRun E K)) K 1 fn5 b5) (cleanS 1 ((firstReg b5).bind fn5.head)) k (S1 f ps c Zc 19 i e) = some (.ret, ⟨[(4, .bool true)], []⟩) := by
    intro r
    induction r with
    | nil => intro i k e h1 h2 h3 h4; cases h4
    | cons p r ih =>
      intro i k e h1 h2 h3 h4
      obtain ⟨k, rfl⟩ : ∃ j, k = j + 1 := ⟨k - 1, by simp at h3; omega⟩
      have hp : ps[i]? = some p := by
        have := congrArg (fun l => l[0]?) h1
        simpa [List.getElem?_drop] using this
      have hd : ps.drop (i + 1) = r := by
        have := congrArg List.tail h1
        simpa [List.tail_drop] using this
      unfold E34.walk at h4
      by_cases p0 : p < 0
      · exact aLoop_end (E37.bad K K f ps c i e p hp lp' (.inl p0) B V) (by simp)
      rw [if_neg p0] at h4
      cases hx : e.s[p.toNat]? with
      | none =>
        have := List.getElem?_eq_none_iff.1 hx
        exact aLoop_end (E37.bad K K f ps c i e p hp lp' (.inr (by omega)) B V) (by simp)
      | some y =>
        rw [hx] at h4
        rw [aLoop_succ (E37.go K K f ps c Zc 19 i e y p rfl hp lp' (by omega) hx)]
        exact ih (i + 1) k y hd (by simp at h2; omega) (by simp at h3; omega) h4
  exact gen ps 0 K e rfl (by omega) hK hw
theorem deps_app (a : List El) (x : El) : deps (El.cores (a ++ [x])) = if deps (El.cores a) < dep x.core then dep x.core else deps (El.cores a) := by
  induction a with
  | nil =>
    have := dep_pos x.core
    simp only [List.nil_append, El.cores, deps]
    split <;> omega
  | cons y a ih =>
    simp only [List.cons_append, El.cores, deps]
    rw [ih]
    split <;> split <;> omega
theorem encs_app (a b : List El) : encs (El.cores (a ++ b)) = encs (El.cores a) ++ encs (El.cores b) := by
  induction a with
  | nil => simp [El.cores, encs]
  | cons x a ih => simp only [List.cons_append, El.cores, encs, ih, List.append_assoc]
theorem encs_len (l : List El) (h : ∀ x ∈ l, E26.Good x) : ((encs (El.cores l)).length : Int) ≤ 29 * cnts (El.cores l) := by
  induction l with
  | nil => simp [El.cores, encs, cnts]
  | cons x l ih =>
    rw [El.cores, encs, cnts, List.length_append]
    have a := fw_len x (h x (by simp)).fw
    have b := ih fun y hy => h y (by simp [hy])
    omega
theorem loop2 (K : Nat) (x : El) (hx : E26.Good x) (hK : x.s.length < K)
    (A : ∀ y ∈ x.s, (∀ h, aCall E K 0 28 [y.av] h = some (.ret (.int .i64 (enc y.core).length), h)) ∧ (∀ h, aCall E K 0 29 [y.av] h = some (.ret (.int .i64 (cnt y.core)), h)) ∧ (∀ h, aCall E K 0 30 [y.av] h = some (.ret (.int .i64 (dep y.core)), h))) :
    aLoop (aCode E (aCall E K) (dcall (aRun E K)) K 1 fn5 b6) (cleanS 1 ((firstReg b6).bind fn5.head)) K (S2 x 0 (x.b.length : Int) 1 0) = some (.exit 2, ⟨[(8, .ptr (1, 8, 0) 0), (10, .int .i64 ((x.b.length : Int) + (encs (El.cores x.s)).length)), (11, .int .i64 (1 + cnts (El.cores x.s))), (12, .int .i64 (deps (El.cores x.s))), (13, .int .i64 (x.s.length : Int)), (92, .bool false)], [((1, 8, 0), bx (ec x))]⟩) := by
  have sub := E36.good_sub x hx
  have hc := hx.cnt
  rw [cnt_eq] at hc
  have ln := cnts_len x.s
  have fb : x.b.length ≤ 20 := by have f := hx.fw; cases f with | mk _ f1 _ => exact f1
  have key := loopQ (fn := fn5) (b := b6) (K := K) (k := K) (fun i => S2 x i ((x.b.length : Int) + (encs (El.cores (x.s.take i))).length) (1 + cnts (El.cores (x.s.take i))) (deps (El.cores (x.s.take i)))) x.s.length (s0 := S2 x 0 (x.b.length : Int) 1 0) (by simp [El.cores, encs, cnts, deps]) (fun i hi => by
    obtain ⟨y, hy⟩ : ∃ y, x.s[i]? = some y := ⟨x.s[i], by simp⟩
    have my := List.mem_of_getElem? hy
    obtain ⟨a1, a2, a3⟩ := A y my
    have tk : x.s.take (i + 1) = x.s.take i ++ [y] := by rw [List.take_add_one, hy]; rfl
    have sp : cnts (El.cores x.s) = cnts (El.cores (x.s.take i)) + cnts (El.cores (x.s.drop i)) := by rw [← cnts_app, List.take_append_drop]
    have p1 := cnts_pos (El.cores (x.s.take i))
    have p2 := cnts_pos (El.cores (x.s.drop i))
    have le := encs_len (x.s.take i) fun z hz => sub z (List.mem_of_mem_take hz)
    have gl := (sub y my).len
    have gc := (sub y my).cnt
    have cp := cnt_pos y.core
    have g := go2 K K x y i ((x.b.length : Int) + (encs (El.cores (x.s.take i))).length) (1 + cnts (El.cores (x.s.take i))) (deps (El.cores (x.s.take i))) (enc y.core).length (cnt y.core) (dep y.core) hy (by omega) (by omega) (by omega) (by omega) (by omega) a1 a2 a3
    rw [g, tk, encs_app, cnts_app, deps_app]
    simp only [El.cores, encs, cnts, List.append_nil, List.length_append, Int.add_zero]
    rw [Int.add_assoc, Int.add_assoc]
    rfl) (last2 K K x _ _ _) (by simp) (by omega)
  rw [List.take_length] at key
  exact key
end E38

end
section
/- The law ElementsAt at the evaluator, joined. No conditions. -/
open Ab Go TabE Sp E18 E22 E26 E31 E33 E34 E37 E38
set_option maxRecDepth 20000
set_option linter.unusedSimpArgs false
set_option linter.unusedVariables false
set_option maxHeartbeats 8000000
namespace E39
theorem law (f' f : Bool) (q c : Option Nat) (l : List G) (ps : List Int) (hl : ∀ g ∈ l, g.ok) (ll : l.length ≤ 9223372036854775807) : ∃ N, Con E N 5 [.agg [.sl f' (l.map G.av) q], .sl f (ns ps) c] (.bool true) := by
  by_cases long : 20 < ps.length
  · have lv := LV.l04 300 (by omega) 0
    have long' : (20 : Int) < ps.length := by omega
    refine ⟨300 + 1, con_of E_fn5 (by simp [AV.pureL, AV.pure]) (Nat.le_of_ble_eq_true rfl) rfl rfl (g := []) ?_⟩
    rw [body_5, c5]
    simp [↓s_seq, ↓s_reg, ↓s_cond, ↓s_cons, s_nil, s_val, s_calls, s_cax, s_ret, s_rgx, s_sqn, s_sqr, s_cdb, s_ret', s_finr, s_fin1, s_fix, s_clean, o_tmp, o_int, o_bool, l_hit, l_miss, ol_nil, ol_cons, ol_some, x_move, x_assign, x_bin, bn_s, x_callF, cl_no, x_callB, frame0, binA, intOp, resL, resA, results1, sealLW, AV.pure, AV.pureL, keepT, x_box, bxx, newK, genOf, setK, lookK, writeL, writeC, conts, appendA, copyA, builtinA, AV.cells, gcH, reach, keysT, keepK, inKs, AV.keys, AV.keysL, Ty.isAgg, sc_sl, sl_bool, lv, long']
  obtain ⟨N1, C1⟩ := E28.of f' q l hl ll
  have ga := good l hl
  have na := E36.of_nn l
  generalize ofE l = a at C1 ga na
  obtain ⟨N2, C2⟩ := E35.at_ok a ga.ok ga.chk na (E36.good_sh a ga) f ps c (by omega)
  have long' : ¬ (20 : Int) < ps.length := by omega
  cases hw : E34.walk a ps with
  | none =>
    rw [hw] at C2
    obtain ⟨N3, C3⟩ := E1.same z z z_ok rfl
    rw [z_av] at C3
    obtain ⟨K, hK⟩ : ∃ K, N1 + N2 + N3 + ps.length + 300 = K := ⟨_, rfl⟩
    have w1 := C1 K (by omega) 0
    have w2 := C2 K (by omega) 0
    rw [El.av_eq] at w1 w2
    have L := loopBad K f ps c a (by omega) (by omega) hw (fun h => C3 K (by omega) 0 h) (fun h => LV.l04 K (by omega) 0 h)
    refine ⟨K + 1, con_of E_fn5 (by simp [AV.pureL, AV.pure]) (Nat.le_of_ble_eq_true rfl) rfl rfl (g := []) ?_⟩
    rw [body_5, c5]
    simp [b5, lp, lps, c5, firstReg, S1, Zc, bx, ec] at L
    simp [↓s_seq, ↓s_reg, ↓s_cond, ↓s_block, ↓s_cons, s_nil, s_loop, firstReg, s_val, s_skip, s_calls, s_cax, s_ret, s_rgx, s_sqn, s_sqr, s_cdb, s_bkr, s_skip', s_finr, s_fin1, s_fix, s_clean, o_tmp, o_int, o_bool, l_hit, l_miss, ol_nil, ol_cons, ol_some, x_move, x_assign, x_bin, bn_s, x_extract, x_callF, cl_no, x_callB, frame0, binA, intOp, resL, resA, results1, sealLW, AV.pure, AV.pureL, keepT, x_alloc, x_box, bxx, x_load, ldx, x_store, stx, newK, genOf, setK, lookK, writeL, writeC, readC, conts, TyI.mk1, appendA, copyA, builtinA, AV.cells, gcH, reach, keysT, keepK, inKs, AV.keys, AV.keysL, Ty.isAgg, sc_int, sc_bool, sc_sl, sl_bool, sl_sl, sl_agg, w1, w2, L, long']
  | some x =>
    rw [hw] at C2
    have gx : E26.Good x := walk_P (P := E26.Good) E36.good_sub ps a x ga hw
    have nx : Nn x := walk_P (P := Nn) (fun e h y hy => by cases h with | mk _ _ _ r => exact r y hy) ps a x na hw
    obtain ⟨N3, C3⟩ := E13.many_con (cp x) (cp_ok x gx.ok)
    obtain ⟨N4, C4⟩ := E1.same (cp x) x (cp_ok x gx.ok) (cp_core x)
    obtain ⟨N5, C5⟩ := E13.exact_con (cp x) (cp_ok x gx.ok) (cp_ex x)
    obtain ⟨N6, C6⟩ := E10.size_ok x gx.ok gx.sm gx.chk
    have lx := gx.len
    rw [if_pos (by omega)] at C6
    obtain ⟨N7, C7⟩ := E10.count x gx.ok
    obtain ⟨N8, C8⟩ := E10.depth x gx.ok
    have mk := E36.meas_ok x gx
    rw [mk.1] at C7
    rw [mk.2] at C8
    obtain ⟨N9, hA⟩ := unif (P := fun (y : El) (n : Nat) => Con E n 28 [y.av] (.int .i64 (enc y.core).length) ∧ Con E n 29 [y.av] (.int .i64 (cnt y.core)) ∧ Con E n 30 [y.av] (.int .i64 (dep y.core))) (fun y n m h hm => ⟨h.1.mono hm, h.2.1.mono hm, h.2.2.mono hm⟩) x.s (fun y hy => by
      have gy := E36.good_sub x gx y hy
      have ly := gy.len
      obtain ⟨n1, h1⟩ := E10.size_ok y gy.ok gy.sm gy.chk
      rw [if_pos (by omega)] at h1
      obtain ⟨n2, h2⟩ := E10.count y gy.ok
      obtain ⟨n3, h3⟩ := E10.depth y gy.ok
      have my := E36.meas_ok y gy
      rw [my.1] at h2
      rw [my.2] at h3
      exact ⟨n1 + n2 + n3, h1.mono (by omega), h2.mono (by omega), h3.mono (by omega)⟩)
    obtain ⟨K, hK⟩ : ∃ K, N1 + N2 + N3 + N4 + N5 + N6 + N7 + N8 + N9 + ps.length + x.s.length + 300 = K := ⟨_, rfl⟩
    have w1 := C1 K (by omega) 0
    have w2 : ∀ h, aCall E K 0 25 [a.av, .sl f (ns ps) c] h = some (.ret (.tup [(cp x).av, .int .i64 0]), h) := C2 K (by omega) 0
    have w3 := C3 50 (by omega) K (by omega) 0
    have w4 := C4 K (by omega) 0
    have w5 := C5 K (by omega) 0
    have w6 := C6 K (by omega) 0
    have w7 := C7 K (by omega) 0
    have w8 := C8 K (by omega) 0
    have lv := LV.l04 K (by omega) 0
    have cx := gx.cnt
    have px := cnt_pos x.core
    rw [cp_core, E36.many_cnt _ _ (by omega) (by omega)] at w3
    have L1 := loopOk K f ps c (ec (cp x)) a x rfl (by omega) (by omega) hw
    have L2 := loop2 K x gx (by omega) fun y hy => ⟨fun h => (hA y hy).1 K (by omega) 0 h, fun h => (hA y hy).2.1 K (by omega) 0 h, fun h => (hA y hy).2.2 K (by omega) 0 h⟩
    rw [El.av_eq (cp x)] at w2 w3 w4 w5
    rw [El.av_eq a] at w1 w2
    rw [El.av_eq x] at w4 w6 w7 w8
    have q1 : ¬ (50 < cnt x.core) := by omega
    have tl := tagO_len x.c x.k x.n
    have ol := lenO_len ((x.b ++ encs (El.cores x.s)).length : Int)
    have el : (enc x.core).length = (TG.tagO x.c x.k x.n).length + ((lenO ((x.b ++ encs (El.cores x.s)).length : Int)).length + (x.b.length + (encs (El.cores x.s)).length)) := by rw [enc_eq, List.length_append, List.length_append, List.length_append]
    have ce := cnt_eq x
    have de := dep_eq x
    have r1 := w64' ((x.b.length : Int) + (encs (El.cores x.s)).length + 2) (by omega) (by omega)
    have r2 := w64' ((x.b.length : Int) + (encs (El.cores x.s)).length + 9) (by omega) (by omega)
    have dp := gx.dep
    have d0 := deps_pos (El.cores x.s)
    have r3 := w64' (deps (El.cores x.s) + 1) (by omega) (by omega)
    have r4 : (x.b.length : Int) + (encs (El.cores x.s)).length + 2 ≤ (enc x.core).length := by omega
    have r5 : ((enc x.core).length : Int) ≤ (x.b.length : Int) + (encs (El.cores x.s)).length + 9 := by omega
    rw [ce] at w7
    rw [de] at w8
    refine ⟨K + 1, con_of E_fn5 (by simp [AV.pureL, AV.pure]) (Nat.le_of_ble_eq_true rfl) rfl rfl (g := []) ?_⟩
    rw [body_5, c5]
    simp [b5, lp, lps, c5, firstReg, S1, fin, bx, ec] at L1
    simp [b6, lp, lps, c5, firstReg, S2, bx, ec] at L2
    simp [↓s_seq, ↓s_reg, ↓s_cond, ↓s_block, ↓s_cons, ↓s_consG, s_nil, s_loop, firstReg, s_gt, s_wb, s_val, s_skip, s_calls, s_cax, s_ret, s_rgx, s_sqn, s_cdb, s_bke, s_ret', s_skip', s_finr, s_fin1, s_fix, s_clean, o_tmp, o_int, o_bool, l_hit, l_miss, ol_nil, ol_cons, ol_some, x_move, x_assign, x_pick, pk_t, pk_f, x_bin, bn_s, x_un, x_extract, x_callF, cl_no, x_callB, frame0, binA, intOp, resL, resA, results1, sealLW, AV.pure, AV.pureL, keepT, x_alloc, x_box, bxx, x_load, ldx, x_store, stx, x_fieldAddr, newK, genOf, setK, lookK, writeL, writeC, readC, conts, TyI.mk1, fieldAddrA, appendA, copyA, builtinA, AV.cells, gcH, reach, keysT, keepK, inKs, AV.keys, AV.keysL, Ty.isAgg, unA, sc_int, sc_bool, sc_sl, bs_length, sl_int, sl_bool, sl_sl, sl_agg, w1, w2, w3, w4, w5, w6, w7, w8, lv, L1, L2, long', q1, r1, r2, r3, r4, r5]
end E39

end
