/- Own work, no conditions. -/
import Derived.Test.YtbiildmljbcmeaaE16
import Derived.Test.YtbiildmljbcmeaaP5
import Derived.Test.YtbiildmljbcmeaaB40
section
/- The reference's Put at the evaluator: what it answers. No conditions. -/
open Ab Go TabE Sp E16
set_option maxRecDepth 20000
set_option linter.unusedSimpArgs false
set_option linter.unusedVariables false
set_option maxHeartbeats 8000000
namespace E17
theorem rlen (n : Int) (n0 : 0 ≤ n) (n1 : n ≤ 16777215) : ∃ c, Con E 20 77 [.int .i64 n] (.sl false (bs (lenO n)) c) := by
  unfold lenO
  split
  · exact ⟨_, P2.ref_1 n n0 (by omega)⟩
  split
  · exact ⟨_, P2.ref_2 n (by omega) (by omega)⟩
  split
  · exact ⟨_, P2.ref_3 n (by omega) (by omega)⟩
  · exact ⟨_, P2.ref_4 n (by omega) (by omega)⟩
abbrev Fin (e : El) (key : Key) (cap : Option Nat) (ex : Bool) (ys : List Int) : Option (AExit × St) := some (.exit 0, ⟨[(1, .ptr (1, 1, 0) 0), (3, .ref key 0 ys.length cap), (4, .int .i64 (e.s.length : Int)), (13, .bool false)], [((1, 1, 0), bx (ec e)), (key, ⟨bs ys, true, true, ex, 1, false⟩)]⟩)
theorem enc_ne (e : El) : enc e.core ≠ [] := by
  intro h
  have := congrArg List.length h
  rw [enc_eq, List.length_append] at this
  have t := tagO_len e.c e.k e.n
  simp only [List.length_nil] at this
  omega
theorem loop1 (K : Nat) (e : El) (le : e.s.length ≤ 9223372036854775807) (B : ∀ x ∈ e.s, ∃ c, ∀ h, aCall E K 0 35 [x.av] h = some (.ret (.sl false (bs (enc x.core)) c), h)) :
    ∀ (rest : List El) (i m : Nat) (ys : List Int) (k : Nat), e.s.drop i = rest → i + rest.length = e.s.length → ys.length + (encs (El.cores rest)).length ≤ 2000000 → rest.length < k →
      ∃ m', aLoop (aCode E (site fn35 (aRun E K)) (dcall (aRun E K)) K 1 fn35 b35) (cleanS 1 ((firstReg b35).bind fn35.head)) k (S e i (1, 23, m) none false ys) = Fin e (1, 23, m') none false (ys ++ encs (El.cores rest))
  | [], i, m, ys, k, h1, h2, hl, hk => by
    obtain ⟨k, rfl⟩ : ∃ j, k = j + 1 := ⟨k - 1, by simp at hk; omega⟩
    obtain rfl : i = e.s.length := by simpa using h2
    exact ⟨m, by rw [aLoop_end (last K K e _ none false ys (.inr (.inr ⟨m, rfl⟩))) (by simp)]; simp [El.cores, encs]⟩
  | x :: rest, i, m, ys, k, h1, h2, hl, hk => by
    obtain ⟨k, rfl⟩ : ∃ j, k = j + 1 := ⟨k - 1, by simp at hk; omega⟩
    have hx : e.s[i]? = some x := by
      have := congrArg (fun l => l[0]?) h1
      simpa [List.getElem?_drop] using this
    have hd : e.s.drop (i + 1) = rest := by
      have := congrArg List.tail h1
      simpa [List.tail_drop] using this
    obtain ⟨c, hB⟩ := B x (List.mem_of_getElem? hx)
    rw [El.cores, encs, List.length_append] at hl
    obtain ⟨m', h⟩ := loop1 K e le B rest (i + 1) (m + 1) (ys ++ enc x.core) k hd (by simp at h2; omega) (by rw [List.length_append]; omega) (by simp at hk; omega)
    refine ⟨m', ?_⟩
    rw [aLoop_succ (next K K e x i m (enc x.core) ys c hx le (by omega) hB), h, El.cores, encs, List.append_assoc]
theorem loop0 (K : Nat) (e : El) (le : e.s.length ≤ 9223372036854775807) (B : ∀ x ∈ e.s, ∃ c, ∀ h, aCall E K 0 35 [x.av] h = some (.ret (.sl false (bs (enc x.core)) c), h)) (hl : (encs (El.cores e.s)).length ≤ 2000000) (hk : e.s.length < K) :
      ∃ key cap ex, (key = (1, 5, 0) ∨ ∃ m, key = (1, 23, m)) ∧ aLoop (aCode E (site fn35 (aRun E K)) (dcall (aRun E K)) K 1 fn35 b35) (cleanS 1 ((firstReg b35).bind fn35.head)) K (S e 0 (1, 5, 0) (some 0) true []) = Fin e key cap ex (encs (El.cores e.s)) := by
  obtain ⟨k, rfl⟩ : ∃ j, K = j + 1 := ⟨K - 1, by omega⟩
  cases hs : e.s with
  | nil =>
    refine ⟨(1, 5, 0), some 0, true, .inl rfl, ?_⟩
    have := last (k + 1) (k + 1) e (1, 5, 0) (some 0) true [] (.inl rfl)
    have h0 : e.s.length = 0 := by rw [hs]; rfl
    rw [h0] at this
    rw [aLoop_end this (by simp)]
    simp [El.cores, encs, hs, Fin]
  | cons x rest =>
    have hx : e.s[0]? = some x := by rw [hs]; rfl
    obtain ⟨c, hB⟩ := B x (List.mem_of_getElem? hx)
    rw [hs, El.cores, encs, List.length_append] at hl
    obtain ⟨m', h⟩ := loop1 (k + 1) e le B rest 1 0 (enc x.core) k (by rw [hs]; rfl) (by rw [hs]; simp; omega) hl (by rw [hs] at hk; simp at hk; omega)
    refine ⟨(1, 23, m'), none, false, .inr ⟨m', rfl⟩, ?_⟩
    rw [aLoop_succ (first (k + 1) (k + 1) e x 0 (enc x.core) c hx le (enc_ne x) (by omega) hB), h, El.cores, encs]
theorem rput : ∀ e : El, e.ok → vld e.core → (enc e.core).length ≤ 1100000 → ∃ N, Con E N 35 [e.av] (.sl false (bs (enc e.core)) none) := by
  refine El.ind fun e ih he hv hl => ?_
  obtain ⟨v1, v2, v3, v4⟩ := (vld_eq e).1 hv
  obtain ⟨t3, n3⟩ : e.c ≤ 3 ∧ e.n ≤ 268435455 := by
    have := v1; unfold tagE at this
    split at this
    · cases this
    · omega
  have tl := tagO_len e.c e.k e.n
  have el := enc_eq e
  obtain ⟨ct, hct⟩ : ∃ ct, e.b ++ encs (El.cores e.s) = ct := ⟨_, rfl⟩
  rw [hct] at el
  have lel : (enc e.core).length = (TG.tagO e.c e.k e.n).length + ((lenO (ct.length : Int)).length + ct.length) := by rw [el, List.length_append, List.length_append]
  have lct : ct.length = e.b.length + (encs (El.cores e.s)).length := by rw [← hct, List.length_append]
  have sub_le : ∀ l : List El, ∀ x ∈ l, (enc x.core).length ≤ (encs (El.cores l)).length := by
    intro l
    induction l with
    | nil => intro x hx; cases hx
    | cons y l ih =>
      intro x hx
      rw [El.cores, encs, List.length_append]
      rcases List.mem_cons.1 hx with rfl | hx
      · omega
      · have := ih x hx; omega
  obtain ⟨N, hN⟩ := unif (P := fun (x : El) (n : Nat) => Con E n 35 [x.av] (.sl false (bs (enc x.core)) none)) (fun x n m h hm => h.mono hm) e.s (fun x hx => ih x hx (he.sub x hx) (vlds_all.1 v4 x hx) (by have := sub_le _ x hx; omega))
  obtain ⟨K, hK⟩ : ∃ K, N + e.s.length + 60 = K := ⟨_, rfl⟩
  obtain ⟨lc, LP⟩ := rlen (ct.length : Int) (by omega) (by omega)
  have LP' := LP K (by omega) 0
  have lo := lenO_len (ct.length : Int)
  have lo0 : lenO (ct.length : Int) ≠ [] := by intro q; rw [q] at lo; simp at lo
  -- the tag's octets, given
  obtain ⟨cap, ex, tg, G⟩ : ∃ cap ex, (cap = none ∧ ex = false ∨ cap = some (TG.tagO e.c e.k e.n).length ∧ ex = true) ∧ ∀ h, genOf h 1 26 = 0 → opened [false] false (aRun E K) 26 76 [.agg [.int .u8 e.c, .bool e.k, .int .u32 e.n]] h = some (.ret (.ref (1, 26, 0) 0 (TG.tagO e.c e.k e.n).length cap), setK h (1, 26, 0) ⟨bs (TG.tagO e.c e.k e.n), true, true, ex, 1, false⟩) := by
    by_cases h31 : e.n < 31
    · have e1 : (TG.tagO e.c e.k e.n).length = 1 := by unfold TG.tagO; rw [if_pos h31]; rfl
      refine ⟨some 1, true, .inr ⟨by rw [e1], rfl⟩, fun h hg => ?_⟩
      rw [e1]
      exact op_give (by decide) rfl (bs_kl _) (fun φ => rnL_pure _ (bs_pure _)) hg (E15.rtag_lo e.c e.k e.n he.cb.1 t3 he.nb.1 h31 K (by omega))
    · exact ⟨none, false, .inl ⟨rfl, rfl⟩, fun h hg => op_give (by decide) rfl (bs_kl _) (fun φ => rnL_pure _ (bs_pure _)) hg (E15.rtag_hi e.c e.k e.n he.cb.1 t3 (by omega) (by omega) K (by omega))⟩
  refine ⟨K + 1, con_ofO E_fn35 (by simp [AV.pureL, El.av_pure]) (Nat.le_of_ble_eq_true rfl) rfl (g := []) ?_⟩
  rw [body_35, c35, el]
  obtain ⟨t, ht⟩ : ∃ t, TG.tagO e.c e.k e.n = t := ⟨_, rfl⟩
  obtain ⟨lo2, hlo⟩ : ∃ lo2, lenO (ct.length : Int) = lo2 := ⟨_, rfl⟩
  rw [ht] at G tg tl lel ⊢
  rw [hlo] at LP' lel lo lo0 ⊢
  have f1 : ¬ (t.length + lo2.length ≤ t.length) := by omega
  have f2 : t.length + lo2.length ≤ 70368744177664 := by omega
  have f3 : t.length + (lo2.length + ct.length) ≤ 70368744177664 := by omega
  have f5 : t.length + lo2.length + ct.length ≤ 70368744177664 := by omega
  have kl : ∀ a b, AV.keysL (bs a ++ bs b) = [] := fun a b => by rw [← bs_append]; exact bs_kl _
  have f4 : e.b.length ≤ 70368744177664 := by omega
  have ls := El.avs_len e.s
  by_cases hb : e.b = []
  · have cte : ct = encs (El.cores e.s) := by rw [← hct, hb]; rfl
    obtain ⟨key, kc, kx, hkey, L⟩ := loop0 K e he.sl (fun x hx => ⟨none, fun h => hN x hx K (by omega) 0 h⟩) (by omega) (by omega)
    rw [← cte] at L
    simp [b35, lp, lps, c35, firstReg, S, ec, hb, bs_nil] at L
    rcases hkey with rfl | ⟨m, rfl⟩
    · rcases tg with ⟨rfl, rfl⟩ | ⟨rfl, rfl⟩ <;> simp [El.av_eq, ↓s_seq, ↓s_reg, ↓s_block, ↓s_cons, s_nil, s_loop, firstReg, s_val, s_cax, s_ret, s_rgx, s_sqn, s_bke, s_ret', s_finr, s_fin1, s_fix, s_clean, o_tmp, o_int, o_nil, l_hit, l_miss, ol_nil, ol_cons, ol_some, x_move, x_assign, x_callF, cl_no, x_callB, frame0, resL, resA, results1, sealLW, AV.pure, AV.pureL, keepT, x_box, bxx, x_buildSlice, bsx, x_load, ldx, x_fieldAddr, newK, genOf, setK, lookK, fillA, writeL, writeC, readC, conts, TyI.mk1, fieldAddrA, appendA, copyA, builtinA, AV.cells, gcH, reach, keysT, keepK, inKs, AV.keys, AV.keysL, Ty.isAgg, sc_int, sc_bool, sc_sl, sc_mem, bs_pure, bs_kl, bs_length, bs_cells, bs_all, sl_row, sealRow, sealY, sl_int, bs_nil, s_site, s_stxN, s_stxO, hb, G, LP', L, f1, f2, f3, ← bs_append, Nat.add_assoc]
    · rcases tg with ⟨rfl, rfl⟩ | ⟨rfl, rfl⟩ <;> simp [El.av_eq, ↓s_seq, ↓s_reg, ↓s_block, ↓s_cons, s_nil, s_loop, firstReg, s_val, s_cax, s_ret, s_rgx, s_sqn, s_bke, s_ret', s_finr, s_fin1, s_fix, s_clean, o_tmp, o_int, o_nil, l_hit, l_miss, ol_nil, ol_cons, ol_some, x_move, x_assign, x_callF, cl_no, x_callB, frame0, resL, resA, results1, sealLW, AV.pure, AV.pureL, keepT, x_box, bxx, x_buildSlice, bsx, x_load, ldx, x_fieldAddr, newK, genOf, setK, lookK, fillA, writeL, writeC, readC, conts, TyI.mk1, fieldAddrA, appendA, copyA, builtinA, AV.cells, gcH, reach, keysT, keepK, inKs, AV.keys, AV.keysL, Ty.isAgg, sc_int, sc_bool, sc_sl, sc_mem, bs_pure, bs_kl, bs_length, bs_cells, bs_all, sl_row, sealRow, sealY, sl_int, bs_nil, s_site, s_stxN, s_stxO, hb, G, LP', L, f1, f2, f3, ← bs_append, Nat.add_assoc]
  · have hk : e.k = false := by cases q : e.k; rfl; exact absurd (v2 q) hb
    have es : e.s = [] := v3 hk
    have cte : ct = e.b := by rw [← hct, es]; simp [El.cores, encs]
    obtain ⟨K', hK'⟩ : ∃ K', K = K' + 1 := ⟨K - 1, by omega⟩
    have L : aLoop (aCode E (site fn35 (aRun E K)) (dcall (aRun E K)) K 1 fn35 b35) (cleanS 1 ((firstReg b35).bind fn35.head)) K (S e e.s.length (1, 8, 0) none false e.b) = Fin e (1, 8, 0) none false e.b := by
      rw [hK']
      exact aLoop_end (last (K' + 1) (K' + 1) e (1, 8, 0) none false e.b (.inr (.inl rfl))) (by simp)
    have l0 : e.s.length = 0 := by rw [es]; rfl
    rw [cte] at LP' f3 f5 ⊢
    simp [b35, lp, lps, c35, firstReg, S, ec, l0] at L
    rcases tg with ⟨rfl, rfl⟩ | ⟨rfl, rfl⟩ <;> simp [El.av_eq, ↓s_seq, ↓s_reg, ↓s_block, ↓s_cons, s_nil, s_loop, firstReg, s_val, s_cax, s_ret, s_rgx, s_sqn, s_bke, s_ret', s_finr, s_fin1, s_fix, s_clean, o_tmp, o_int, o_nil, l_hit, l_miss, ol_nil, ol_cons, ol_some, x_move, x_assign, x_callF, cl_no, x_callB, frame0, resL, resA, results1, sealLW, AV.pure, AV.pureL, keepT, x_box, bxx, x_buildSlice, bsx, x_load, ldx, x_fieldAddr, newK, genOf, setK, lookK, fillA, writeL, writeC, readC, conts, TyI.mk1, fieldAddrA, appendA, copyA, builtinA, AV.cells, gcH, reach, keysT, keepK, inKs, AV.keys, AV.keysL, Ty.isAgg, sc_int, sc_bool, sc_sl, sc_mem, bs_pure, bs_kl, bs_length, bs_cells, bs_all, sl_row, sealRow, sealY, sl_int, s_site, s_stxN, s_stxO, hb, G, LP', L, f1, f2, f3, f4, ← bs_append, Nat.add_assoc]
end E17

end
section
/- Numbers of elements, levels and octets, in plain Lean. No conditions. -/
open Ab Go TabE Sp E13
set_option linter.unusedVariables false
set_option linter.unusedSimpArgs false
namespace Sp
mutual
def cnt : Cr → Int
  | .mk _ _ _ _ s => 1 + cnts s
def cnts : List Cr → Int
  | [] => 0
  | x :: r => cnt x + cnts r
end
theorem cnt_eq (e : El) : cnt e.core = 1 + cnts (El.cores e.s) := by rw [El.core_eq, cnt]
mutual
theorem cnt_pos : ∀ c : Cr, 1 ≤ cnt c
  | .mk _ _ _ _ s => by unfold cnt; have := cnts_pos s; omega
theorem cnts_pos : ∀ s : List Cr, 0 ≤ cnts s
  | [] => by unfold cnts; omega
  | x :: r => by unfold cnts; have := cnt_pos x; have := cnts_pos r; omega
end
mutual
theorem cnt_many : ∀ (c : Cr) (m : Int), 1 ≤ m → many c m ≤ m → cnt c = many c m
  | .mk _ _ _ _ s, m, h0, h => by
    unfold many at h ⊢
    rw [if_neg (by omega)] at h ⊢
    unfold cnt
    rw [cnts_many s m 1 (by omega) (by omega) h]
theorem cnts_many : ∀ (s : List Cr) (m n : Int), 1 ≤ n → n ≤ m → manys s m n ≤ m → n + cnts s = manys s m n
  | [], m, n, h0, h1, h => by unfold manys cnts; omega
  | x :: r, m, n, h0, h1, h => by
    unfold manys at h ⊢
    rw [if_pos h1] at h ⊢
    unfold cnts
    have b := many_le x (m - n)
    by_cases q : n + many x (m - n) ≤ m
    · have a := cnts_many r m (n + many x (m - n)) (by omega) q h
      have c := cnt_many x (m - n) (by omega) (by omega)
      omega
    · cases r with
      | nil => unfold manys at h; omega
      | cons y r => unfold manys at h; rw [if_neg q] at h; omega
end
mutual
theorem dep_cnt : ∀ c : Cr, dep c ≤ cnt c
  | .mk _ _ _ _ s => by unfold dep cnt; have := deps_cnt s; omega
theorem deps_cnt : ∀ s : List Cr, deps s ≤ cnts s
  | [] => by unfold deps cnts; omega
  | x :: r => by unfold deps cnts; have := dep_cnt x; have := deps_cnt r; have := cnt_pos x; have := cnts_pos r; omega
end
mutual
theorem chk_dep : ∀ (c : Cr) (d m l : Int), (chk c d m l).1 = 0 → (chk c d m l).2.2 = max l (d + dep c - 1) ∧ (chk c d m l).2.1 = m + cnt c ∧ d ≤ 16
  | .mk c k n b s, d, m, l, h => by
    unfold chk at h ⊢
    unfold dep cnt
    by_cases h1 : tagE c k n = 0
    case neg => rw [if_pos h1] at h; exact absurd h h1
    rw [if_neg (by simp [h1])] at h ⊢
    by_cases h2 : (k = true ∧ b ≠ []) ∨ (k = false ∧ s ≠ [])
    · rw [if_pos h2] at h; cases h
    rw [if_neg h2] at h ⊢
    by_cases h3 : 16 < d
    · rw [if_pos h3] at h; cases h
    rw [if_neg h3] at h ⊢
    by_cases h4 : m = 8192
    · rw [if_pos h4] at h; cases h
    rw [if_neg h4] at h ⊢
    have dp := deps_pos s
    have := chks_dep s (d + 1) (m + 1) (max l d) (by omega) h
    omega
theorem chks_dep : ∀ (s : List Cr) (d m l : Int), d - 1 ≤ l → (chks s d m l).1 = 0 → (chks s d m l).2.2 = max l (d + deps s - 1) ∧ (chks s d m l).2.1 = m + cnts s
  | [], d, m, l, hl, _ => by unfold chks deps cnts; simp only; omega
  | x :: r, d, m, l, hl, h => by
    unfold chks at h ⊢
    unfold deps cnts
    by_cases h1 : (chk x d m l).1 = 0
    · rw [if_neg (by simp [h1])] at h ⊢
      have a := chk_dep x d m l h1
      have b := chks_dep r d _ _ (by omega) h
      have := dep_pos x
      have := deps_pos r
      omega
    · rw [if_pos h1] at h; exact absurd h h1
end
end Sp
namespace E18
inductive Fw (B : Nat) : El → Prop
  | mk (e : El) : e.b.length ≤ B → (∀ x ∈ e.s, Fw B x) → Fw B e
theorem fw_bd : ∀ e : El, Bd e → Fw 200 e := by
  refine El.ind fun e ih h => ?_
  obtain ⟨_, h1, h2, _⟩ := h
  exact .mk e h1 fun x hx => ih x hx (h2 x hx)
theorem fw_len {B : Nat} : ∀ e : El, Fw B e → ((enc e.core).length : Int) ≤ (B + 9) * cnt e.core := by
  refine El.ind fun e ih h => ?_
  obtain ⟨_, h1, h2⟩ := h
  rw [enc_eq, cnt_eq, List.length_append, List.length_append, List.length_append]
  have tl := tagO_len e.c e.k e.n
  have ll := lenO_len ((e.b ++ encs (El.cores e.s)).length : Int)
  have key : ∀ l : List El, (∀ x ∈ l, ((enc x.core).length : Int) ≤ (B + 9) * cnt x.core) → ((encs (El.cores l)).length : Int) ≤ (B + 9) * cnts (El.cores l) := by
    intro l
    induction l with
    | nil => intro _; simp [El.cores, encs, cnts]
    | cons y l ih =>
      intro q
      rw [El.cores, encs, cnts, List.length_append, Int.mul_add]
      have a := q y (by simp)
      have b := ih fun x hx => q x (by simp [hx])
      omega
  have k := key e.s fun x hx => ih x hx (h2 x hx)
  rw [Int.mul_add, Int.mul_one]
  rw [List.length_append] at ll
  omega
theorem fw_sm {B : Nat} (hB : B ≤ 1000000000) : ∀ e : El, Fw B e → cnt e.core ≤ 1000000000 → e.sm := by
  refine El.ind fun e ih h hc => ?_
  obtain ⟨_, h1, h2⟩ := h
  rw [cnt_eq] at hc
  have key : ∀ l : List El, (l.length : Int) ≤ cnts (El.cores l) ∧ ∀ x ∈ l, cnt x.core ≤ cnts (El.cores l) := by
    intro l
    induction l with
    | nil => simp [El.cores, cnts]
    | cons y l ih =>
      rw [El.cores, cnts]
      have := cnt_pos y.core
      have := cnts_pos (El.cores l)
      refine ⟨by rw [List.length_cons]; omega, fun x hx => ?_⟩
      rcases List.mem_cons.1 hx with rfl | hx
      · omega
      · have := ih.2 x hx; omega
  obtain ⟨k1, k2⟩ := key e.s
  exact (El.sm_eq e).2 ⟨by omega, by omega, fun x hx => ih x hx (h2 x hx) (by have := k2 x hx; omega)⟩
end E18

end
section
/- law02's T.Of at the evaluator: a valid tag. No conditions. -/
open Ab Go TabE Sp
set_option maxRecDepth 20000
set_option linter.unusedSimpArgs false
set_option linter.unusedVariables false
set_option maxHeartbeats 8000000
namespace E20
def tn (c k n : Int) : Int := if tagE (c % 4) (decide (k % 2 = 1)) (n % 268435456) = 0 then n % 268435456 else 4
theorem tn_b (c k n : Int) (hn : 0 ≤ n) : 0 ≤ tn c k n ∧ tn c k n ≤ 268435455 := by unfold tn; split <;> omega
theorem tn_ok (c k n : Int) (hc : 0 ≤ c) (hn : 0 ≤ n) : tagE (c % 4) (decide (k % 2 = 1)) (tn c k n) = 0 := by
  unfold tn
  split
  · assumption
  · unfold tagE
    rw [if_neg (by omega), if_neg (by simp)]
theorem of (c k n : Int) (hc : 0 ≤ c ∧ c < 256) (hk : 0 ≤ k ∧ k < 256) (hn : 0 ≤ n ∧ n < 4294967296) : Con E 20 71 [.agg [.int .u8 c, .int .u8 k, .int .u32 n]] (.agg [.int .u8 (c % 4), .bool (decide (k % 2 = 1)), .int .u32 (tn c k n)]) := by
  have t := E2.ref_ok (c % 4) (decide (k % 2 = 1)) (n % 268435456) 19 (by omega) 0
  refine con_of E_fn71 rfl (Nat.le_of_ble_eq_true rfl) rfl rfl (g := []) ?_
  rw [body_71, c71]
  have t1 : Int.tmod c 4 = c % 4 := Int.tmod_eq_emod_of_nonneg hc.1
  have t2 : Int.tmod k 2 = k % 2 := Int.tmod_eq_emod_of_nonneg hk.1
  have t3 : Int.tmod n 268435456 = n % 268435456 := Int.tmod_eq_emod_of_nonneg hn.1
  unfold tn
  by_cases h : tagE (c % 4) (decide (k % 2 = 1)) (n % 268435456) = 0
  · simp [↓s_seq, ↓s_reg, ↓s_cond, ↓s_cons, s_nil, s_val, s_skip, s_calls, s_cax, s_ret, s_rgx, s_sqn, s_cdb, s_ret', s_skip', s_finr, s_fin1, s_fix, s_clean, o_tmp, o_int, l_hit, l_miss, ol_nil, ol_cons, ol_some, x_bin, bn_s, x_callF, cl_no, frame0, binA, intOp, resL, resA, results1, sealLW, AV.pure, AV.pureL, keepT, x_alloc, x_box, bxx, x_build, bdx, x_load, ldx, x_store, stx, x_fieldAddr, newK, genOf, setK, lookK, fillA, writeL, writeC, readC, TyI.mk1, fieldAddrA, AV.cells, gcH, reach, keysT, keepK, inKs, AV.keys, AV.keysL, Ty.isAgg, sc_int, sc_bool, sl_agg, i_beq, t, t1, t2, t3, h]
  · simp [↓s_seq, ↓s_reg, ↓s_cond, ↓s_cons, s_nil, s_val, s_skip, s_calls, s_cax, s_ret, s_rgx, s_sqn, s_cdb, s_ret', s_finr, s_fin1, s_fix, s_clean, o_tmp, o_int, l_hit, l_miss, ol_nil, ol_cons, ol_some, x_bin, bn_s, x_callF, cl_no, frame0, binA, intOp, resL, resA, results1, sealLW, AV.pure, AV.pureL, keepT, x_alloc, x_box, bxx, x_build, bdx, x_load, ldx, x_store, stx, x_fieldAddr, newK, genOf, setK, lookK, fillA, writeL, writeC, readC, TyI.mk1, fieldAddrA, AV.cells, gcH, reach, keysT, keepK, inKs, AV.keys, AV.keysL, Ty.isAgg, sc_int, sc_bool, sl_agg, i_beq, i_bne, t, t1, t2, t3, h]
end E20

end
section
/- The reference's Same at the evaluator. No conditions. -/
open Ab Go TabE
set_option maxRecDepth 20000
set_option linter.unusedSimpArgs false
set_option linter.unusedVariables false
set_option maxHeartbeats 8000000
namespace E1
def b24 : Code := lp c24 0
abbrev S (a b : El) (i : Nat) : St := ⟨[(2, .ptr (1, 2, 0) 0), (3, .ptr (1, 3, 0) 0), (5, .int .i64 (i : Int))], [((1, 2, 0), bx (ec a)), ((1, 3, 0), bx (ec b))]⟩
theorem round (q k1 : Nat) (a b x y : El) (i : Nat) (hx : a.s[i]? = some x) (hy : b.s[i]? = some y) (la : a.s.length ≤ 9223372036854775807) (B : ∀ h, aCall E q 0 24 [x.av, y.av] h = some (.ret (.bool true), h)) :
    aCode E (aCall E q) (dcall (aRun E q)) k1 1 fn24 b24 (cleanS 1 ((firstReg b24).bind fn24.head) (S a b i)) = some (.normal, S a b (i + 1)) := by
  have hi : i < a.s.length := (List.getElem?_eq_some_iff.1 hx).1
  have ix := El.at_ a.fs a.cs a.s i x hx
  have iy := El.at_ b.fs b.cs b.s i y hy
  have w := w64' ((i : Int) + 1) (by omega) (by omega)
  rw [El.av_eq, El.av_eq] at B
  have ln := El.avs_len a.s
  simp [b24, lp, lps, c24, ↓s_seq, ↓s_reg, ↓s_regd, ↓s_cond, ↓s_block, ↓s_cons, s_nil, firstReg, s_val, s_callP, s_ret, s_rgx, s_sqn, s_cdb, s_bkn, s_skip', s_clean, o_tmp, o_int, l_hit, l_miss, ol_nil, ol_cons, ol_some, x_move, x_assign, x_bin, bn_s, x_un, x_callF, cl_no, x_callB, binA, intOp, AV.pure, AV.pureL, keepT, x_load, ldx, x_fieldAddr, x_indexAddr, iax, newK, genOf, setK, lookK, writeL, writeC, readC, conts, TyI.mk1, fieldAddrA, appendA, copyA, builtinA, AV.cells, gcH, reach, keysT, keepK, inKs, AV.keys, AV.keysL, Ty.isAgg, unA, ix, iy, w, B, hi, ln]
theorem last (q k1 : Nat) (a b : El) :
    aCode E (aCall E q) (dcall (aRun E q)) k1 1 fn24 b24 (cleanS 1 ((firstReg b24).bind fn24.head) (S a b a.s.length)) = some (.exit 0, ⟨[(2, .ptr (1, 2, 0) 0), (3, .ptr (1, 3, 0) 0), (5, .int .i64 (a.s.length : Int)), (33, .bool false)], [((1, 2, 0), bx (ec a)), ((1, 3, 0), bx (ec b))]⟩) := by
  have ln := El.avs_len a.s
  simp [b24, lp, lps, c24, ↓s_seq, ↓s_reg, ↓s_cond, ↓s_cons, s_nil, firstReg, s_val, s_rgx, s_sqn, s_sqe, s_cdb, s_exit, s_clean, o_tmp, l_hit, l_miss, ol_nil, ol_cons, ol_some, x_move, x_bin, bn_s, x_callB, binA, intOp, keepT, x_load, ldx, x_fieldAddr, newK, genOf, setK, lookK, writeL, writeC, readC, conts, TyI.mk1, fieldAddrA, appendA, copyA, builtinA, AV.cells, gcH, reach, keysT, keepK, inKs, AV.keys, AV.keysL, Ty.isAgg, ln]
theorem same : ∀ a : El, ∀ b : El, a.ok → a.core = b.core → ∃ N, Con E N 24 [a.av, b.av] (.bool true) := by
  refine El.ind fun a ih b ha hc => ?_
  obtain ⟨e1, e2, e3, e4, e5⟩ := El.core_inj.1 hc
  have ll := El.cores_len e5
  obtain ⟨N, hN⟩ := unif (P := fun (i n : Nat) => ∀ x y : El, a.s[i]? = some x → b.s[i]? = some y → Con E n 24 [x.av, y.av] (.bool true)) (fun i n m h hm x y hx hy k hk => h x y hx hy k (Nat.le_trans hm hk)) (List.range a.s.length) (fun i hi => by
    have hi' : i < a.s.length := List.mem_range.1 hi
    obtain ⟨x, hx⟩ : ∃ x, a.s[i]? = some x := ⟨a.s[i], by simp⟩
    obtain ⟨y, hy⟩ : ∃ y, b.s[i]? = some y := ⟨b.s[i]'(by omega), List.getElem?_eq_getElem _⟩
    have mx := List.mem_of_getElem? hx
    obtain ⟨n, hn⟩ := ih x mx y (ha.sub x mx) (El.cores_get e5 hx hy)
    exact ⟨n, fun x' y' hx' hy' => by rw [hx] at hx'; rw [hy] at hy'; cases hx'; cases hy'; exact hn⟩)
  obtain ⟨K, hK⟩ : ∃ K, N + a.s.length + 10 = K := ⟨_, rfl⟩
  refine ⟨K + 1, .of (g := []) (by simp [AV.pureL, El.av_pure]) ?_⟩
  rw [aCall_fn rfl E_fn24 (by simp [AV.pureL, El.av_pure]) (Nat.le_of_ble_eq_true rfl) rfl rfl, body_24, c24]
  have L := loopR (f := aCode E (aCall E K) (dcall (aRun E K)) K 1 fn24 b24) (cl := cleanS 1 ((firstReg b24).bind fn24.head)) (k := K) (fun i => S a b i) a.s.length rfl (fun i hi => by
    obtain ⟨x, hx⟩ : ∃ x, a.s[i]? = some x := ⟨a.s[i], by simp⟩
    obtain ⟨y, hy⟩ : ∃ y, b.s[i]? = some y := ⟨b.s[i]'(by omega), List.getElem?_eq_getElem _⟩
    exact round K K a b x y i hx hy ha.sl fun h => hN i (List.mem_range.2 hi) x y hx hy K (by omega) 0 h) (last K K a b) (by simp) (by omega)
  simp [b24, lp, lps, c24, firstReg, S, bx, ec, ← e1, ← e2, ← e3, ← e4] at L
  have ga := bs_go ha.bb
  have la := El.avs_len a.s
  have lb := El.avs_len b.s
  simp [El.av_eq, ↓s_seq, ↓s_reg, ↓s_cond, ↓s_block, ↓s_cons, ↓s_consG, s_nil, s_loop, firstReg, s_gt, s_wb, s_val, s_rgx, s_sqn, s_cdb, s_bke, s_ret', s_skip', s_finr, s_fin1, s_fix, s_clean, o_tmp, o_int, o_bool, l_hit, l_miss, ol_nil, ol_cons, ol_some, x_move, x_assign, x_pick, pk_f, x_bin, bn_s, x_callB, x_conv, cvx, convA, frame0, binA, intOp, resL, resA, results1, AV.pure, keepT, x_box, bxx, x_load, ldx, x_fieldAddr, newK, genOf, setK, lookK, writeL, writeC, readC, conts, TyI.mk1, fieldAddrA, appendA, copyA, builtinA, AV.cells, gcH, reach, keysT, keepK, inKs, AV.keys, AV.keysL, Ty.isAgg, eq1, eqL, sc_int, sc_bool, sc_sl, bs_length, bs_cells, sl_bool, ← e1, ← e2, ← e3, ← e4, ← ll, ga, la, lb, L, fitZ]
end E1

end
section
/- Rows of elements, cell by cell. No conditions. -/
open Ab Go TabE Sp
set_option linter.unusedSimpArgs false
set_option linter.unusedVariables false
namespace Ab
namespace El
def fl : List El → List AV
  | [] => []
  | e :: r => ec e ++ fl r
theorem fl_app : ∀ a b, fl (a ++ b) = fl a ++ fl b
  | [], b => rfl
  | e :: a, b => by simp only [List.cons_append, fl, fl_app a b, List.append_assoc]
theorem fl_snoc (a : List El) (e : El) : fl (a ++ [e]) = fl a ++ [.int .u8 e.c, .bool e.k, .int .u32 e.n, .sl e.fb (bs e.b) e.cb, .sl e.fs (avs e.s) e.cs] := by rw [fl_app]; rfl
theorem fl_one (e : El) : fl [e] = [.int .u8 e.c, .bool e.k, .int .u32 e.n, .sl e.fb (bs e.b) e.cb, .sl e.fs (avs e.s) e.cs] := rfl
theorem fl_mk1 (c k n fb b cb fs s cs) : fl [El.mk c k n fb b cb fs s cs] = [.int .u8 c, .bool k, .int .u32 n, .sl fb (bs b) cb, .sl fs (avs s) cs] := rfl
theorem fl_mkS (a : List El) (c k n fb b cb fs s cs) : fl (a ++ [El.mk c k n fb b cb fs s cs]) = fl a ++ [.int .u8 c, .bool k, .int .u32 n, .sl fb (bs b) cb, .sl fs (avs s) cs] := by rw [fl_app]; rfl
theorem chk_bs (y : List Int) : chunk false 1 y.length (bs y) = bs y := by
  have := chunk_one (bs y)
  rwa [bs_len] at this
theorem fl_len : ∀ l, (fl l).length = l.length * 5
  | [] => rfl
  | e :: r => by simp only [fl, List.length_append, fl_len r, List.length_cons, ec]; simp; omega
theorem fl_pure : ∀ l, AV.pureL (fl l) = true
  | [] => rfl
  | e :: r => by simp only [fl, ec, List.cons_append, List.nil_append, AV.pureL, AV.pure, Bool.and_self, fl_pure r]
theorem fl_keys (l) : AV.keysL (fl l) = [] := AV.keysL_pure _ (fl_pure l)
theorem keysL_app : ∀ a b : List AV, AV.keysL (a ++ b) = AV.keysL a ++ AV.keysL b
  | [], b => rfl
  | x :: a, b => by simp only [List.cons_append, AV.keysL, keysL_app a b, List.append_assoc]
theorem fl_keysr (l) (r : List AV) : AV.keysL (fl l ++ r) = AV.keysL r := by rw [keysL_app, fl_keys]; rfl
theorem fl_keys2 (a b) : AV.keysL (fl a ++ fl b) = [] := by rw [← fl_app]; exact fl_keys _
theorem fl_drop : ∀ (k : Nat) (l : List El), (fl l).drop (k * 5) = fl (l.drop k)
  | 0, l => by simp
  | k + 1, [] => by simp [fl]
  | k + 1, e :: r => by
    have : (k + 1) * 5 = k * 5 + 5 := by omega
    rw [List.drop_succ_cons, ← fl_drop k r, this, fl]
    rfl
theorem fl_take : ∀ (k : Nat) (l : List El), (fl l).take (k * 5) = fl (l.take k)
  | 0, l => by simp [fl]
  | k + 1, [] => by simp [fl]
  | k + 1, e :: r => by
    have : (k + 1) * 5 = k * 5 + 5 := by omega
    rw [List.take_succ_cons]
    show (ec e ++ fl r).take _ = ec e ++ fl (r.take k)
    rw [← fl_take k r, this]
    rfl
theorem fl_chunk : ∀ (l : List El), chunk true 5 l.length (fl l) = avs l
  | [] => rfl
  | e :: r => by
    rw [List.length_cons, chunk, avs, av_eq, ← fl_chunk r]
    rfl
theorem fl_scal : ∀ l, (fl l).all AV.scal = true
  | [] => rfl
  | e :: r => by rw [fl, List.all_append, fl_scal r]; rfl
theorem fl_mem (l) : (∀ x ∈ fl l, x.scal = true) = True := by
  simp only [eq_iff_iff, iff_true]
  exact List.all_eq_true.1 (fl_scal l)
end El
end Ab

end
section
/- E.Of at the evaluator: a round. No conditions. -/
open Ab Go TabE Sp E20
set_option maxRecDepth 20000
set_option linter.unusedSimpArgs false
set_option linter.unusedVariables false
set_option maxHeartbeats 8000000
namespace E22
structure G where
  a : Int
  b : Int
  c : Int
  k : Int
  n : Int
  f : Bool
  x : List Int
  q : Option Nat
def G.av (g : G) : AV := .agg [.int .u8 g.a, .int .u8 g.b, .int .u8 g.c, .int .u8 g.k, .int .u32 g.n, .sl g.f (bs g.x) g.q]
def G.ok (g : G) : Prop := (0 ≤ g.a ∧ g.a < 256) ∧ (0 ≤ g.b ∧ g.b < 256) ∧ (0 ≤ g.c ∧ g.c < 256) ∧ (0 ≤ g.k ∧ g.k < 256) ∧ (0 ≤ g.n ∧ g.n < 4294967296) ∧ isB g.x ∧ g.x.length ≤ 9223372036854775807
def leaf (g : G) : El := .mk (g.c % 4) false (tn g.c 0 g.n) (decide (g.x = [])) (g.x.take 20) (if g.x = [] then some 0 else none) true [] (some 0)
def node (g : G) (k : Nat) (st : List El) : El := .mk (g.c % 4) true (tn g.c 1 g.n) true [] (some 0) (decide (k = 0)) (st.drop (st.length - k)) (if k = 0 then some 0 else none)
def b22 : Code := lp c22 0
abbrev Z : List AV := [.int .u8 0, .bool false, .int .u32 0, .sl true [] (some 0), .sl true [] (some 0)]
abbrev S0 (f : Bool) (gs : List AV) (q : Option Nat) (i : Nat) : St := ⟨[(1, .ptr (1, 1, 0) 0), (2, .ptr (1, 2, 0) 0), (3, .sl true [] (some 0)), (4, .int .i64 (i : Int))], [((1, 1, 0), bx [.sl f gs q]), ((1, 2, 0), bx Z)]⟩
abbrev S (f : Bool) (gs : List AV) (q : Option Nat) (key : Key) (st : List El) (i : Nat) : St := ⟨[(1, .ptr (1, 1, 0) 0), (2, .ptr (1, 2, 0) 0), (3, .ref key 0 st.length none), (4, .int .i64 (i : Int))], [((1, 1, 0), bx [.sl f gs q]), ((1, 2, 0), bx Z), (key, ⟨El.fl st, true, true, false, 5, true⟩)]⟩
theorem at_ (f q) (l : List G) (i : Nat) (g : G) (h : l[i]? = some g) : ∀ hp, indexAddrA E 38 (.sl f (l.map G.av) q) (.int .i64 i) hp = some (.pel [.int .u8 g.a, .int .u8 g.b, .int .u8 g.c, .int .u8 g.k, .int .u32 g.n, .sl g.f (bs g.x) g.q]) := by
  intro hp
  have hi : i < l.length := (List.getElem?_eq_some_iff.1 h).1
  unfold indexAddrA
  simp only [E_ty38, E_ty107]
  rw [if_pos ⟨by omega, by rw [List.length_map]; omega⟩]
  simp only [Int.toNat_natCast, List.getElem?_map, h, Option.map_some]
  rfl
theorem cut (f q) (x : List Int) (h : Heap) (lx : x.length ≤ 9223372036854775807) : sliceA E 22 (.sl f (bs x) q) none (some (.int .i64 (if (x.length : Int) < 20 then (x.length : Int) else 20))) none h = some (.sl f (bs (x.take 20)) q) := by
  obtain ⟨m, hm, h1, h2⟩ : ∃ m : Nat, (if (x.length : Int) < 20 then (x.length : Int) else 20) = m ∧ m ≤ x.length ∧ x.take m = x.take 20 := by
    by_cases h : x.length < 20
    · exact ⟨x.length, by rw [if_pos (by omega)], Nat.le_refl _, by rw [List.take_length, List.take_of_length_le (by omega)]⟩
    · exact ⟨20, by rw [if_neg (by omega)]; rfl, by omega, rfl⟩
  rw [hm]
  have t : (bs x).take m = bs (x.take 20) := by rw [← h2]; simp [bs, List.map_take]
  simp [sliceA, boundsA, fitsA, numA, boundsB, h1, t, bs_length]
theorem leaf0 (q0 k1 : Nat) (f q) (l : List G) (i : Nat) (g : G) (hg : g.ok) (hx : l[i]? = some g) (hi : i < 39) (ha : g.a % 3 = 0) (ll : l.length ≤ 9223372036854775807)
    (T : ∀ h, aCall E q0 0 71 [.agg [.int .u8 g.c, .int .u8 0, .int .u32 g.n]] h = some (.ret (.agg [.int .u8 (g.c % 4), .bool false, .int .u32 (tn g.c 0 g.n)]), h)) :
    rndO fn22 b22 q0 k1 (S0 f (l.map G.av) q i) = some (.normal, S f (l.map G.av) q (1, 49, 0) [leaf g] (i + 1)) := by
  have hl : i < l.length := (List.getElem?_eq_some_iff.1 hx).1
  have ix := at_ f q l i g hx
  have w := w64' ((i : Int) + 1) (by omega) (by omega)
  have m1 : Int.tmod g.a 3 = 0 := by rw [Int.tmod_eq_emod_of_nonneg hg.1.1]; exact ha
  have i39 : (i : Int) < 39 := by omega
  have lx := hg.2.2.2.2.2.2
  have sb := fun h => cut g.f g.q g.x h lx
  by_cases e : g.x = []
  · have lf : leaf g = .mk (g.c % 4) false (tn g.c 0 g.n) true [] (some 0) true [] (some 0) := by unfold leaf; rw [e]; simp
    simp [e, bs_nil] at sb
    rw [lf]
    simp [b22, lp, lps, c22, ↓s_seq, ↓s_reg, ↓s_regd, ↓s_cond, ↓s_block, ↓s_cons, ↓s_consG, s_nil, s_loop, s_round, s_lpn, s_lpe, s_lpr, firstReg, s_gt, s_gf, s_wb, s_wu, s_val, s_valN, s_skip, s_calls, s_callP, s_cax, lookR, flatR, pureKs, s_ret, s_rgx, s_sqn, s_sqr, s_sqe, s_cdb, s_bkn, s_bkr, s_bke, s_exit, s_ret', s_skip', s_finr, s_finn, s_fin1, s_fix, s_clean, s_gc0, o_tmp, o_int, o_bool, o_nil, o_str, o_fn, o_nil', l_hit, l_miss, l_nil, ol_nil, ol_cons, ol_some, x_move, x_assign, x_pick, pk_t, pk_f, x_bin, bn_s, x_un, x_extract, x_callF, cl_no, x_callB, x_callBF, frzV, x_conv, cvx, convA, frame0, binA, intOp, resL, resA, results1, sealLW, AV.pure, AV.pureL, keepT, x_alloc, x_box, bxx, x_build, bdx, x_buildSlice, bsx, x_buildSliceF, bsf, x_load, ldx, x_store, stx, x_slice, slx, x_fieldAddr, x_field, x_index, ixx, x_indexAddr, iax, x_makeSlice, msx, x_nilCheck, newK, genOf, setK, lookK, fillA, writeL, writeC, readC, conts, TyI.mk1, sliceA, boundsA, boundsB, fitsA, numA, indexAddrA, fieldAddrA, partA, fieldA, indexA, appendA, copyA, builtinA, AV.cells, chunk, gcH, reach, keysT, keepK, inKs, AV.keys, AV.keysL, Ty.isAgg, eq1, eqL, convA.go, ltI, w_u8, w_u32, w_u64, w_i64, w_fdiv, w_tdiv, w_tmod, IntKind.bits, unA, sc_int, sc_bool, sc_str, sc_sl, sc_ref, sc_ptr, sc_pel, sc_nilp, sc_fn, sc_nilf, sc_if, sc_nili, sc_agg, sc_tup, sc_mem, bs_pure, bs_kl, bs_length, bs_cells, bs_all, sl_row, sealRow, sealY, sl_int, sl_bool, sl_str, sl_sl, sl_nilp, sl_nilf, sl_nili, sl_pel, sl_agg, sl_tup, sl_fn, sl_if, nat_1, bs_cons, bs_nil, i_beq, i_bne, x_mkF, x_mkI, x_tassert, x_panic, s_pan, s_sqp, s_bkp, s_finp, s_fixp, s_lpp, s_rgp, s_retp, s_site, s_stxN, s_stxO, x_callT, clx, El.avs_len, ↓s_regD, s_dyn0, s_rgy, barOf, dynChk, footL, dynOK, disjK, keysOp, opVals, Op.operands, -indexAddrA, -sliceA, ix, w, hl, i39, m1, T, hi, sb, e, El.fl_mk1, El.chk_bs, El.avs]
  · have lf : leaf g = .mk (g.c % 4) false (tn g.c 0 g.n) false (g.x.take 20) none true [] (some 0) := by unfold leaf; simp [e]
    rw [lf]
    have e20 : (g.x.take 20).length ≤ 20 := by rw [List.length_take]; omega
    have z : (g.x.take 20).length ≠ 0 := by rw [List.length_take]; have : g.x.length ≠ 0 := fun h => e (List.length_eq_zero_iff.1 h); omega
    obtain ⟨y, hy⟩ : ∃ y, g.x.take 20 = y := ⟨_, rfl⟩
    rw [hy] at sb e20 z ⊢
    have z' : y ≠ [] := fun h => z (by rw [h]; rfl)
    have cp : y.length ≤ 70368744177664 := by omega
    simp [b22, lp, lps, c22, ↓s_seq, ↓s_reg, ↓s_regd, ↓s_cond, ↓s_block, ↓s_cons, ↓s_consG, s_nil, s_loop, s_round, s_lpn, s_lpe, s_lpr, firstReg, s_gt, s_gf, s_wb, s_wu, s_val, s_valN, s_skip, s_calls, s_callP, s_cax, lookR, flatR, pureKs, s_ret, s_rgx, s_sqn, s_sqr, s_sqe, s_cdb, s_bkn, s_bkr, s_bke, s_exit, s_ret', s_skip', s_finr, s_finn, s_fin1, s_fix, s_clean, s_gc0, o_tmp, o_int, o_bool, o_nil, o_str, o_fn, o_nil', l_hit, l_miss, l_nil, ol_nil, ol_cons, ol_some, x_move, x_assign, x_pick, pk_t, pk_f, x_bin, bn_s, x_un, x_extract, x_callF, cl_no, x_callB, x_callBF, frzV, x_conv, cvx, convA, frame0, binA, intOp, resL, resA, results1, sealLW, AV.pure, AV.pureL, keepT, x_alloc, x_box, bxx, x_build, bdx, x_buildSlice, bsx, x_buildSliceF, bsf, x_load, ldx, x_store, stx, x_slice, slx, x_fieldAddr, x_field, x_index, ixx, x_indexAddr, iax, x_makeSlice, msx, x_nilCheck, newK, genOf, setK, lookK, fillA, writeL, writeC, readC, conts, TyI.mk1, sliceA, boundsA, boundsB, fitsA, numA, indexAddrA, fieldAddrA, partA, fieldA, indexA, appendA, copyA, builtinA, AV.cells, chunk, gcH, reach, keysT, keepK, inKs, AV.keys, AV.keysL, Ty.isAgg, eq1, eqL, convA.go, ltI, w_u8, w_u32, w_u64, w_i64, w_fdiv, w_tdiv, w_tmod, IntKind.bits, unA, sc_int, sc_bool, sc_str, sc_sl, sc_ref, sc_ptr, sc_pel, sc_nilp, sc_fn, sc_nilf, sc_if, sc_nili, sc_agg, sc_tup, sc_mem, bs_pure, bs_kl, bs_length, bs_cells, bs_all, sl_row, sealRow, sealY, sl_int, sl_bool, sl_str, sl_sl, sl_nilp, sl_nilf, sl_nili, sl_pel, sl_agg, sl_tup, sl_fn, sl_if, nat_1, bs_cons, bs_nil, i_beq, i_bne, x_mkF, x_mkI, x_tassert, x_panic, s_pan, s_sqp, s_bkp, s_finp, s_fixp, s_lpp, s_rgp, s_retp, s_site, s_stxN, s_stxO, x_callT, clx, El.avs_len, ↓s_regD, s_dyn0, s_rgy, barOf, dynChk, footL, dynOK, disjK, keysOp, opVals, Op.operands, -indexAddrA, -sliceA, ix, w, hl, i39, m1, T, hi, sb, e, z, z', cp, El.fl_mk1, El.chk_bs, El.avs]
theorem leafR (key : Key) (st : List El) (hst : st.length ≤ 39) (hkey : ∃ m, key = (1, 49, m) ∨ key = (1, 92, m)) (q0 k1 : Nat) (f q) (l : List G) (i : Nat) (g : G) (hg : g.ok) (hx : l[i]? = some g) (hi : i < 39) (ha : g.a % 3 = 0) (ll : l.length ≤ 9223372036854775807)
    (T : ∀ h, aCall E q0 0 71 [.agg [.int .u8 g.c, .int .u8 0, .int .u32 g.n]] h = some (.ret (.agg [.int .u8 (g.c % 4), .bool false, .int .u32 (tn g.c 0 g.n)]), h)) :
    rndO fn22 b22 q0 k1 (S f (l.map G.av) q key st i) = some (.normal, S f (l.map G.av) q (1, 49, if key.2.1 = 49 then key.2.2 + 1 else 0) (st ++ [leaf g]) (i + 1)) := by
  have hl : i < l.length := (List.getElem?_eq_some_iff.1 hx).1
  have ix := at_ f q l i g hx
  have w := w64' ((i : Int) + 1) (by omega) (by omega)
  have m1 : Int.tmod g.a 3 = 0 := by rw [Int.tmod_eq_emod_of_nonneg hg.1.1]; exact ha
  have i39 : (i : Int) < 39 := by omega
  have lx := hg.2.2.2.2.2.2
  have sb := fun h => cut g.f g.q g.x h lx
  have cs5 : (st.length + 1) * 56 ≤ 70368744177664 := by omega
  have f1 := El.fl_len st
  have f2 := El.fl_keys st
  have f3 : (El.fl st).take (st.length * 5) = El.fl st := by rw [El.fl_take, List.take_length]
  have f4 := El.fl_pure st
  have f5 := El.fl_scal st
  by_cases e : g.x = []
  · have lf : leaf g = .mk (g.c % 4) false (tn g.c 0 g.n) true [] (some 0) true [] (some 0) := by unfold leaf; rw [e]; simp
    simp [e, bs_nil] at sb
    rw [lf]
    obtain ⟨m, rfl | rfl⟩ := hkey <;> simp [b22, lp, lps, c22, ↓s_seq, ↓s_reg, ↓s_regd, ↓s_cond, ↓s_block, ↓s_cons, ↓s_consG, s_nil, s_loop, s_round, s_lpn, s_lpe, s_lpr, firstReg, s_gt, s_gf, s_wb, s_wu, s_val, s_valN, s_skip, s_calls, s_callP, s_cax, lookR, flatR, pureKs, s_ret, s_rgx, s_sqn, s_sqr, s_sqe, s_cdb, s_bkn, s_bkr, s_bke, s_exit, s_ret', s_skip', s_finr, s_finn, s_fin1, s_fix, s_clean, s_gc0, o_tmp, o_int, o_bool, o_nil, o_str, o_fn, o_nil', l_hit, l_miss, l_nil, ol_nil, ol_cons, ol_some, x_move, x_assign, x_pick, pk_t, pk_f, x_bin, bn_s, x_un, x_extract, x_callF, cl_no, x_callB, x_callBF, frzV, x_conv, cvx, convA, frame0, binA, intOp, resL, resA, results1, sealLW, AV.pure, AV.pureL, keepT, x_alloc, x_box, bxx, x_build, bdx, x_buildSlice, bsx, x_buildSliceF, bsf, x_load, ldx, x_store, stx, x_slice, slx, x_fieldAddr, x_field, x_index, ixx, x_indexAddr, iax, x_makeSlice, msx, x_nilCheck, newK, genOf, setK, lookK, fillA, writeL, writeC, readC, conts, TyI.mk1, sliceA, boundsA, boundsB, fitsA, numA, indexAddrA, fieldAddrA, partA, fieldA, indexA, appendA, copyA, builtinA, AV.cells, chunk, gcH, reach, keysT, keepK, inKs, AV.keys, AV.keysL, Ty.isAgg, eq1, eqL, convA.go, ltI, w_u8, w_u32, w_u64, w_i64, w_fdiv, w_tdiv, w_tmod, IntKind.bits, unA, sc_int, sc_bool, sc_str, sc_sl, sc_ref, sc_ptr, sc_pel, sc_nilp, sc_fn, sc_nilf, sc_if, sc_nili, sc_agg, sc_tup, sc_mem, bs_pure, bs_kl, bs_length, bs_cells, bs_all, sl_row, sealRow, sealY, sl_int, sl_bool, sl_str, sl_sl, sl_nilp, sl_nilf, sl_nili, sl_pel, sl_agg, sl_tup, sl_fn, sl_if, nat_1, bs_cons, bs_nil, i_beq, i_bne, x_mkF, x_mkI, x_tassert, x_panic, s_pan, s_sqp, s_bkp, s_finp, s_fixp, s_lpp, s_rgp, s_retp, s_site, s_stxN, s_stxO, x_callT, clx, El.avs_len, ↓s_regD, s_dyn0, s_rgy, barOf, dynChk, footL, dynOK, disjK, keysOp, opVals, Op.operands, -indexAddrA, -sliceA, ix, w, hl, i39, m1, T, hi, sb, e, El.fl_mkS, El.chk_bs, f1, f2, f3, f4, f5, cs5, El.fl_keysr, El.avs]
  · have lf : leaf g = .mk (g.c % 4) false (tn g.c 0 g.n) false (g.x.take 20) none true [] (some 0) := by unfold leaf; simp [e]
    rw [lf]
    have e20 : (g.x.take 20).length ≤ 20 := by rw [List.length_take]; omega
    have z : (g.x.take 20).length ≠ 0 := by rw [List.length_take]; have : g.x.length ≠ 0 := fun h => e (List.length_eq_zero_iff.1 h); omega
    obtain ⟨y, hy⟩ : ∃ y, g.x.take 20 = y := ⟨_, rfl⟩
    rw [hy] at sb e20 z ⊢
    have z' : y ≠ [] := fun h => z (by rw [h]; rfl)
    have cp : y.length ≤ 70368744177664 := by omega
    obtain ⟨m, rfl | rfl⟩ := hkey <;> simp [b22, lp, lps, c22, ↓s_seq, ↓s_reg, ↓s_regd, ↓s_cond, ↓s_block, ↓s_cons, ↓s_consG, s_nil, s_loop, s_round, s_lpn, s_lpe, s_lpr, firstReg, s_gt, s_gf, s_wb, s_wu, s_val, s_valN, s_skip, s_calls, s_callP, s_cax, lookR, flatR, pureKs, s_ret, s_rgx, s_sqn, s_sqr, s_sqe, s_cdb, s_bkn, s_bkr, s_bke, s_exit, s_ret', s_skip', s_finr, s_finn, s_fin1, s_fix, s_clean, s_gc0, o_tmp, o_int, o_bool, o_nil, o_str, o_fn, o_nil', l_hit, l_miss, l_nil, ol_nil, ol_cons, ol_some, x_move, x_assign, x_pick, pk_t, pk_f, x_bin, bn_s, x_un, x_extract, x_callF, cl_no, x_callB, x_callBF, frzV, x_conv, cvx, convA, frame0, binA, intOp, resL, resA, results1, sealLW, AV.pure, AV.pureL, keepT, x_alloc, x_box, bxx, x_build, bdx, x_buildSlice, bsx, x_buildSliceF, bsf, x_load, ldx, x_store, stx, x_slice, slx, x_fieldAddr, x_field, x_index, ixx, x_indexAddr, iax, x_makeSlice, msx, x_nilCheck, newK, genOf, setK, lookK, fillA, writeL, writeC, readC, conts, TyI.mk1, sliceA, boundsA, boundsB, fitsA, numA, indexAddrA, fieldAddrA, partA, fieldA, indexA, appendA, copyA, builtinA, AV.cells, chunk, gcH, reach, keysT, keepK, inKs, AV.keys, AV.keysL, Ty.isAgg, eq1, eqL, convA.go, ltI, w_u8, w_u32, w_u64, w_i64, w_fdiv, w_tdiv, w_tmod, IntKind.bits, unA, sc_int, sc_bool, sc_str, sc_sl, sc_ref, sc_ptr, sc_pel, sc_nilp, sc_fn, sc_nilf, sc_if, sc_nili, sc_agg, sc_tup, sc_mem, bs_pure, bs_kl, bs_length, bs_cells, bs_all, sl_row, sealRow, sealY, sl_int, sl_bool, sl_str, sl_sl, sl_nilp, sl_nilf, sl_nili, sl_pel, sl_agg, sl_tup, sl_fn, sl_if, nat_1, bs_cons, bs_nil, i_beq, i_bne, x_mkF, x_mkI, x_tassert, x_panic, s_pan, s_sqp, s_bkp, s_finp, s_fixp, s_lpp, s_rgp, s_retp, s_site, s_stxN, s_stxO, x_callT, clx, El.avs_len, ↓s_regD, s_dyn0, s_rgy, barOf, dynChk, footL, dynOK, disjK, keysOp, opVals, Op.operands, -indexAddrA, -sliceA, ix, w, hl, i39, m1, T, hi, sb, e, z, z', cp, El.fl_mkS, El.chk_bs, f1, f2, f3, f4, f5, cs5, El.fl_keysr, El.avs]
end E22

end
section
/- E.Of at the evaluator: a round that lays elements together. No conditions. -/
open Ab Go TabE Sp E20 E22
set_option maxRecDepth 20000
set_option linter.unusedSimpArgs false
set_option linter.unusedVariables false
set_option maxHeartbeats 8000000
namespace E23
abbrev nd (g : G) (d : List El) : El := .mk (g.c % 4) true (tn g.c 1 g.n) true [] (some 0) (decide (d = [])) d (if d = [] then some 0 else none)
def kk (g : G) (n : Nat) : Nat := if g.a % 3 = 2 then n else min (g.b % 5).toNat n
theorem node0 (q0 k1 : Nat) (f q) (l : List G) (i : Nat) (g : G) (hg : g.ok) (hx : l[i]? = some g) (hi : i < 39) (ha : g.a % 3 ≠ 0) (ll : l.length ≤ 9223372036854775807)
    (T : ∀ h, aCall E q0 0 71 [.agg [.int .u8 g.c, .int .u8 1, .int .u32 g.n]] h = some (.ret (.agg [.int .u8 (g.c % 4), .bool true, .int .u32 (tn g.c 1 g.n)]), h))
    (D : ∀ h, aCall E q0 0 40 [(nd g []).av] h = some (.ret (.int .i64 1), h)) :
    rndO fn22 b22 q0 k1 (S0 f (l.map G.av) q i) = some (.normal, S f (l.map G.av) q (1, 92, 0) [nd g []] (i + 1)) := by
  have hl : i < l.length := (List.getElem?_eq_some_iff.1 hx).1
  have ix := at_ f q l i g hx
  have w := w64' ((i : Int) + 1) (by omega) (by omega)
  have m1 : ¬ Int.tmod g.a 3 = 0 := by rw [Int.tmod_eq_emod_of_nonneg hg.1.1]; exact ha
  have m2 : Int.tmod g.a 3 = g.a % 3 := Int.tmod_eq_emod_of_nonneg hg.1.1
  have m3 : Int.tmod g.b 5 = g.b % 5 := Int.tmod_eq_emod_of_nonneg hg.2.1.1
  have w5 := w64' (g.b % 5) (by omega) (by omega)
  have i39 : (i : Int) < 39 := by omega
  have mn : (if (0 : Int) < g.b % 5 then (0 : Int) else g.b % 5) = 0 := by split <;> omega
  rw [El.av_eq] at D
  simp [El.c, El.k, El.n, El.fb, El.b, El.cb, El.fs, El.s, El.cs, El.avs, bs_nil] at D
  by_cases h2 : g.a % 3 = 2
  · simp [b22, lp, lps, c22, ↓s_seq, ↓s_reg, ↓s_regd, ↓s_cond, ↓s_block, ↓s_cons, ↓s_consG, s_nil, s_loop, s_round, s_lpn, s_lpe, s_lpr, firstReg, s_gt, s_gf, s_wb, s_wu, s_val, s_valN, s_skip, s_calls, s_callP, s_cax, lookR, flatR, pureKs, s_ret, s_rgx, s_sqn, s_sqr, s_sqe, s_cdb, s_bkn, s_bkr, s_bke, s_exit, s_ret', s_skip', s_finr, s_finn, s_fin1, s_fix, s_clean, s_gc0, o_tmp, o_int, o_bool, o_nil, o_str, o_fn, o_nil', l_hit, l_miss, l_nil, ol_nil, ol_cons, ol_some, x_move, x_assign, x_pick, pk_t, pk_f, x_bin, bn_s, x_un, x_extract, x_callF, cl_no, x_callB, x_callBF, frzV, x_conv, cvx, convA, frame0, binA, intOp, resL, resA, results1, sealLW, AV.pure, AV.pureL, keepT, x_alloc, x_box, bxx, x_build, bdx, x_buildSlice, bsx, x_buildSliceF, bsf, x_load, ldx, x_store, stx, x_slice, slx, x_fieldAddr, x_field, x_index, ixx, x_indexAddr, iax, x_makeSlice, msx, x_nilCheck, newK, genOf, setK, lookK, fillA, writeL, writeC, readC, conts, TyI.mk1, sliceA, boundsA, boundsB, fitsA, numA, indexAddrA, fieldAddrA, partA, fieldA, indexA, appendA, copyA, builtinA, AV.cells, chunk, gcH, reach, keysT, keepK, inKs, AV.keys, AV.keysL, Ty.isAgg, eq1, eqL, convA.go, ltI, w_u8, w_u32, w_u64, w_i64, w_fdiv, w_tdiv, w_tmod, IntKind.bits, unA, sc_int, sc_bool, sc_str, sc_sl, sc_ref, sc_ptr, sc_pel, sc_nilp, sc_fn, sc_nilf, sc_if, sc_nili, sc_agg, sc_tup, sc_mem, bs_pure, bs_kl, bs_length, bs_cells, bs_all, sl_row, sealRow, sealY, sl_int, sl_bool, sl_str, sl_sl, sl_nilp, sl_nilf, sl_nili, sl_pel, sl_agg, sl_tup, sl_fn, sl_if, nat_1, bs_cons, bs_nil, i_beq, i_bne, x_mkF, x_mkI, x_tassert, x_panic, s_pan, s_sqp, s_bkp, s_finp, s_fixp, s_lpp, s_rgp, s_retp, s_site, s_stxN, s_stxO, x_callT, clx, El.avs_len, ↓s_regD, s_dyn0, s_rgy, barOf, dynChk, footL, dynOK, disjK, keysOp, opVals, Op.operands, Call.operands, -indexAddrA, ix, w, hl, i39, m2, m3, ha, h2, w5, mn, T, D, hi, El.fl_mk1, El.avs]
  · simp [b22, lp, lps, c22, ↓s_seq, ↓s_reg, ↓s_regd, ↓s_cond, ↓s_block, ↓s_cons, ↓s_consG, s_nil, s_loop, s_round, s_lpn, s_lpe, s_lpr, firstReg, s_gt, s_gf, s_wb, s_wu, s_val, s_valN, s_skip, s_calls, s_callP, s_cax, lookR, flatR, pureKs, s_ret, s_rgx, s_sqn, s_sqr, s_sqe, s_cdb, s_bkn, s_bkr, s_bke, s_exit, s_ret', s_skip', s_finr, s_finn, s_fin1, s_fix, s_clean, s_gc0, o_tmp, o_int, o_bool, o_nil, o_str, o_fn, o_nil', l_hit, l_miss, l_nil, ol_nil, ol_cons, ol_some, x_move, x_assign, x_pick, pk_t, pk_f, x_bin, bn_s, x_un, x_extract, x_callF, cl_no, x_callB, x_callBF, frzV, x_conv, cvx, convA, frame0, binA, intOp, resL, resA, results1, sealLW, AV.pure, AV.pureL, keepT, x_alloc, x_box, bxx, x_build, bdx, x_buildSlice, bsx, x_buildSliceF, bsf, x_load, ldx, x_store, stx, x_slice, slx, x_fieldAddr, x_field, x_index, ixx, x_indexAddr, iax, x_makeSlice, msx, x_nilCheck, newK, genOf, setK, lookK, fillA, writeL, writeC, readC, conts, TyI.mk1, sliceA, boundsA, boundsB, fitsA, numA, indexAddrA, fieldAddrA, partA, fieldA, indexA, appendA, copyA, builtinA, AV.cells, chunk, gcH, reach, keysT, keepK, inKs, AV.keys, AV.keysL, Ty.isAgg, eq1, eqL, convA.go, ltI, w_u8, w_u32, w_u64, w_i64, w_fdiv, w_tdiv, w_tmod, IntKind.bits, unA, sc_int, sc_bool, sc_str, sc_sl, sc_ref, sc_ptr, sc_pel, sc_nilp, sc_fn, sc_nilf, sc_if, sc_nili, sc_agg, sc_tup, sc_mem, bs_pure, bs_kl, bs_length, bs_cells, bs_all, sl_row, sealRow, sealY, sl_int, sl_bool, sl_str, sl_sl, sl_nilp, sl_nilf, sl_nili, sl_pel, sl_agg, sl_tup, sl_fn, sl_if, nat_1, bs_cons, bs_nil, i_beq, i_bne, x_mkF, x_mkI, x_tassert, x_panic, s_pan, s_sqp, s_bkp, s_finp, s_fixp, s_lpp, s_rgp, s_retp, s_site, s_stxN, s_stxO, x_callT, clx, El.avs_len, ↓s_regD, s_dyn0, s_rgy, barOf, dynChk, footL, dynOK, disjK, keysOp, opVals, Op.operands, Call.operands, -indexAddrA, ix, w, hl, i39, m2, m3, ha, h2, w5, mn, T, D, hi, El.fl_mk1, El.avs]
theorem nodeA (key : Key) (st : List El) (hst : st.length ≤ 39) (hne : st.length ≠ 0) (hkey : ∃ m, key = (1, 49, m) ∨ key = (1, 92, m)) (k p : Nat) (hkp : st.length = k + p) (hk : k = st.length)
    (q0 k1 : Nat) (f q) (l : List G) (i : Nat) (g : G) (hg : g.ok) (hx : l[i]? = some g) (hi : i < 39) (ha : g.a % 3 ≠ 0) (ll : l.length ≤ 9223372036854775807) (h2 : g.a % 3 = 2) (dd : Int)
    (T : ∀ h, aCall E q0 0 71 [.agg [.int .u8 g.c, .int .u8 1, .int .u32 g.n]] h = some (.ret (.agg [.int .u8 (g.c % 4), .bool true, .int .u32 (tn g.c 1 g.n)]), h))
    (D : ∀ h, aCall E q0 0 40 [(nd g (st.drop p)).av] h = some (.ret (.int .i64 dd), h)) :
    ∃ key', (∃ m, key' = (1, 49, m) ∨ key' = (1, 92, m)) ∧ rndO fn22 b22 q0 k1 (S f (l.map G.av) q key st i) = some (.normal, S f (l.map G.av) q key' (if dd < 15 then st.take p ++ [nd g (st.drop p)] else st) (i + 1)) := by
  have hl : i < l.length := (List.getElem?_eq_some_iff.1 hx).1
  have ix := at_ f q l i g hx
  have w := w64' ((i : Int) + 1) (by omega) (by omega)
  have m1 : ¬ Int.tmod g.a 3 = 0 := by rw [Int.tmod_eq_emod_of_nonneg hg.1.1]; exact ha
  have m2 : Int.tmod g.a 3 = g.a % 3 := Int.tmod_eq_emod_of_nonneg hg.1.1
  have m3 : Int.tmod g.b 5 = g.b % 5 := Int.tmod_eq_emod_of_nonneg hg.2.1.1
  have w5 := w64' (g.b % 5) (by omega) (by omega)
  have i39 : (i : Int) < 39 := by omega
  obtain rfl : p = 0 := by omega
  have kl : k = st.length := by omega
  have w2 : IntKind.i64.wrap ((st.length : Int) - (st.length : Int)) = 0 := by rw [Int.sub_self]; rfl
  have d0 : st.drop 0 = st := rfl
  have ne : st ≠ [] := fun h => hne (by rw [h]; rfl)
  rw [d0] at D ⊢
  rw [El.av_eq] at D
  simp [El.c, El.k, El.n, El.fb, El.b, El.cb, El.fs, El.s, El.cs, El.avs, bs_nil, ne] at D
  have f1 := El.fl_len st
  have f2 := El.fl_keys st
  have f3 : (El.fl st).take (st.length * 5) = El.fl st := by rw [El.fl_take, List.take_length]
  have f4 := El.fl_pure st
  have f5 := El.fl_scal st
  have f6 := El.fl_chunk st
  have cp : st.length * 56 ≤ 70368744177664 := by omega
  have ne2 : ¬ (0 = st.length) := fun h => hne h.symm
  have ne3 : ¬ (st.length ≤ 0) := by omega
  by_cases dp : dd < 15
  · rw [if_pos dp]
    refine ⟨(1, 92, if key.2.1 = 92 then key.2.2 + 1 else 0), ⟨_, .inr rfl⟩, ?_⟩
    obtain ⟨m, rfl | rfl⟩ := hkey <;> simp [b22, lp, lps, c22, ↓s_seq, ↓s_reg, ↓s_regd, ↓s_cond, ↓s_block, ↓s_cons, ↓s_consG, s_nil, s_loop, s_round, s_lpn, s_lpe, s_lpr, firstReg, s_gt, s_gf, s_wb, s_wu, s_val, s_valN, s_skip, s_calls, s_callP, s_cax, lookR, flatR, pureKs, s_ret, s_rgx, s_sqn, s_sqr, s_sqe, s_cdb, s_bkn, s_bkr, s_bke, s_exit, s_ret', s_skip', s_finr, s_finn, s_fin1, s_fix, s_clean, s_gc0, o_tmp, o_int, o_bool, o_nil, o_str, o_fn, o_nil', l_hit, l_miss, l_nil, ol_nil, ol_cons, ol_some, x_move, x_assign, x_pick, pk_t, pk_f, x_bin, bn_s, x_un, x_extract, x_callF, cl_no, x_callB, x_callBF, frzV, x_conv, cvx, convA, frame0, binA, intOp, resL, resA, results1, sealLW, AV.pure, AV.pureL, keepT, x_alloc, x_box, bxx, x_build, bdx, x_buildSlice, bsx, x_buildSliceF, bsf, x_load, ldx, x_store, stx, x_slice, slx, x_fieldAddr, x_field, x_index, ixx, x_indexAddr, iax, x_makeSlice, msx, x_nilCheck, newK, genOf, setK, lookK, fillA, writeL, writeC, readC, conts, TyI.mk1, sliceA, boundsA, boundsB, fitsA, numA, indexAddrA, fieldAddrA, partA, fieldA, indexA, appendA, copyA, builtinA, AV.cells, chunk, gcH, reach, keysT, keepK, inKs, AV.keys, AV.keysL, Ty.isAgg, eq1, eqL, convA.go, ltI, w_u8, w_u32, w_u64, w_i64, w_fdiv, w_tdiv, w_tmod, IntKind.bits, unA, sc_int, sc_bool, sc_str, sc_sl, sc_ref, sc_ptr, sc_pel, sc_nilp, sc_fn, sc_nilf, sc_if, sc_nili, sc_agg, sc_tup, sc_mem, bs_pure, bs_kl, bs_length, bs_cells, bs_all, sl_row, sealRow, sealY, sl_int, sl_bool, sl_str, sl_sl, sl_nilp, sl_nilf, sl_nili, sl_pel, sl_agg, sl_tup, sl_fn, sl_if, nat_1, bs_cons, bs_nil, i_beq, i_bne, x_mkF, x_mkI, x_tassert, x_panic, s_pan, s_sqp, s_bkp, s_finp, s_fixp, s_lpp, s_rgp, s_retp, s_site, s_stxN, s_stxO, x_callT, clx, El.avs_len, ↓s_regD, s_dyn0, s_rgy, barOf, dynChk, footL, dynOK, disjK, keysOp, opVals, Op.operands, Call.operands, -indexAddrA, ix, w, hl, i39, m2, m3, ha, h2, w5, w2, T, D, hi, dp, ne, ne2, ne3, hne, f1, f2, f3, f4, f5, f6, cp, El.fl_mk1, El.avs, El.fl_keysr, El.fl_mem]
  · rw [if_neg dp]
    refine ⟨key, hkey, ?_⟩
    obtain ⟨m, rfl | rfl⟩ := hkey <;> simp [b22, lp, lps, c22, ↓s_seq, ↓s_reg, ↓s_regd, ↓s_cond, ↓s_block, ↓s_cons, ↓s_consG, s_nil, s_loop, s_round, s_lpn, s_lpe, s_lpr, firstReg, s_gt, s_gf, s_wb, s_wu, s_val, s_valN, s_skip, s_calls, s_callP, s_cax, lookR, flatR, pureKs, s_ret, s_rgx, s_sqn, s_sqr, s_sqe, s_cdb, s_bkn, s_bkr, s_bke, s_exit, s_ret', s_skip', s_finr, s_finn, s_fin1, s_fix, s_clean, s_gc0, o_tmp, o_int, o_bool, o_nil, o_str, o_fn, o_nil', l_hit, l_miss, l_nil, ol_nil, ol_cons, ol_some, x_move, x_assign, x_pick, pk_t, pk_f, x_bin, bn_s, x_un, x_extract, x_callF, cl_no, x_callB, x_callBF, frzV, x_conv, cvx, convA, frame0, binA, intOp, resL, resA, results1, sealLW, AV.pure, AV.pureL, keepT, x_alloc, x_box, bxx, x_build, bdx, x_buildSlice, bsx, x_buildSliceF, bsf, x_load, ldx, x_store, stx, x_slice, slx, x_fieldAddr, x_field, x_index, ixx, x_indexAddr, iax, x_makeSlice, msx, x_nilCheck, newK, genOf, setK, lookK, fillA, writeL, writeC, readC, conts, TyI.mk1, sliceA, boundsA, boundsB, fitsA, numA, indexAddrA, fieldAddrA, partA, fieldA, indexA, appendA, copyA, builtinA, AV.cells, chunk, gcH, reach, keysT, keepK, inKs, AV.keys, AV.keysL, Ty.isAgg, eq1, eqL, convA.go, ltI, w_u8, w_u32, w_u64, w_i64, w_fdiv, w_tdiv, w_tmod, IntKind.bits, unA, sc_int, sc_bool, sc_str, sc_sl, sc_ref, sc_ptr, sc_pel, sc_nilp, sc_fn, sc_nilf, sc_if, sc_nili, sc_agg, sc_tup, sc_mem, bs_pure, bs_kl, bs_length, bs_cells, bs_all, sl_row, sealRow, sealY, sl_int, sl_bool, sl_str, sl_sl, sl_nilp, sl_nilf, sl_nili, sl_pel, sl_agg, sl_tup, sl_fn, sl_if, nat_1, bs_cons, bs_nil, i_beq, i_bne, x_mkF, x_mkI, x_tassert, x_panic, s_pan, s_sqp, s_bkp, s_finp, s_fixp, s_lpp, s_rgp, s_retp, s_site, s_stxN, s_stxO, x_callT, clx, El.avs_len, ↓s_regD, s_dyn0, s_rgy, barOf, dynChk, footL, dynOK, disjK, keysOp, opVals, Op.operands, Call.operands, -indexAddrA, ix, w, hl, i39, m2, m3, ha, h2, w5, w2, T, D, hi, dp, ne, ne2, ne3, hne, f1, f2, f3, f4, f5, f6, cp, El.fl_mk1, El.avs, El.fl_keysr, El.fl_mem]

end E23

end
section
/- E.Of at the evaluator: the rounds that take as many as a number says. Printed by gen24.py. No conditions. -/
open Ab Go TabE Sp E20 E22 E23
set_option maxRecDepth 20000
set_option linter.unusedSimpArgs false
set_option linter.unusedVariables false
set_option maxHeartbeats 8000000
namespace E25
theorem nodeD (key : Key) (st : List El) (hst : st.length ≤ 39) (hne : st.length ≠ 0) (hkey : ∃ m, key = (1, 49, m) ∨ key = (1, 92, m)) (k p : Nat) (hkp : st.length = k + p) (hk : 0 < k ∧ 0 < p)
    (q0 k1 : Nat) (f q) (l : List G) (i : Nat) (g : G) (hg : g.ok) (hx : l[i]? = some g) (hi : i < 39) (ha : g.a % 3 ≠ 0) (ll : l.length ≤ 9223372036854775807) (h2 : g.a % 3 ≠ 2 ∧ (if (st.length : Int) < g.b % 5 then (st.length : Int) else g.b % 5) = (k : Int)) (dd : Int)
    (T : ∀ h, aCall E q0 0 71 [.agg [.int .u8 g.c, .int .u8 1, .int .u32 g.n]] h = some (.ret (.agg [.int .u8 (g.c % 4), .bool true, .int .u32 (tn g.c 1 g.n)]), h))
    (D : ∀ h, aCall E q0 0 40 [(nd g (st.drop p)).av] h = some (.ret (.int .i64 dd), h)) :
    ∃ key', (∃ m, key' = (1, 49, m) ∨ key' = (1, 92, m)) ∧ rndO fn22 b22 q0 k1 (S f (l.map G.av) q key st i) = some (.normal, S f (l.map G.av) q key' (if dd < 15 then st.take p ++ [nd g (st.drop p)] else st) (i + 1)) := by
  have hl : i < l.length := (List.getElem?_eq_some_iff.1 hx).1
  have ix := at_ f q l i g hx
  have w := w64' ((i : Int) + 1) (by omega) (by omega)
  have m2 : Int.tmod g.a 3 = g.a % 3 := Int.tmod_eq_emod_of_nonneg hg.1.1
  have m3 : Int.tmod g.b 5 = g.b % 5 := Int.tmod_eq_emod_of_nonneg hg.2.1.1
  have w5 := w64' (g.b % 5) (by omega) (by omega)
  have i39 : (i : Int) < 39 := by omega
  have ne : st ≠ [] := fun h => hne (by rw [h]; rfl)
  have cp : st.length * 56 ≤ 70368744177664 := by omega
  obtain ⟨a, ha'⟩ : ∃ a, st.take p = a := ⟨_, rfl⟩
  obtain ⟨d, hd⟩ : ∃ d, st.drop p = d := ⟨_, rfl⟩
  have la : a.length = p := by rw [← ha', List.length_take]; omega
  have ld : d.length = k := by rw [← hd, List.length_drop]; omega
  rw [hd] at D ⊢
  rw [ha']
  have w2 : IntKind.i64.wrap ((st.length : Int) - (k : Int)) = (p : Int) := by rw [w64' _ (by omega) (by omega)]; omega
  have f1 := El.fl_len st
  have f2 := El.fl_keys st
  have fa := El.fl_len a
  have fd := El.fl_len d
  have f3 : (El.fl st).take (p * 5) = El.fl a := by rw [El.fl_take, ha']
  have f7 : (El.fl st).drop (p * 5) = El.fl d := by rw [El.fl_drop, hd]
  have fk : st.length - p = k := by omega
  have f8 : (El.fl d).take (k * 5) = El.fl d := by rw [← ld, El.fl_take, List.take_length]
  have f9 : (El.fl a).take (p * 5) = El.fl a := by rw [← la, El.fl_take, List.take_length]
  have fa2 := El.fl_keys a
  have fd2 := El.fl_keys d
  have f4 := El.fl_pure d
  have f6 : chunk true 5 k (El.fl d) = El.avs d := by rw [← ld]; exact El.fl_chunk d
  have cp1 : k * 56 ≤ 70368744177664 := by omega
  have cp2 : p * 56 ≤ 70368744177664 := by omega
  have cp3 : (p + 1) * 56 ≤ 70368744177664 := by omega
  have g1 : p * 5 + k * 5 = st.length * 5 := by omega
  have g2 : ¬ (k = 0) := by omega
  have g3 : ¬ (p = 0) := by omega
  have g4 : ¬ (st.length = p) := by omega
  have g5 : p ≤ st.length := by omega
  have g6 : ¬ (k ≤ 0) := by omega
  have g7 : ¬ (p ≤ 0) := by omega
  have g8 : p * 5 ≤ st.length * 5 := by omega
  have dne : d ≠ [] := fun h => g2 (by rw [← ld, h]; rfl)
  rw [El.av_eq] at D
  simp [El.c, El.k, El.n, El.fb, El.b, El.cb, El.fs, El.s, El.cs, El.avs, bs_nil, dne] at D
  by_cases dp : dd < 15
  · rw [if_pos dp]
    refine ⟨(1, 92, if key.2.1 = 92 then key.2.2 + 1 else 0), ⟨_, .inr rfl⟩, ?_⟩
    obtain ⟨m, rfl | rfl⟩ := hkey <;> simp [b22, lp, lps, c22, ↓s_seq, ↓s_reg, ↓s_regd, ↓s_cond, ↓s_block, ↓s_cons, ↓s_consG, s_nil, s_loop, s_round, s_lpn, s_lpe, s_lpr, firstReg, s_gt, s_gf, s_wb, s_wu, s_val, s_valN, s_skip, s_calls, s_callP, s_cax, lookR, flatR, pureKs, s_ret, s_rgx, s_sqn, s_sqr, s_sqe, s_cdb, s_bkn, s_bkr, s_bke, s_exit, s_ret', s_skip', s_finr, s_finn, s_fin1, s_fix, s_clean, s_gc0, o_tmp, o_int, o_bool, o_nil, o_str, o_fn, o_nil', l_hit, l_miss, l_nil, ol_nil, ol_cons, ol_some, x_move, x_assign, x_pick, pk_t, pk_f, x_bin, bn_s, x_un, x_extract, x_callF, cl_no, x_callB, x_callBF, frzV, x_conv, cvx, convA, frame0, binA, intOp, resL, resA, results1, sealLW, AV.pure, AV.pureL, keepT, x_alloc, x_box, bxx, x_build, bdx, x_buildSlice, bsx, x_buildSliceF, bsf, x_load, ldx, x_store, stx, x_slice, slx, x_fieldAddr, x_field, x_index, ixx, x_indexAddr, iax, x_makeSlice, msx, x_nilCheck, newK, genOf, setK, lookK, fillA, writeL, writeC, readC, conts, TyI.mk1, sliceA, boundsA, boundsB, fitsA, numA, indexAddrA, fieldAddrA, partA, fieldA, indexA, appendA, copyA, builtinA, AV.cells, chunk, gcH, reach, keysT, keepK, inKs, AV.keys, AV.keysL, Ty.isAgg, eq1, eqL, convA.go, ltI, w_u8, w_u32, w_u64, w_i64, w_fdiv, w_tdiv, w_tmod, IntKind.bits, unA, sc_int, sc_bool, sc_str, sc_sl, sc_ref, sc_ptr, sc_pel, sc_nilp, sc_fn, sc_nilf, sc_if, sc_nili, sc_agg, sc_tup, sc_mem, bs_pure, bs_kl, bs_length, bs_cells, bs_all, sl_row, sealRow, sealY, sl_int, sl_bool, sl_str, sl_sl, sl_nilp, sl_nilf, sl_nili, sl_pel, sl_agg, sl_tup, sl_fn, sl_if, nat_1, bs_cons, bs_nil, i_beq, i_bne, x_mkF, x_mkI, x_tassert, x_panic, s_pan, s_sqp, s_bkp, s_finp, s_fixp, s_lpp, s_rgp, s_retp, s_site, s_stxN, s_stxO, x_callT, clx, El.avs_len, ↓s_regD, s_dyn0, s_rgy, barOf, dynChk, footL, dynOK, disjK, keysOp, opVals, Op.operands, Call.operands, -indexAddrA, ix, w, hl, i39, m2, m3, ha, h2.1, h2.2, w5, T, D, hi, dp, hne, El.avs, El.fl_keysr, El.fl_mem, w2, ne, f1, f2, f3, f4, f6, f7, f8, f9, fa, fd, fa2, fd2, fk, la, ld, cp1, cp2, cp3, g1, g2, g3, g4, g5, g6, g7, g8, dne, El.fl_mkS]
  · rw [if_neg dp]
    refine ⟨key, hkey, ?_⟩
    obtain ⟨m, rfl | rfl⟩ := hkey <;> simp [b22, lp, lps, c22, ↓s_seq, ↓s_reg, ↓s_regd, ↓s_cond, ↓s_block, ↓s_cons, ↓s_consG, s_nil, s_loop, s_round, s_lpn, s_lpe, s_lpr, firstReg, s_gt, s_gf, s_wb, s_wu, s_val, s_valN, s_skip, s_calls, s_callP, s_cax, lookR, flatR, pureKs, s_ret, s_rgx, s_sqn, s_sqr, s_sqe, s_cdb, s_bkn, s_bkr, s_bke, s_exit, s_ret', s_skip', s_finr, s_finn, s_fin1, s_fix, s_clean, s_gc0, o_tmp, o_int, o_bool, o_nil, o_str, o_fn, o_nil', l_hit, l_miss, l_nil, ol_nil, ol_cons, ol_some, x_move, x_assign, x_pick, pk_t, pk_f, x_bin, bn_s, x_un, x_extract, x_callF, cl_no, x_callB, x_callBF, frzV, x_conv, cvx, convA, frame0, binA, intOp, resL, resA, results1, sealLW, AV.pure, AV.pureL, keepT, x_alloc, x_box, bxx, x_build, bdx, x_buildSlice, bsx, x_buildSliceF, bsf, x_load, ldx, x_store, stx, x_slice, slx, x_fieldAddr, x_field, x_index, ixx, x_indexAddr, iax, x_makeSlice, msx, x_nilCheck, newK, genOf, setK, lookK, fillA, writeL, writeC, readC, conts, TyI.mk1, sliceA, boundsA, boundsB, fitsA, numA, indexAddrA, fieldAddrA, partA, fieldA, indexA, appendA, copyA, builtinA, AV.cells, chunk, gcH, reach, keysT, keepK, inKs, AV.keys, AV.keysL, Ty.isAgg, eq1, eqL, convA.go, ltI, w_u8, w_u32, w_u64, w_i64, w_fdiv, w_tdiv, w_tmod, IntKind.bits, unA, sc_int, sc_bool, sc_str, sc_sl, sc_ref, sc_ptr, sc_pel, sc_nilp, sc_fn, sc_nilf, sc_if, sc_nili, sc_agg, sc_tup, sc_mem, bs_pure, bs_kl, bs_length, bs_cells, bs_all, sl_row, sealRow, sealY, sl_int, sl_bool, sl_str, sl_sl, sl_nilp, sl_nilf, sl_nili, sl_pel, sl_agg, sl_tup, sl_fn, sl_if, nat_1, bs_cons, bs_nil, i_beq, i_bne, x_mkF, x_mkI, x_tassert, x_panic, s_pan, s_sqp, s_bkp, s_finp, s_fixp, s_lpp, s_rgp, s_retp, s_site, s_stxN, s_stxO, x_callT, clx, El.avs_len, ↓s_regD, s_dyn0, s_rgy, barOf, dynChk, footL, dynOK, disjK, keysOp, opVals, Op.operands, Call.operands, -indexAddrA, ix, w, hl, i39, m2, m3, ha, h2.1, h2.2, w5, T, D, hi, dp, hne, El.avs, El.fl_keysr, El.fl_mem, w2, ne, f1, f2, f3, f4, f6, f7, f8, f9, fa, fd, fa2, fd2, fk, la, ld, cp1, cp2, cp3, g1, g2, g3, g4, g5, g6, g7, g8, dne, El.fl_mkS]
end E25

end
section
/- E.Of at the evaluator: the rounds that take as many as a number says. Printed by gen24.py. No conditions. -/
open Ab Go TabE Sp E20 E22 E23
set_option maxRecDepth 20000
set_option linter.unusedSimpArgs false
set_option linter.unusedVariables false
set_option maxHeartbeats 8000000
namespace E24
theorem nodeB (key : Key) (st : List El) (hst : st.length ≤ 39) (hne : st.length ≠ 0) (hkey : ∃ m, key = (1, 49, m) ∨ key = (1, 92, m)) (k p : Nat) (hkp : st.length = k + p) (hk : k = st.length)
    (q0 k1 : Nat) (f q) (l : List G) (i : Nat) (g : G) (hg : g.ok) (hx : l[i]? = some g) (hi : i < 39) (ha : g.a % 3 ≠ 0) (ll : l.length ≤ 9223372036854775807) (h2 : g.a % 3 ≠ 2 ∧ (if (st.length : Int) < g.b % 5 then (st.length : Int) else g.b % 5) = (k : Int)) (dd : Int)
    (T : ∀ h, aCall E q0 0 71 [.agg [.int .u8 g.c, .int .u8 1, .int .u32 g.n]] h = some (.ret (.agg [.int .u8 (g.c % 4), .bool true, .int .u32 (tn g.c 1 g.n)]), h))
    (D : ∀ h, aCall E q0 0 40 [(nd g (st.drop p)).av] h = some (.ret (.int .i64 dd), h)) :
    ∃ key', (∃ m, key' = (1, 49, m) ∨ key' = (1, 92, m)) ∧ rndO fn22 b22 q0 k1 (S f (l.map G.av) q key st i) = some (.normal, S f (l.map G.av) q key' (if dd < 15 then st.take p ++ [nd g (st.drop p)] else st) (i + 1)) := by
  have hl : i < l.length := (List.getElem?_eq_some_iff.1 hx).1
  have ix := at_ f q l i g hx
  have w := w64' ((i : Int) + 1) (by omega) (by omega)
  have m2 : Int.tmod g.a 3 = g.a % 3 := Int.tmod_eq_emod_of_nonneg hg.1.1
  have m3 : Int.tmod g.b 5 = g.b % 5 := Int.tmod_eq_emod_of_nonneg hg.2.1.1
  have w5 := w64' (g.b % 5) (by omega) (by omega)
  have i39 : (i : Int) < 39 := by omega
  have ne : st ≠ [] := fun h => hne (by rw [h]; rfl)
  have cp : st.length * 56 ≤ 70368744177664 := by omega
  obtain rfl : p = 0 := by omega
  subst hk
  have w2 : IntKind.i64.wrap ((st.length : Int) - (st.length : Int)) = 0 := by rw [Int.sub_self]; rfl
  have d0 : st.drop 0 = st := rfl
  rw [d0] at D ⊢
  have f1 := El.fl_len st
  have f2 := El.fl_keys st
  have f3 : (El.fl st).take (st.length * 5) = El.fl st := by rw [El.fl_take, List.take_length]
  have f4 := El.fl_pure st
  have f6 := El.fl_chunk st
  have ne2 : ¬ (0 = st.length) := fun h => hne h.symm
  have ne3 : ¬ (st.length ≤ 0) := by omega
  rw [El.av_eq] at D
  simp [El.c, El.k, El.n, El.fb, El.b, El.cb, El.fs, El.s, El.cs, El.avs, bs_nil, ne] at D
  by_cases dp : dd < 15
  · rw [if_pos dp]
    refine ⟨(1, 92, if key.2.1 = 92 then key.2.2 + 1 else 0), ⟨_, .inr rfl⟩, ?_⟩
    obtain ⟨m, rfl | rfl⟩ := hkey <;> simp [b22, lp, lps, c22, ↓s_seq, ↓s_reg, ↓s_regd, ↓s_cond, ↓s_block, ↓s_cons, ↓s_consG, s_nil, s_loop, s_round, s_lpn, s_lpe, s_lpr, firstReg, s_gt, s_gf, s_wb, s_wu, s_val, s_valN, s_skip, s_calls, s_callP, s_cax, lookR, flatR, pureKs, s_ret, s_rgx, s_sqn, s_sqr, s_sqe, s_cdb, s_bkn, s_bkr, s_bke, s_exit, s_ret', s_skip', s_finr, s_finn, s_fin1, s_fix, s_clean, s_gc0, o_tmp, o_int, o_bool, o_nil, o_str, o_fn, o_nil', l_hit, l_miss, l_nil, ol_nil, ol_cons, ol_some, x_move, x_assign, x_pick, pk_t, pk_f, x_bin, bn_s, x_un, x_extract, x_callF, cl_no, x_callB, x_callBF, frzV, x_conv, cvx, convA, frame0, binA, intOp, resL, resA, results1, sealLW, AV.pure, AV.pureL, keepT, x_alloc, x_box, bxx, x_build, bdx, x_buildSlice, bsx, x_buildSliceF, bsf, x_load, ldx, x_store, stx, x_slice, slx, x_fieldAddr, x_field, x_index, ixx, x_indexAddr, iax, x_makeSlice, msx, x_nilCheck, newK, genOf, setK, lookK, fillA, writeL, writeC, readC, conts, TyI.mk1, sliceA, boundsA, boundsB, fitsA, numA, indexAddrA, fieldAddrA, partA, fieldA, indexA, appendA, copyA, builtinA, AV.cells, chunk, gcH, reach, keysT, keepK, inKs, AV.keys, AV.keysL, Ty.isAgg, eq1, eqL, convA.go, ltI, w_u8, w_u32, w_u64, w_i64, w_fdiv, w_tdiv, w_tmod, IntKind.bits, unA, sc_int, sc_bool, sc_str, sc_sl, sc_ref, sc_ptr, sc_pel, sc_nilp, sc_fn, sc_nilf, sc_if, sc_nili, sc_agg, sc_tup, sc_mem, bs_pure, bs_kl, bs_length, bs_cells, bs_all, sl_row, sealRow, sealY, sl_int, sl_bool, sl_str, sl_sl, sl_nilp, sl_nilf, sl_nili, sl_pel, sl_agg, sl_tup, sl_fn, sl_if, nat_1, bs_cons, bs_nil, i_beq, i_bne, x_mkF, x_mkI, x_tassert, x_panic, s_pan, s_sqp, s_bkp, s_finp, s_fixp, s_lpp, s_rgp, s_retp, s_site, s_stxN, s_stxO, x_callT, clx, El.avs_len, ↓s_regD, s_dyn0, s_rgy, barOf, dynChk, footL, dynOK, disjK, keysOp, opVals, Op.operands, Call.operands, -indexAddrA, ix, w, hl, i39, m2, m3, ha, h2.1, h2.2, w5, T, D, hi, dp, hne, El.avs, El.fl_keysr, El.fl_mem, w2, ne, ne2, ne3, f1, f2, f3, f4, f6, cp, El.fl_mk1]
  · rw [if_neg dp]
    refine ⟨key, hkey, ?_⟩
    obtain ⟨m, rfl | rfl⟩ := hkey <;> simp [b22, lp, lps, c22, ↓s_seq, ↓s_reg, ↓s_regd, ↓s_cond, ↓s_block, ↓s_cons, ↓s_consG, s_nil, s_loop, s_round, s_lpn, s_lpe, s_lpr, firstReg, s_gt, s_gf, s_wb, s_wu, s_val, s_valN, s_skip, s_calls, s_callP, s_cax, lookR, flatR, pureKs, s_ret, s_rgx, s_sqn, s_sqr, s_sqe, s_cdb, s_bkn, s_bkr, s_bke, s_exit, s_ret', s_skip', s_finr, s_finn, s_fin1, s_fix, s_clean, s_gc0, o_tmp, o_int, o_bool, o_nil, o_str, o_fn, o_nil', l_hit, l_miss, l_nil, ol_nil, ol_cons, ol_some, x_move, x_assign, x_pick, pk_t, pk_f, x_bin, bn_s, x_un, x_extract, x_callF, cl_no, x_callB, x_callBF, frzV, x_conv, cvx, convA, frame0, binA, intOp, resL, resA, results1, sealLW, AV.pure, AV.pureL, keepT, x_alloc, x_box, bxx, x_build, bdx, x_buildSlice, bsx, x_buildSliceF, bsf, x_load, ldx, x_store, stx, x_slice, slx, x_fieldAddr, x_field, x_index, ixx, x_indexAddr, iax, x_makeSlice, msx, x_nilCheck, newK, genOf, setK, lookK, fillA, writeL, writeC, readC, conts, TyI.mk1, sliceA, boundsA, boundsB, fitsA, numA, indexAddrA, fieldAddrA, partA, fieldA, indexA, appendA, copyA, builtinA, AV.cells, chunk, gcH, reach, keysT, keepK, inKs, AV.keys, AV.keysL, Ty.isAgg, eq1, eqL, convA.go, ltI, w_u8, w_u32, w_u64, w_i64, w_fdiv, w_tdiv, w_tmod, IntKind.bits, unA, sc_int, sc_bool, sc_str, sc_sl, sc_ref, sc_ptr, sc_pel, sc_nilp, sc_fn, sc_nilf, sc_if, sc_nili, sc_agg, sc_tup, sc_mem, bs_pure, bs_kl, bs_length, bs_cells, bs_all, sl_row, sealRow, sealY, sl_int, sl_bool, sl_str, sl_sl, sl_nilp, sl_nilf, sl_nili, sl_pel, sl_agg, sl_tup, sl_fn, sl_if, nat_1, bs_cons, bs_nil, i_beq, i_bne, x_mkF, x_mkI, x_tassert, x_panic, s_pan, s_sqp, s_bkp, s_finp, s_fixp, s_lpp, s_rgp, s_retp, s_site, s_stxN, s_stxO, x_callT, clx, El.avs_len, ↓s_regD, s_dyn0, s_rgy, barOf, dynChk, footL, dynOK, disjK, keysOp, opVals, Op.operands, Call.operands, -indexAddrA, ix, w, hl, i39, m2, m3, ha, h2.1, h2.2, w5, T, D, hi, dp, hne, El.avs, El.fl_keysr, El.fl_mem, w2, ne, ne2, ne3, f1, f2, f3, f4, f6, cp, El.fl_mk1]
theorem nodeC (key : Key) (st : List El) (hst : st.length ≤ 39) (hne : st.length ≠ 0) (hkey : ∃ m, key = (1, 49, m) ∨ key = (1, 92, m)) (k p : Nat) (hkp : st.length = k + p) (hk : k = 0)
    (q0 k1 : Nat) (f q) (l : List G) (i : Nat) (g : G) (hg : g.ok) (hx : l[i]? = some g) (hi : i < 39) (ha : g.a % 3 ≠ 0) (ll : l.length ≤ 9223372036854775807) (h2 : g.a % 3 ≠ 2 ∧ (if (st.length : Int) < g.b % 5 then (st.length : Int) else g.b % 5) = (k : Int)) (dd : Int)
    (T : ∀ h, aCall E q0 0 71 [.agg [.int .u8 g.c, .int .u8 1, .int .u32 g.n]] h = some (.ret (.agg [.int .u8 (g.c % 4), .bool true, .int .u32 (tn g.c 1 g.n)]), h))
    (D : ∀ h, aCall E q0 0 40 [(nd g (st.drop p)).av] h = some (.ret (.int .i64 dd), h)) :
    ∃ key', (∃ m, key' = (1, 49, m) ∨ key' = (1, 92, m)) ∧ rndO fn22 b22 q0 k1 (S f (l.map G.av) q key st i) = some (.normal, S f (l.map G.av) q key' (if dd < 15 then st.take p ++ [nd g (st.drop p)] else st) (i + 1)) := by
  have hl : i < l.length := (List.getElem?_eq_some_iff.1 hx).1
  have ix := at_ f q l i g hx
  have w := w64' ((i : Int) + 1) (by omega) (by omega)
  have m2 : Int.tmod g.a 3 = g.a % 3 := Int.tmod_eq_emod_of_nonneg hg.1.1
  have m3 : Int.tmod g.b 5 = g.b % 5 := Int.tmod_eq_emod_of_nonneg hg.2.1.1
  have w5 := w64' (g.b % 5) (by omega) (by omega)
  have i39 : (i : Int) < 39 := by omega
  have ne : st ≠ [] := fun h => hne (by rw [h]; rfl)
  have cp : st.length * 56 ≤ 70368744177664 := by omega
  obtain rfl : p = st.length := by omega
  subst hk
  have w2 := w64' (st.length : Int) (by omega) (by omega)
  have d0 : st.drop st.length = [] := List.drop_length
  have d1 : st.take st.length = st := List.take_length
  rw [d0] at D ⊢
  rw [d1]
  have f1 := El.fl_len st
  have f2 := El.fl_keys st
  have f3 : (El.fl st).take (st.length * 5) = El.fl st := by rw [El.fl_take, List.take_length]
  have f4 := El.fl_pure st
  have f6 := El.fl_chunk st
  have cp2 : (st.length + 1) * 56 ≤ 70368744177664 := by omega
  have ne2 : ¬ (0 = st.length) := fun h => hne h.symm
  have ne3 : ¬ (st.length ≤ 0) := by omega
  rw [El.av_eq] at D
  simp [El.c, El.k, El.n, El.fb, El.b, El.cb, El.fs, El.s, El.cs, El.avs, bs_nil] at D
  by_cases dp : dd < 15
  · rw [if_pos dp]
    refine ⟨(1, 92, if key.2.1 = 92 then key.2.2 + 1 else 0), ⟨_, .inr rfl⟩, ?_⟩
    obtain ⟨m, rfl | rfl⟩ := hkey <;> simp [b22, lp, lps, c22, ↓s_seq, ↓s_reg, ↓s_regd, ↓s_cond, ↓s_block, ↓s_cons, ↓s_consG, s_nil, s_loop, s_round, s_lpn, s_lpe, s_lpr, firstReg, s_gt, s_gf, s_wb, s_wu, s_val, s_valN, s_skip, s_calls, s_callP, s_cax, lookR, flatR, pureKs, s_ret, s_rgx, s_sqn, s_sqr, s_sqe, s_cdb, s_bkn, s_bkr, s_bke, s_exit, s_ret', s_skip', s_finr, s_finn, s_fin1, s_fix, s_clean, s_gc0, o_tmp, o_int, o_bool, o_nil, o_str, o_fn, o_nil', l_hit, l_miss, l_nil, ol_nil, ol_cons, ol_some, x_move, x_assign, x_pick, pk_t, pk_f, x_bin, bn_s, x_un, x_extract, x_callF, cl_no, x_callB, x_callBF, frzV, x_conv, cvx, convA, frame0, binA, intOp, resL, resA, results1, sealLW, AV.pure, AV.pureL, keepT, x_alloc, x_box, bxx, x_build, bdx, x_buildSlice, bsx, x_buildSliceF, bsf, x_load, ldx, x_store, stx, x_slice, slx, x_fieldAddr, x_field, x_index, ixx, x_indexAddr, iax, x_makeSlice, msx, x_nilCheck, newK, genOf, setK, lookK, fillA, writeL, writeC, readC, conts, TyI.mk1, sliceA, boundsA, boundsB, fitsA, numA, indexAddrA, fieldAddrA, partA, fieldA, indexA, appendA, copyA, builtinA, AV.cells, chunk, gcH, reach, keysT, keepK, inKs, AV.keys, AV.keysL, Ty.isAgg, eq1, eqL, convA.go, ltI, w_u8, w_u32, w_u64, w_i64, w_fdiv, w_tdiv, w_tmod, IntKind.bits, unA, sc_int, sc_bool, sc_str, sc_sl, sc_ref, sc_ptr, sc_pel, sc_nilp, sc_fn, sc_nilf, sc_if, sc_nili, sc_agg, sc_tup, sc_mem, bs_pure, bs_kl, bs_length, bs_cells, bs_all, sl_row, sealRow, sealY, sl_int, sl_bool, sl_str, sl_sl, sl_nilp, sl_nilf, sl_nili, sl_pel, sl_agg, sl_tup, sl_fn, sl_if, nat_1, bs_cons, bs_nil, i_beq, i_bne, x_mkF, x_mkI, x_tassert, x_panic, s_pan, s_sqp, s_bkp, s_finp, s_fixp, s_lpp, s_rgp, s_retp, s_site, s_stxN, s_stxO, x_callT, clx, El.avs_len, ↓s_regD, s_dyn0, s_rgy, barOf, dynChk, footL, dynOK, disjK, keysOp, opVals, Op.operands, Call.operands, -indexAddrA, ix, w, hl, i39, m2, m3, ha, h2.1, h2.2, w5, T, D, hi, dp, hne, El.avs, El.fl_keysr, El.fl_mem, w2, ne, ne2, ne3, f1, f2, f3, f4, f6, cp, cp2, El.fl_mkS]
  · rw [if_neg dp]
    refine ⟨key, hkey, ?_⟩
    obtain ⟨m, rfl | rfl⟩ := hkey <;> simp [b22, lp, lps, c22, ↓s_seq, ↓s_reg, ↓s_regd, ↓s_cond, ↓s_block, ↓s_cons, ↓s_consG, s_nil, s_loop, s_round, s_lpn, s_lpe, s_lpr, firstReg, s_gt, s_gf, s_wb, s_wu, s_val, s_valN, s_skip, s_calls, s_callP, s_cax, lookR, flatR, pureKs, s_ret, s_rgx, s_sqn, s_sqr, s_sqe, s_cdb, s_bkn, s_bkr, s_bke, s_exit, s_ret', s_skip', s_finr, s_finn, s_fin1, s_fix, s_clean, s_gc0, o_tmp, o_int, o_bool, o_nil, o_str, o_fn, o_nil', l_hit, l_miss, l_nil, ol_nil, ol_cons, ol_some, x_move, x_assign, x_pick, pk_t, pk_f, x_bin, bn_s, x_un, x_extract, x_callF, cl_no, x_callB, x_callBF, frzV, x_conv, cvx, convA, frame0, binA, intOp, resL, resA, results1, sealLW, AV.pure, AV.pureL, keepT, x_alloc, x_box, bxx, x_build, bdx, x_buildSlice, bsx, x_buildSliceF, bsf, x_load, ldx, x_store, stx, x_slice, slx, x_fieldAddr, x_field, x_index, ixx, x_indexAddr, iax, x_makeSlice, msx, x_nilCheck, newK, genOf, setK, lookK, fillA, writeL, writeC, readC, conts, TyI.mk1, sliceA, boundsA, boundsB, fitsA, numA, indexAddrA, fieldAddrA, partA, fieldA, indexA, appendA, copyA, builtinA, AV.cells, chunk, gcH, reach, keysT, keepK, inKs, AV.keys, AV.keysL, Ty.isAgg, eq1, eqL, convA.go, ltI, w_u8, w_u32, w_u64, w_i64, w_fdiv, w_tdiv, w_tmod, IntKind.bits, unA, sc_int, sc_bool, sc_str, sc_sl, sc_ref, sc_ptr, sc_pel, sc_nilp, sc_fn, sc_nilf, sc_if, sc_nili, sc_agg, sc_tup, sc_mem, bs_pure, bs_kl, bs_length, bs_cells, bs_all, sl_row, sealRow, sealY, sl_int, sl_bool, sl_str, sl_sl, sl_nilp, sl_nilf, sl_nili, sl_pel, sl_agg, sl_tup, sl_fn, sl_if, nat_1, bs_cons, bs_nil, i_beq, i_bne, x_mkF, x_mkI, x_tassert, x_panic, s_pan, s_sqp, s_bkp, s_finp, s_fixp, s_lpp, s_rgp, s_retp, s_site, s_stxN, s_stxO, x_callT, clx, El.avs_len, ↓s_regD, s_dyn0, s_rgy, barOf, dynChk, footL, dynOK, disjK, keysOp, opVals, Op.operands, Call.operands, -indexAddrA, ix, w, hl, i39, m2, m3, ha, h2.1, h2.2, w5, T, D, hi, dp, hne, El.avs, El.fl_keysr, El.fl_mem, w2, ne, ne2, ne3, f1, f2, f3, f4, f6, cp, cp2, El.fl_mkS]
end E24

end
section
/- The elements that E.Of builds, in plain Lean. No conditions. -/
open Ab Go TabE Sp E18 E20 E22 E23
set_option linter.unusedVariables false
set_option linter.unusedSimpArgs false
namespace Sp
mutual
theorem chk_of : ∀ (c : Cr) (d m l : Int), vld c → d + dep c ≤ 17 → m + cnt c ≤ 8192 → (chk c d m l).1 = 0
  | .mk c k n b s, d, m, l, hv, hd, hm => by
    unfold vld at hv
    unfold dep at hd
    unfold cnt at hm
    obtain ⟨h1, h2, h3, h4⟩ := hv
    have := deps_pos s
    have := cnts_pos s
    unfold chk
    rw [if_neg (by simp [h1]), if_neg (by
      intro h
      rcases h with ⟨a, b⟩ | ⟨a, b⟩
      · exact b (h2 a)
      · exact b (h3 a)), if_neg (by omega), if_neg (by omega)]
    exact chks_of s (d + 1) (m + 1) (max l d) h4 (by omega) (by omega)
theorem chks_of : ∀ (s : List Cr) (d m l : Int), vlds s → d + deps s ≤ 17 → m + cnts s ≤ 8192 → (chks s d m l).1 = 0
  | [], _, _, _, _, _, _ => rfl
  | x :: r, d, m, l, hv, hd, hm => by
    unfold vlds at hv
    unfold deps at hd
    unfold cnts at hm
    have := deps_pos r
    have := cnts_pos r
    have a := chk_of x d m l hv.1 (by omega) (by omega)
    unfold chks
    rw [if_neg (by simp [a])]
    have b := (chk_dep x d m l a).2.1
    exact chks_of r d _ _ hv.2 (by omega) (by rw [b]; omega)
end
theorem cnts_app (a b : List El) : cnts (El.cores (a ++ b)) = cnts (El.cores a) + cnts (El.cores b) := by
  induction a with
  | nil => simp [El.cores, cnts]
  | cons x a ih => simp only [List.cons_append, El.cores, cnts, ih]; omega
theorem cnts_len : ∀ a : List El, (a.length : Int) ≤ cnts (El.cores a)
  | [] => by simp [El.cores, cnts]
  | x :: a => by
    rw [El.cores, cnts, List.length_cons]
    have := cnt_pos x.core
    have := cnts_len a
    omega
theorem deps_le {m : Int} (h0 : 0 ≤ m) : ∀ a : List El, (∀ x ∈ a, dep x.core ≤ m) → deps (El.cores a) ≤ m
  | [], _ => by simp [El.cores, deps]; exact h0
  | x :: a, h => by
    rw [El.cores, deps]
    have := h x (List.mem_cons_self ..)
    have := deps_le h0 a fun y hy => h y (List.mem_cons_of_mem _ hy)
    omega
end Sp
namespace E26
def nx (st : List El) (g : G) : List El := if g.a % 3 = 0 then st ++ [leaf g] else if dep (nd g (st.drop (st.length - kk g st.length))).core < 15 then st.take (st.length - kk g st.length) ++ [nd g (st.drop (st.length - kk g st.length))] else st
def sq (l : List G) : Nat → List El
  | 0 => []
  | i + 1 => match l[i]? with
    | some g => nx (sq l i) g
    | none => sq l i
structure W (x : El) : Prop where
  ok : x.ok
  vld : vld x.core
  dep : dep x.core ≤ 14
  fw : Fw 20 x
theorem kk_le (g : G) (n : Nat) : kk g n ≤ n := by unfold kk; split <;> omega
theorem leaf_dep (g : G) : dep (leaf g).core = 1 := rfl
theorem leaf_W (g : G) (hg : g.ok) : W (leaf g) := by
  obtain ⟨h1, h2, h3, h4, h5, h6, h7⟩ := hg
  have t := tn_b g.c 0 g.n h5.1
  refine ⟨(El.ok_eq _).2 ⟨by simp only [leaf, El.c]; omega, by simp only [leaf, El.n]; omega, fun x hx => h6 x (List.mem_of_mem_take hx), by simp only [leaf, El.b, List.length_take]; omega, by simp [leaf, El.s], fun x hx => by cases hx⟩, ?_, by rw [leaf_dep]; omega, .mk _ (by simp only [leaf, El.b, List.length_take]; omega) fun x hx => by cases hx⟩
  rw [vld_eq]
  have q := tn_ok g.c 0 g.n h3.1 h5.1
  refine ⟨by simpa [leaf, El.c, El.k, El.n] using q, fun h => (by cases h), fun _ => rfl, trivial⟩
theorem nd_W (g : G) (hg : g.ok) (d : List El) (hd : ∀ x ∈ d, W x) (hl : d.length ≤ 1000) : (nd g d).ok ∧ vld (nd g d).core ∧ Fw 20 (nd g d) ∧ dep (nd g d).core ≤ 15 ∧ cnt (nd g d).core = 1 + cnts (El.cores d) := by
  obtain ⟨h1, h2, h3, h4, h5, h6, h7⟩ := hg
  have t := tn_b g.c 1 g.n h5.1
  refine ⟨(El.ok_eq _).2 ⟨by simp only [El.c]; omega, by simp only [El.n]; omega, isB_nil, by simp [El.b], by simp only [El.s]; omega, fun x hx => (hd x hx).ok⟩, ?_, .mk _ (by simp [El.b]) fun x hx => (hd x hx).fw, ?_, by rw [cnt_eq]; rfl⟩
  · rw [vld_eq]
    have q := tn_ok g.c 1 g.n h3.1 h5.1
    exact ⟨by simpa [El.c, El.k, El.n] using q, fun _ => rfl, fun h => (by cases h), vlds_all.2 fun x hx => (hd x hx).vld⟩
  · rw [dep_eq]
    have := deps_le (m := 14) (by omega) d fun x hx => (hd x hx).dep
    show deps (El.cores d) + 1 ≤ 15
    omega
theorem inv (l : List G) (hl : ∀ g ∈ l, g.ok) : ∀ i, i ≤ 1000 → cnts (El.cores (sq l i)) ≤ i ∧ ∀ x ∈ sq l i, W x
  | 0, _ => ⟨by simp [sq, El.cores, cnts], fun x h => by simp [sq] at h⟩
  | i + 1, hi => by
    obtain ⟨h1, h2⟩ := inv l hl i (by omega)
    unfold sq
    cases hg : l[i]? with
    | none => exact ⟨by simp only []; omega, h2⟩
    | some g =>
      have og := hl g (List.mem_of_getElem? hg)
      simp only []
      unfold nx
      by_cases ha : g.a % 3 = 0
      · rw [if_pos ha]
        refine ⟨?_, fun x hx => ?_⟩
        · rw [cnts_app]
          have : cnts (El.cores [leaf g]) = 1 := rfl
          omega
        · rcases List.mem_append.1 hx with h | h
          · exact h2 x h
          · obtain rfl := List.mem_singleton.1 h
            exact leaf_W g og
      · rw [if_neg ha]
        generalize hp : (sq l i).length - kk g (sq l i).length = p
        have ln := cnts_len (sq l i)
        have hw := nd_W g og ((sq l i).drop p) (fun x hx => h2 x (List.mem_of_mem_drop hx)) (by rw [List.length_drop]; omega)
        by_cases hd : dep (nd g ((sq l i).drop p)).core < 15
        · rw [if_pos hd]
          have sp : cnts (El.cores (sq l i)) = cnts (El.cores ((sq l i).take p)) + cnts (El.cores ((sq l i).drop p)) := by rw [← cnts_app, List.take_append_drop]
          refine ⟨?_, fun x hx => ?_⟩
          · rw [cnts_app]
            have : cnts (El.cores [nd g ((sq l i).drop p)]) = 1 + cnts (El.cores ((sq l i).drop p)) := by rw [El.cores, cnts, hw.2.2.2.2]; simp [El.cores, cnts]
            omega
          · rcases List.mem_append.1 hx with h | h
            · exact h2 x (List.mem_of_mem_take h)
            · obtain rfl := List.mem_singleton.1 h
              exact ⟨hw.1, hw.2.1, by omega, hw.2.2.1⟩
        · rw [if_neg hd]
          exact ⟨by omega, h2⟩
theorem sq_ne (l : List G) : ∀ i, i < l.length → (sq l (i + 1)).length ≠ 0
  | i, hi => by
    have hg : l[i]? = some l[i] := List.getElem?_eq_getElem hi
    unfold sq
    rw [hg]
    simp only []
    unfold nx
    split
    · simp
    split
    · simp
    · rename_i h
      cases i with
      | zero => exact absurd (by rw [dep_eq]; simp [sq, El.s, El.cores, deps]) h
      | succ i => exact sq_ne l i (by omega)
def top (st : List El) : El := match st with
  | [x] => x
  | _ => .mk 0 true 16 true [] (some 0) (decide (st = [])) st (if st = [] then some 0 else none)
def ofE (l : List G) : El := top (sq l (min 39 l.length))
structure Good (x : El) : Prop where
  ok : x.ok
  vld : vld x.core
  dep : dep x.core ≤ 15
  fw : Fw 20 x
  cnt : cnt x.core ≤ 40
theorem good (l : List G) (hl : ∀ g ∈ l, g.ok) : Good (ofE l) := by
  obtain ⟨h1, h2⟩ := inv l hl (min 39 l.length) (by omega)
  have ln := cnts_len (sq l (min 39 l.length))
  unfold ofE
  generalize sq l (min 39 l.length) = st at h1 h2 ln
  unfold top
  split
  · rename_i x
    have w := h2 x (by simp)
    exact ⟨w.ok, w.vld, by have := w.dep; omega, w.fw, by simp [El.cores, cnts] at h1; omega⟩
  · refine ⟨(El.ok_eq _).2 ⟨by simp [El.c], by simp [El.n], isB_nil, by simp [El.b], by simp only [El.s]; omega, fun x hx => (h2 x hx).ok⟩, ?_, ?_, .mk _ (by simp [El.b]) fun x hx => (h2 x hx).fw, ?_⟩
    · rw [vld_eq]
      exact ⟨rfl, fun _ => rfl, fun h => (by cases h), vlds_all.2 fun x hx => (h2 x hx).vld⟩
    · rw [dep_eq]
      have := deps_le (m := 14) (by omega) st fun x hx => (h2 x hx).dep
      show deps (El.cores st) + 1 ≤ 15
      omega
    · rw [cnt_eq]
      show 1 + cnts (El.cores st) ≤ 40
      omega
theorem Good.chk {x : El} (h : Good x) : (chk x.core 1 0 0).1 = 0 := chk_of _ _ _ _ h.vld (by have := h.dep; omega) (by have := h.cnt; omega)
theorem Good.sm {x : El} (h : Good x) : x.sm := fw_sm (by omega) x h.fw (by have := h.cnt; omega)
theorem Good.len {x : El} (h : Good x) : (enc x.core).length ≤ 1160 := by
  have := fw_len x h.fw
  have := h.cnt
  omega
end E26

end
section
/- elements.copied at the evaluator: bytes.Clone and slices.Clip. No conditions. -/
open Ab Go TabE Sp
set_option maxRecDepth 20000
set_option linter.unusedSimpArgs false
set_option linter.unusedVariables false
set_option maxHeartbeats 8000000
namespace E31
theorem clone (f : Bool) (b : List Int) (c : Option Nat) (hn : f = true → b = []) (hl : b.length ≤ 70368744177664) : ∃ c', (c' = none ∨ c' = some b.length) ∧ Con E 20 98 [.sl f (bs b) c] (.sl f (bs b) c') := by
  cases hf : f with
  | true =>
    have hb := hn hf
    subst hb
    refine ⟨some 0, .inr rfl, con_of E_fn98 (by simp [AV.pureL, AV.pure]) (Nat.le_of_ble_eq_true rfl) rfl rfl (g := []) ?_⟩
    rw [body_98, c98]
    simp [↓s_seq, ↓s_reg, ↓s_cond, ↓s_cons, s_nil, s_val, s_rgx, s_sqn, s_sqr, s_cdb, s_ret', s_finr, s_fin1, s_fix, s_clean, o_tmp, o_nil, l_hit, l_miss, x_move, x_assign, x_bin, bn_s, frame0, binA, resL, resA, results1, AV.pure, keepT, gcH, sl_sl, bs_nil, bs_nil]
  | false =>
    by_cases hb : b = []
    · subst hb
      refine ⟨some 0, .inr rfl, con_of E_fn98 (by simp [AV.pureL, AV.pure]) (Nat.le_of_ble_eq_true rfl) rfl rfl (g := []) ?_⟩
      rw [body_98, c98]
      simp [↓s_seq, ↓s_reg, ↓s_cond, ↓s_cons, s_nil, s_val, s_rgx, s_sqn, s_cdb, s_ret', s_skip', s_finr, s_fin1, s_fix, s_clean, o_tmp, o_nil, l_hit, l_miss, ol_nil, ol_cons, ol_some, x_move, x_assign, x_bin, bn_s, x_callB, frame0, binA, resL, resA, results1, AV.pure, AV.pureL, keepT, x_buildSlice, bsx, newK, genOf, setK, lookK, fillA, writeL, writeC, conts, appendA, copyA, builtinA, AV.cells, gcH, reach, keysT, keepK, inKs, AV.keys, AV.keysL, Ty.isAgg, sl_row, sealRow, sealY, bs_nil, bs_nil]
    · refine ⟨none, .inl rfl, con_of E_fn98 (by simp [AV.pureL, AV.pure]) (Nat.le_of_ble_eq_true rfl) rfl rfl (g := []) ?_⟩
      rw [body_98, c98]
      simp [↓s_seq, ↓s_reg, ↓s_cond, ↓s_cons, s_nil, s_val, s_rgx, s_sqn, s_cdb, s_ret', s_skip', s_finr, s_fin1, s_fix, s_clean, o_tmp, o_nil, l_hit, l_miss, ol_nil, ol_cons, ol_some, x_move, x_assign, x_bin, bn_s, x_callB, frame0, binA, resL, resA, results1, AV.pure, keepT, x_buildSlice, bsx, newK, genOf, setK, lookK, fillA, writeL, writeC, conts, appendA, copyA, builtinA, AV.cells, gcH, reach, keysT, keepK, inKs, AV.keys, Ty.isAgg, sc_mem, bs_pure, bs_kl, bs_length, bs_cells, sl_row, sealRow, sealY, hb, hl]
theorem clip (f : Bool) (b : List Int) (c : Option Nat) (hc : c = none ∨ c = some b.length) : Con E 20 97 [.sl f (bs b) c] (.sl f (bs b) (some b.length)) := by
  refine con_of E_fn97 (by simp [AV.pureL, AV.pure]) (Nat.le_of_ble_eq_true rfl) rfl rfl (g := []) ?_
  rw [body_97, c97]
  have t : (bs b).take b.length = bs b := by rw [List.take_of_length_le]; rw [bs_len]; exact Nat.le_refl _
  rcases hc with rfl | rfl <;> simp [↓s_seq, ↓s_reg, ↓s_cons, s_nil, s_val, s_rgx, s_sqn, s_ret', s_finr, s_fin1, s_fix, s_clean, o_tmp, o_nil, l_hit, l_miss, ol_nil, ol_cons, ol_some, x_move, x_assign, x_callB, frame0, resL, resA, results1, AV.pure, keepT, x_slice, slx, newK, genOf, setK, lookK, writeC, conts, sliceA, boundsA, boundsB, fitsA, numA, appendA, copyA, builtinA, AV.cells, gcH, Ty.isAgg, bs_length, sl_sl, t]
mutual
def cp : El → El
  | .mk c k n fb b _ _ s _ => .mk c k n fb b (some b.length) s.isEmpty (cps s) (some s.length)
def cps : List El → List El
  | [] => []
  | x :: r => cp x :: cps r
end
theorem cps_map : ∀ l, cps l = l.map cp
  | [] => rfl
  | e :: r => by rw [cps, cps_map r]; rfl
theorem cp_eq (e : El) : cp e = .mk e.c e.k e.n e.fb e.b (some e.b.length) e.s.isEmpty (e.s.map cp) (some e.s.length) := by cases e; rw [cp, cps_map]; rfl
theorem cp_core : ∀ e : El, (cp e).core = e.core := by
  refine El.ind fun e ih => ?_
  rw [cp_eq, El.core_eq e, El.core, El.cores_map, El.cores_map, List.map_map]
  congr 1
  exact List.map_congr_left fun x hx => ih x hx
theorem cp_ok : ∀ e : El, e.ok → (cp e).ok := by
  refine El.ind fun e ih h => ?_
  rw [cp_eq, El.ok_eq]
  refine ⟨h.cb, h.nb, h.bb, h.bl, by simp only [El.s, List.length_map]; exact h.sl, fun x hx => ?_⟩
  obtain ⟨y, hy, rfl⟩ := List.mem_map.1 hx
  exact ih y hy (h.sub y hy)
theorem cp_ex : ∀ e : El, E13.Exact (cp e) := by
  refine El.ind fun e ih => ?_
  rw [cp_eq]
  refine .mk _ rfl (by simp [El.cs, El.s]) fun x hx => ?_
  obtain ⟨y, hy, rfl⟩ := List.mem_map.1 hx
  exact ih y hy
inductive Nn : El → Prop
  | mk (e : El) : (e.fb = true → e.b = []) → (e.fs = true → e.s = []) → (∀ x ∈ e.s, Nn x) → Nn e
theorem cp_nn : ∀ e : El, Nn e → Nn (cp e) := by
  refine El.ind fun e ih h => ?_
  obtain ⟨_, h1, h2, h3⟩ := h
  rw [cp_eq]
  refine .mk _ h1 (fun q => by simp [El.fs, El.s] at q ⊢; exact q) fun x hx => ?_
  obtain ⟨y, hy, rfl⟩ := List.mem_map.1 hx
  exact ih y hy (h3 y hy)
end E31

end
