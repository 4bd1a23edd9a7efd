/- Own work, no conditions. -/
import Derived.Test.YtbiildmljbcmeaaE28
import Derived.Test.YtbiildmljbcmeaaE56
import Derived.Test.YtbiildmljbcmeaaE25
set_option maxRecDepth 20000
set_option linter.unusedSimpArgs false
set_option linter.unusedVariables false
set_option maxHeartbeats 16000000
section
open Ab Go TabE
attribute [local simp ↓] s_seq s_reg s_regd s_cond s_block s_cons s_consG s_regD
attribute [local simp] s_nil s_loop s_round s_lpn s_lpe s_lpr firstReg s_gt s_gf s_wb s_wu s_val s_valN s_skip s_calls s_callP s_cax lookR flatR pureKs s_ret s_rgx s_sqn s_sqr s_sqe s_cdb s_bkn s_bkr s_bke s_exit s_ret' s_skip' s_finr s_finn s_fin1 s_fix s_clean s_gc0 o_tmp o_int o_bool o_nil o_str o_fn o_nil' l_hit l_miss l_nil ol_nil ol_cons ol_some x_move x_assign x_pick pk_t pk_f x_bin bn_s x_un x_extract x_callF cl_no x_callB x_callBF frzV x_conv cvx convA frame0 binA intOp resL resA results1 sealLW AV.pure AV.pureL keepT x_alloc x_box bxx x_build bdx x_buildSlice bsx x_buildSliceF bsf x_load ldx x_store stx x_slice slx x_fieldAddr x_field x_index ixx x_indexAddr iax x_makeSlice msx x_makeSliceF msf x_nilCheck newK genOf setK lookK fillA writeL writeC readC conts TyI.mk1 sliceA boundsA boundsB fitsA numA indexAddrA fieldAddrA partA fieldA indexA appendA copyA builtinA AV.cells chunk gcH reach keysT keepK inKs AV.keys AV.keysL Ty.isAgg eq1 eqL convA.go ltI w_u8 w_u32 w_u64 w_i64 w_fdiv w_tdiv w_tmod IntKind.bits unA sc_int sc_bool sc_str sc_sl sc_ref sc_ptr sc_pel sc_nilp sc_fn sc_nilf sc_if sc_nili sc_agg sc_tup sc_mem bs_pure bs_kl bs_length bs_cells bs_all sl_row sealRow sealY sl_int sl_bool sl_str sl_sl sl_nilp sl_nilf sl_nili sl_pel sl_agg sl_tup sl_fn sl_if nat_1 bs_cons bs_nil i_beq i_bne x_mkF x_mkI x_tassert x_panic s_pan s_sqp s_bkp s_finp s_fixp s_lpp s_rgp s_retp s_site s_stxN s_stxO x_callT clx El.avs_len s_dyn0 s_rgy barOf dynChk footL dynOK disjK keysOp opVals Op.operands
section
open Ab Go TabE Sp E22 E26 E40 E53 E56 E61
namespace E63
theorem isB_app {a b : List Int} (ha : isB a) (hb : isB b) : isB (a ++ b) := fun x h => (List.mem_append.1 h).elim (ha x) (hb x)
theorem rd_app (c : Cr) (r : List Int) (ho : okc c) (hv : vld c) (hd : dep c ≤ 16) (hm : cnt c ≤ 8192) (hl : (enc c).length ≤ 16777215) : rd ((enc c ++ r).length + 2) (enc c ++ r) 0 (enc c ++ r).length 1 0 = .ok c (enc c).length (cnt c) := by
  have := rd_put c ((enc c ++ r).length + 2) (enc c ++ r) 0 (enc c ++ r).length 1 0 r ho hv (by rw [List.take_length, List.drop_zero]) (Nat.le_refl _) (by omega) (by omega) (by omega) (by omega) hl (by omega)
  rw [this]
  simp
theorem rg_app (c : Cr) (r : List Int) (ho : okc c) (hv : vld c) (hd : dep c ≤ 16) (hm : cnt c ≤ 8192) (hl : (enc c ++ r).length ≤ 1048576) : rg (enc c ++ r) = if r = [] then .ok c (enc c).length (cnt c) else .bad (enc c).length 8 := by
  have hl' := hl
  rw [List.length_append] at hl'
  unfold rg
  rw [if_neg (by omega), rd_app c r ho hv hd hm (by omega)]
  simp only
  cases r with
  | nil => rw [if_neg (by simp), if_pos rfl]
  | cons x r => rw [if_pos (by simp), if_neg (by simp)]
theorem law (f' f : Bool) (q cp : Option Nat) (l : List G) (r : List Int) (hl : ∀ g ∈ l, g.ok) (ll : l.length ≤ 9223372036854775807) (hr : isB r) : ∃ N, Con E N 7 [.agg [.sl f' (l.map G.av) q], .sl f (bs r) cp] (.bool true) := by
  by_cases long : 20 < r.length
  · have lv := LV.l04 300 (by omega) 0
    have long' : (20 : Int) < r.length := by omega
    refine ⟨300 + 1, con_of E_fn7 (by simp [AV.pureL, AV.pure]) (Nat.le_of_ble_eq_true rfl) rfl rfl (g := []) ?_⟩
    rw [body_7, c7]
    simp [lv, long, long']
  have long' : ¬ (20 : Int) < r.length := by omega
  obtain ⟨N1, C1⟩ := E28.of f' q l hl ll
  have ga := good l hl
  generalize ofE l = a at C1 ga
  have len := ga.len
  obtain ⟨N2, C2⟩ := E10.put_ok a ga.ok ga.sm ga.chk (by omega)
  obtain ⟨N3, C3⟩ := E17.rput a ga.ok ga.vld (by omega)
  have eb := E18.enc_B a ga.ok ga.vld (by omega)
  have e2 := enc_len2 a.core
  have kb := okc_of a ga.ok
  have vb := ga.vld
  have dp := ga.dep
  have cn := ga.cnt
  have R0 := rg_app a.core [] kb vb (by omega) (by omega) (by simp; omega)
  rw [List.append_nil, if_pos rfl] at R0
  have R1 := rd_app a.core r kb vb (by omega) (by omega) (by omega)
  have R2 := rg_app a.core r kb vb (by omega) (by omega) (by rw [List.length_append]; omega)
  obtain ⟨N4, G4⟩ := got_ok false (enc a.core) (some (enc a.core).length) (fun q => by cases q) eb R0 a rfl
  have NX := E60.next false (enc a.core ++ r) none (fun q => by cases q) (isB_app eb hr) (by rw [List.length_append]; omega)
  rw [R1] at NX
  simp only [E60.res1] at NX
  have y1 := ok_of (dec1 a.core) (by rw [dec1_core]; exact kb) (by rw [dec1_core]; exact vb) (by rw [dec1_core]; omega)
  obtain ⟨N5, M⟩ := E13.many_con (dec1 a.core) y1.1
  obtain ⟨N6, S⟩ := E1.same (dec1 a.core) a y1.1 (dec1_core _)
  have cky : (chk (dec1 a.core).core 1 0 0).1 = 0 := by rw [dec1_core]; exact ga.chk
  obtain ⟨N7, v, S2, hv⟩ := E14.same_ok a (dec1 a.core) ga.ok y1.1 ga.chk cky
  obtain rfl : v = true := hv.2 (dec1_core _).symm
  have G5 : r ≠ [] → ∃ N, Con E N 20 [.sl false (bs (enc a.core ++ r)) none, zv, .int .i64 ((enc a.core).length : Int), .int .i64 8] (.bool true) := fun h => by
    rw [if_neg h] at R2
    exact got_bad false (enc a.core ++ r) none (fun q => by cases q) (isB_app eb hr) R2
  obtain ⟨N8, G5⟩ : ∃ N, r ≠ [] → Con E N 20 [.sl false (bs (enc a.core ++ r)) none, zv, .int .i64 ((enc a.core).length : Int), .int .i64 8] (.bool true) := by
    by_cases h : r = []
    · exact ⟨0, fun q => absurd h q⟩
    · obtain ⟨N, h2⟩ := G5 h; exact ⟨N, fun _ => h2⟩
  obtain ⟨b, hbb⟩ : ∃ b, enc a.core = b := ⟨_, rfl⟩
  obtain ⟨y, hy⟩ : ∃ y, dec1 a.core = y := ⟨_, rfl⟩
  rw [dec1_core] at M
  rw [hbb] at C2 C3 eb G4 NX G5 e2 len
  rw [hy] at NX M S S2
  obtain ⟨K, hK⟩ : ∃ K, N1 + N2 + N3 + N4 + N5 + N6 + N7 + N8 + (b ++ r).length + 400 = K := ⟨_, rfl⟩
  have w1 := C1 K (by omega) 0
  have w2 := C2 K (by omega) 0
  have w3 := C3 K (by omega) 0
  have w4 := G4 K (by omega) 0
  have w5 := NX K (by omega) 0
  have w6 := M 50 (by omega) K (by omega) 0
  rw [E36.many_cnt _ _ (by omega) (by omega)] at w6
  have w7 := S K (by omega) 0
  have w8 := S2 K (by omega) 0
  have lv := LV.l04 K (by omega) 0
  have w9 : r ≠ [] → ∀ h, aCall E K 0 20 [.sl false (bs (b ++ r)) none, zv, .int .i64 (b.length : Int), .int .i64 8] h = some (.ret (.bool true), h) := fun h h2 => G5 h K (by omega) 0 h2
  rw [El.av_eq a] at w1 w2 w3 w4 w7 w8
  rw [El.av_eq y] at w5 w6 w7 w8
  have go := bs_go eb
  have q1 : ¬ 50 < cnt a.core := by omega
  have b0 : ¬ b.length = 0 := by omega
  have b1 : ¬ b = [] := fun h => by rw [h] at e2; simp at e2
  have cp1 : b.length ≤ 70368744177664 := by omega
  have cp2 : b.length + r.length ≤ 70368744177664 := by omega
  refine ⟨K + 1, con_of E_fn7 (by simp [AV.pureL, AV.pure]) (Nat.le_of_ble_eq_true rfl) rfl rfl (g := []) ?_⟩
  rw [body_7, c7]
  have ap : bs b ++ bs r = bs (b ++ r) := (bs_append b r).symm
  simp [zv] at w9
  by_cases r0 : r = []
  · subst r0
    rw [List.append_nil] at w5
    simp [lv, long', w1, w2, w3, w4, w5, w6, w7, w8, go, q1, b0, b1, cp1]
  · have r1 : 0 < r.length := List.length_pos_iff.2 r0
    have r2 : (0 : Int) < r.length := by omega
    have r3 : ¬ r.length = 0 := by omega
    have w9' := w9 r0
    simp [lv, long, long', w1, w2, w3, w4, w5, w6, w7, w8, w9', go, q1, b0, b1, cp1, cp2, ap, r0, r1, r2, r3]
end E63
end
section
open Ab Go TabE Sp
namespace E64
abbrev lf : El := .mk 0 false 5 true [] (some 0) true [] (some 0)
def nst : Nat → El
  | 0 => lf
  | n + 1 => .mk 0 true 16 true [] (some 0) false [nst n] (some 1)
theorem n16 : Con E 40 31 [.int .i64 16] (nst 15).av := .of (g := []) rfl (by kernel_rfl)
theorem n17 : Con E 40 31 [.int .i64 17] (nst 16).av := .of (g := []) rfl (by kernel_rfl)
def wd (k : Nat) : El := .mk 0 true 17 true [] (some 0) false (List.replicate k lf) none
def b : Code := lp c33 0
abbrev zz : List AV := [.int .u8 0, .bool false, .int .u32 0, .sl true [] (some 0), .sl true [] (some 0)]
abbrev A (n : Int) : St := ⟨[(0, .int .i64 n), (2, .ptr (1, 2, 0) 0), (3, .ptr (1, 3, 0) 0), (4, .int .i64 1)], [((1, 2, 0), bx zz), ((1, 3, 0), bx [.int .u8 0, .bool true, .int .u32 17, .sl true [] (some 0), .sl true [] (some 0)])]⟩
abbrev S (n : Int) (i m : Nat) : St := ⟨[(0, .int .i64 n), (2, .ptr (1, 2, 0) 0), (3, .ptr (1, 3, 0) 0), (4, .int .i64 ((i : Int) + 1))], [((1, 2, 0), bx zz), ((1, 3, 0), bx [.int .u8 0, .bool true, .int .u32 17, .sl true [] (some 0), .ref (1, 17, m) 0 i none]), ((1, 17, m), ⟨El.fl (List.replicate i lf), true, true, false, 5, true⟩)]⟩
theorem go0 (q k1 : Nat) (n : Int) (hn : 1 < n) : rnd fn33 b q k1 (A n) = some (.normal, S n 1 0) := by
  simp [b, lp, lps, c33, hn, List.replicate]
  rfl
theorem snoc (i : Nat) : El.fl (List.replicate (i + 1) lf) = El.fl (List.replicate i lf) ++ zz.set 2 (.int .u32 5) := by
  rw [List.replicate_succ', El.fl_app]; rfl
theorem goS (q k1 : Nat) (n : Int) (i m : Nat) (hi : (i : Int) + 1 < n) (hb : i ≤ 100000) : rnd fn33 b q k1 (S n i m) = some (.normal, S n (i + 1) (m + 1)) := by
  have f1 := El.fl_len (List.replicate i lf)
  rw [List.length_replicate] at f1
  have f2 := El.fl_keys (List.replicate i lf)
  have cp1 : (i + 1) * 56 ≤ 70368744177664 := by omega
  have w := w64' ((i : Int) + 1 + 1) (by omega) (by omega)
  have s := snoc i
  simp at s
  simp [b, lp, lps, c33, hi, f1, f2, cp1, w, s, El.fl_keysr]
abbrev Out (n : Int) (i m : Nat) : AExit × St := (.exit 0, ⟨(S n i m).t ++ [(9, .bool false)], (S n i m).h⟩)
theorem last (q k1 : Nat) (i m : Nat) : rnd fn33 b q k1 (S ((i : Int) + 1) i m) = some (Out ((i : Int) + 1) i m) := by
  have f2 := El.fl_keys (List.replicate i lf)
  simp [b, lp, lps, c33, f2]
abbrev Lp (K : Nat) := aLoop (aCode E (aCall E K) (dcall (aRun E K)) K 1 fn33 b) (cleanS 1 ((firstReg b).bind fn33.head))
theorem loopS (K : Nat) (N : Nat) (hN : N ≤ 100000) : ∀ (j i m k : Nat), i + j = N → j < k → ∃ m', Lp K k (S ((N : Int) + 1) i m) = some (Out ((N : Int) + 1) N m')
  | 0, i, m, k, h, hk => by
    obtain ⟨k, rfl⟩ : ∃ j, k = j + 1 := ⟨k - 1, by omega⟩
    obtain rfl : i = N := by omega
    exact ⟨m, aLoop_end (last K K i m) (fun h => by cases h)⟩
  | j + 1, i, m, k, h, hk => by
    obtain ⟨k, rfl⟩ : ∃ j, k = j + 1 := ⟨k - 1, by omega⟩
    obtain ⟨m', h2⟩ := loopS K N hN j (i + 1) (m + 1) k (by omega) (by omega)
    refine ⟨m', ?_⟩
    unfold Lp
    rw [aLoop_succ (goS K K _ i m (by omega) (by omega))]
    exact h2
theorem wide (N : Nat) (h1 : 1 ≤ N) (hN : N ≤ 100000) : Con E (N + 60) 33 [.int .i64 ((N : Int) + 1)] (wd N).av := by
  obtain ⟨K, hK⟩ : ∃ K, N + 59 = K := ⟨_, rfl⟩
  rw [show N + 60 = K + 1 from by omega]
  obtain ⟨k, hk⟩ : ∃ k, K = k + 1 := ⟨K - 1, by omega⟩
  obtain ⟨m', h2⟩ := loopS K N hN (N - 1) 1 0 k (by omega) (by omega)
  have L : Lp K K (A ((N : Int) + 1)) = some (Out ((N : Int) + 1) N m') := by
    have := aLoop_succ (k := k) (go0 K K ((N : Int) + 1) (by omega))
    rw [← hk] at this
    exact this.trans h2
  have av : (wd N).av = .agg [.int .u8 0, .bool true, .int .u32 17, .sl true [] (some 0), .sl false (El.avs (List.replicate N lf)) none] := rfl
  have sx := fun n h key => E32.sealX_fl n h key (List.replicate N lf) none true false
  rw [List.length_replicate] at sx
  have f1 := El.fl_len (List.replicate N lf)
  rw [List.length_replicate] at f1
  have f2 := El.fl_keys (List.replicate N lf)
  refine con_of E_fn33 (by simp [AV.pureL, AV.pure]) (Nat.le_of_ble_eq_true rfl) rfl rfl (g := []) ?_
  rw [body_33, c33, av]
  simp [Lp, b, lp, lps, c33, firstReg, bx] at L
  simp [-s_round, L, sx, f1, f2]
end E64
end
end
section
open Ab Go TabE Sp E40 E61 E64
namespace E65
abbrev lc : Cr := .mk 0 false 5 [] []
def pr : Nat → List Int
  | 0 => []
  | k + 1 => 5 :: 0 :: pr k
theorem pr_len : ∀ k, (pr k).length = 2 * k
  | 0 => rfl
  | k + 1 => by unfold pr; rw [List.length_cons, List.length_cons, pr_len k]; omega
theorem pr_drop : ∀ i j, (pr (i + j)).drop (2 * i) = pr j
  | 0, j => by simp
  | i + 1, j => by
    rw [show i + 1 + j = i + j + 1 from by omega, show 2 * (i + 1) = 2 * i + 1 + 1 from by omega]
    rw [pr, List.drop_succ_cons, List.drop_succ_cons, pr_drop i j]
theorem pr_B : ∀ k, isB (pr k)
  | 0 => fun x h => by cases h
  | k + 1 => fun x h => by
    unfold pr at h
    rcases List.mem_cons.1 h with rfl | h
    · omega
    · rcases List.mem_cons.1 h with rfl | h
      · omega
      · exact pr_B k x h
theorem cores (k : Nat) : El.cores (List.replicate k lf) = List.replicate k lc := by rw [El.cores_map, List.map_replicate]; rfl
theorem encs_pr : ∀ k, encs (List.replicate k lc) = pr k
  | 0 => rfl
  | k + 1 => by
    rw [List.replicate_succ, encs, encs_pr k]
    have : enc lc = [5, 0] := by decide +kernel
    rw [this]; rfl
theorem core (k : Nat) : (wd k).core = .mk 0 true 17 [] (List.replicate k lc) := by unfold wd; rw [El.core, cores]
theorem enc_wd (k : Nat) : enc (wd k).core = 49 :: (lenO ((2 * k : Nat) : Int) ++ pr k) := by
  rw [core, enc, encs_pr, List.nil_append, pr_len]
  rfl
theorem chk_lc (m l : Int) : chk lc 2 m l = if m = 8192 then (3, m, l) else (0, m + 1, max l 2) := by
  unfold chk
  have t : tagE 0 false 5 = 0 := by decide
  rw [if_neg (by simp [t]), if_neg (by simp), if_neg (by omega)]
  split
  · rfl
  · simp [chks]
theorem chks_lc : ∀ (k : Nat) (m l : Int), m ≤ 8192 → (chks (List.replicate k lc) 2 m l).1 = if m + k ≤ 8192 then 0 else 3
  | 0, m, l, h => by unfold List.replicate chks; rw [if_pos (by omega)]
  | k + 1, m, l, h => by
    rw [List.replicate_succ]
    unfold chks
    rw [chk_lc]
    by_cases h1 : m = 8192
    · rw [if_pos h1, if_pos (by simp)]
      rw [if_neg (by omega)]
    · rw [if_neg h1, if_neg (by simp)]
      simp only
      rw [chks_lc k (m + 1) _ (by omega)]
      by_cases h2 : m + (k + 1 : Nat) ≤ 8192
      · rw [if_pos h2, if_pos (by omega)]
      · rw [if_neg h2, if_neg (by omega)]
theorem chk_wd (k : Nat) (hk : 1 ≤ k) : (chk (wd k).core 1 0 0).1 = if k ≤ 8191 then 0 else 3 := by
  rw [core]
  unfold chk
  have t : tagE 0 true 17 = 0 := by decide
  rw [if_neg (by simp [t]), if_neg (by simp), if_neg (by omega), if_neg (by omega), show (1 : Int) + 1 = 2 from rfl, chks_lc k (0 + 1) _ (by omega)]
  by_cases h : k ≤ 8191
  · rw [if_pos h, if_pos (by omega)]
  · rw [if_neg h, if_neg (by omega)]
theorem lf_ok : lf.ok := by simp [lf, El.ok, El.oks, isB]
theorem wd_ok (k : Nat) (hk : k ≤ 100000) : (wd k).ok := by
  rw [El.ok_eq]
  refine ⟨by simp [wd, El.c], by simp [wd, El.n], by simp [wd, El.b, isB], by simp [wd, El.b], by simp [wd, El.s]; omega, fun x hx => ?_⟩
  have : x = lf := List.eq_of_mem_replicate (by simpa [wd, El.s] using hx)
  rw [this]; exact lf_ok
theorem wd_sm (k : Nat) (hk : k ≤ 100000) : (wd k).sm := by
  rw [El.sm_eq]
  refine ⟨by simp [wd, El.b], by simp [wd, El.s]; omega, fun x hx => ?_⟩
  have : x = lf := List.eq_of_mem_replicate (by simpa [wd, El.s] using hx)
  rw [this]; simp [lf, El.sm, El.sms]
theorem cnts_lc : ∀ k : Nat, cnts (List.replicate k lc) = k
  | 0 => rfl
  | k + 1 => by rw [List.replicate_succ, cnts, cnts_lc k]; simp [lc, cnt, cnts]; omega
theorem deps_lc : ∀ k : Nat, deps (List.replicate k lc) ≤ 1
  | 0 => by simp [deps]
  | k + 1 => by
    rw [List.replicate_succ, deps]
    have := deps_lc k
    have d : dep lc = 1 := by decide
    rw [d]; omega
theorem wd_dep (k : Nat) : dep (wd k).core ≤ 2 := by rw [core]; unfold dep; have := deps_lc k; omega
theorem wd_cnt (k : Nat) : cnt (wd k).core = k + 1 := by rw [core]; unfold cnt; rw [cnts_lc]; omega
theorem rds_full (b : List Int) (hb : b = [49, 130, 64, 0] ++ pr 8192) : ∀ (j i f : Nat), i + j = 8191 → 2 * j + 4 ≤ f → rds f b (4 + 2 * i) b.length 2 (1 + (i : Int)) = .inr (16386, 3)
  | j, i, f, h, hf => by
    have lb : b.length = 16388 := by rw [hb, List.length_append, pr_len]; rfl
    obtain ⟨f, rfl⟩ : ∃ g, f = g + 1 + 1 := ⟨f - 2, by omega⟩
    have dr : (b.take b.length).drop (4 + 2 * i) = pr (8192 - i) := by
      rw [List.take_length, hb, ← List.drop_drop]
      have := pr_drop i (8192 - i)
      rw [show i + (8192 - i) = 8192 from by omega] at this
      exact this
    have p1 : pr (8192 - i) = 5 :: 0 :: pr (8191 - i) := by rw [show 8192 - i = 8191 - i + 1 from by omega]; rfl
    have g1 : gt ((b.take b.length).drop (4 + 2 * i)) = ((0, false, 5), ((1 : Nat) : Int), 0) := by
      rw [dr, p1]; exact gt_put 0 false 5 _ (by decide) (by omega) (by omega)
    have g2 : gl ((b.take b.length).drop (4 + 2 * i + 1)) = (0, ((1 : Nat) : Int), 0) := by
      rw [← List.drop_drop, dr, p1]; exact gl_put 0 _ (by omega) (by omega)
    unfold rds
    rw [if_neg (by omega), rd_eq g1 g2, if_neg (by omega), if_neg (by simp), if_neg (by omega)]
    by_cases h8 : i = 8191
    · subst h8
      rw [if_pos (by omega)]
      rfl
    · rw [if_neg (by omega), if_neg (by omega), if_neg (by simp), if_neg (by simp; omega), if_pos rfl]
      simp only
      obtain ⟨j, rfl⟩ : ∃ g, j = g + 1 := ⟨j - 1, by omega⟩
      have := rds_full b hb j (i + 1) (f + 1) (by omega) (by omega)
      have e1 : 4 + 2 * i + 1 + 1 + (0 : Int).toNat = 4 + 2 * (i + 1) := by simp; omega
      have e2 : 1 + (i : Int) + 1 = 1 + ((i + 1 : Nat) : Int) := by omega
      rw [e1, e2, this]
theorem rg_full : rg ([49, 130, 64, 0] ++ pr 8192) = .bad 16386 3 := by
  obtain ⟨b, hb⟩ : ∃ b, b = [49, 130, 64, 0] ++ pr 8192 := ⟨_, rfl⟩
  rw [← hb]
  have lb : b.length = 16388 := by rw [hb, List.length_append, pr_len]; rfl
  have d0 : (b.take b.length).drop 0 = 49 :: ([130, 64, 0] ++ pr 8192) := by rw [List.take_length, List.drop_zero, hb]; rfl
  have d1 : (b.take b.length).drop (0 + 1) = [130, 64, 0] ++ pr 8192 := by rw [← List.drop_drop, d0]; rfl
  have g1 : gt ((b.take b.length).drop 0) = ((0, true, 17), ((1 : Nat) : Int), 0) := by
    rw [d0]; exact gt_put 0 true 17 _ (by decide) (by omega) (by omega)
  have g2 : gl ((b.take b.length).drop (0 + 1)) = (16384, ((3 : Nat) : Int), 0) := by
    rw [d1]; exact gl_put 16384 _ (by omega) (by omega)
  unfold rg
  rw [if_neg (by omega), rd_eq g1 g2, if_neg (by omega), if_neg (by simp), if_neg (by omega), if_neg (by omega), if_neg (by omega), if_neg (by simp), if_neg (by simp; omega), if_neg (by simp)]
  have := rds_full b hb 8191 0 (b.length + 1) (by omega) (by omega)
  have e1 : 0 + 1 + 3 + (16384 : Int).toNat = b.length := by rw [lb]; rfl
  rw [e1]
  simp only [Nat.mul_zero, Nat.add_zero, Int.ofNat_zero, Int.add_zero] at this
  have e2 : ((0 : Int) + 1) = 1 := rfl
  rw [show (0 + 1 + 3 : Nat) = 4 from rfl, show ((1 : Int) + 1) = 2 from rfl, e2]
  have t : rds (b.length + 1) b 4 b.length 2 1 = .inr (16386, 3) := by simpa using this
  rw [t]
end E65
end
section
open Ab Go TabE Sp E18 E40 E61 E64 E65
namespace E66
def zs (n : Nat) : List Int := List.replicate n 0
theorem zs_len (n : Nat) : (zs n).length = n := List.length_replicate
theorem zs_B (n : Nat) : isB (zs n) := fun x h => by have := List.eq_of_mem_replicate h; omega
theorem zs_bs (n : Nat) : List.replicate n (AV.int .u8 0) = bs (zs n) := by simp [bs, zs]
def bg (n : Nat) : El := .mk 0 false 4 false (zs n) (some n) true [] (some 0)
theorem bg_core (n : Nat) : (bg n).core = .mk 0 false 4 (zs n) [] := rfl
theorem bg_ok (n : Nat) (h : n ≤ 2000000) : (bg n).ok := by
  rw [El.ok_eq]
  exact ⟨by simp [bg, El.c], by simp [bg, El.n], zs_B n, by simp [bg, El.b, zs_len]; omega, by simp [bg, El.s], fun x hx => by simp [bg, El.s] at hx⟩
theorem bg_sm (n : Nat) (h : n ≤ 2000000) : (bg n).sm := by
  rw [El.sm_eq]
  exact ⟨by simp [bg, El.b, zs_len]; omega, by simp [bg, El.s], fun x hx => by simp [bg, El.s] at hx⟩
theorem bg_chk (n : Nat) : (chk (bg n).core 1 0 0).1 = 0 := by
  rw [bg_core]
  unfold chk
  have t : tagE 0 false 4 = 0 := by decide
  rw [if_neg (by simp [t]), if_neg (by simp), if_neg (by omega), if_neg (by omega)]
  simp [chks]
theorem bg_len (n : Nat) (h0 : 65536 ≤ n) (h : n ≤ 2000000) : (enc (bg n).core).length = n + 5 := by
  rw [bg_core, enc, List.length_append, List.length_append]
  have t : (TG.tagO 0 false 4).length = 1 := by decide
  have l : (lenO (n : Int)).length = 4 := by unfold lenO; rw [if_neg (by omega), if_neg (by omega), if_neg (by omega)]; rfl
  simp only [encs, List.append_nil, zs_len]
  rw [t, l]; omega
theorem pr_snoc : ∀ k, pr (k + 1) = pr k ++ [5, 0]
  | 0 => rfl
  | k + 1 => by
    show 5 :: 0 :: pr (k + 1) = (5 :: 0 :: pr k) ++ [5, 0]
    rw [pr_snoc k]; rfl
theorem many : enc (wd 8191).core = [49, 130, 63, 254] ++ pr 8191 := by
  rw [enc_wd]
  have : lenO ((2 * 8191 : Nat) : Int) = [130, 63, 254] := by decide
  rw [this]; rfl
theorem deep_len : (enc (nst 15).core).length = 32 := by decide +kernel
theorem deep_B : isB (enc (nst 15).core) := by
  have : ∀ x ∈ enc (nst 15).core, 0 ≤ x ∧ x < 256 := by decide +kernel
  exact this
theorem nst_ok : ∀ k, (nst k).ok
  | 0 => lf_ok
  | k + 1 => by
    rw [nst, El.ok_eq]
    exact ⟨by simp [El.c], by simp [El.n], by simp [El.b, isB], by simp [El.b], by simp [El.s], fun x hx => by
      have : x = nst k := by simpa [El.s] using hx
      rw [this]; exact nst_ok k⟩
theorem nst_sm : ∀ k, (nst k).sm
  | 0 => by simp [nst, lf, El.sm, El.sms]
  | k + 1 => by
    rw [nst, El.sm_eq]
    exact ⟨by simp [El.b], by simp [El.s], fun x hx => by
      have : x = nst k := by simpa [El.s] using hx
      rw [this]; exact nst_sm k⟩
theorem chk15 : (chk (nst 15).core 1 0 0).1 = 0 := by decide +kernel
theorem chk16 : (chk (nst 16).core 1 0 0).1 = 12 := by decide +kernel
theorem dep15 : (E5.meas (nst 15)).2.2 = 16 := by decide +kernel
theorem rg15 : rg (enc (nst 15).core) = .ok (nst 15).core 32 16 := by kernel_rfl
theorem rg16 : rg (48 :: 32 :: enc (nst 15).core) = .bad 32 12 := by kernel_rfl
theorem rgm : ∃ n m, rg (enc (wd 8191).core) = .ok (wd 8191).core n m := by
  have h := E63.rg_app (wd 8191).core [] (okc_of _ (wd_ok 8191 (by omega))) (vld_of _ _ _ _ (by rw [chk_wd 8191 (by omega)]; rfl)) (by have := wd_dep 8191; omega) (by have := wd_cnt 8191; omega) (by
    rw [List.append_nil, many, List.length_append, pr_len]; simp)
  rw [List.append_nil, if_pos rfl] at h
  exact ⟨_, _, h⟩
theorem rgb : ∃ n m, rg (enc (bg 1048571).core) = .ok (bg 1048571).core n m := by
  have h := E63.rg_app (bg 1048571).core [] (okc_of _ (bg_ok _ (by omega))) (vld_of _ _ _ _ (bg_chk _)) (by rw [bg_core]; decide) (by rw [bg_core]; decide) (by
    rw [List.append_nil, bg_len _ (by omega) (by omega)]; omega)
  rw [List.append_nil, if_pos rfl] at h
  exact ⟨_, _, h⟩
end E66
end
section
open Ab Go TabE
attribute [local simp ↓] s_seq s_reg s_regd s_cond s_block s_cons s_consG s_regD
attribute [local simp] s_nil s_loop s_round s_lpn s_lpe s_lpr firstReg s_gt s_gf s_wb s_wu s_val s_valN s_skip s_calls s_callP s_cax lookR flatR pureKs s_ret s_rgx s_sqn s_sqr s_sqe s_cdb s_bkn s_bkr s_bke s_exit s_ret' s_skip' s_finr s_finn s_fin1 s_fix s_clean s_gc0 o_tmp o_int o_bool o_nil o_str o_fn o_nil' l_hit l_miss l_nil ol_nil ol_cons ol_some x_move x_assign x_pick pk_t pk_f x_bin bn_s x_un x_extract x_callF cl_no x_callB x_callBF frzV x_conv cvx convA frame0 binA intOp resL resA results1 sealLW AV.pure AV.pureL keepT x_alloc x_box bxx x_build bdx x_buildSlice bsx x_buildSliceF bsf x_load ldx x_store stx x_slice slx x_fieldAddr x_field x_index ixx x_indexAddr iax x_makeSlice msx x_makeSliceF msf x_nilCheck newK genOf setK lookK fillA writeL writeC readC conts TyI.mk1 sliceA boundsA boundsB fitsA numA indexAddrA fieldAddrA partA fieldA indexA appendA copyA builtinA AV.cells chunk gcH reach keysT keepK inKs AV.keys AV.keysL Ty.isAgg eq1 eqL convA.go ltI w_u8 w_u32 w_u64 w_i64 w_fdiv w_tdiv w_tmod IntKind.bits unA sc_int sc_bool sc_str sc_sl sc_ref sc_ptr sc_pel sc_nilp sc_fn sc_nilf sc_if sc_nili sc_agg sc_tup sc_mem bs_pure bs_kl bs_length bs_cells bs_all sl_row sealRow sealY sl_int sl_bool sl_str sl_sl sl_nilp sl_nilf sl_nili sl_pel sl_agg sl_tup sl_fn sl_if nat_1 bs_cons bs_nil i_beq i_bne x_mkF x_mkI x_tassert x_panic s_pan s_sqp s_bkp s_finp s_fixp s_lpp s_rgp s_retp s_site s_stxN s_stxO x_callT clx El.avs_len s_dyn0 s_rgy barOf dynChk footL dynOK disjK keysOp opVals Op.operands
section
open Ab Go TabE Sp E18 E40 E53 E61 E64 E65 E66
namespace E67
theorem cut4 (f : Bool) (cp : Option Nat) (b : List Int) (h : 4 ≤ b.length) : ∀ g, sliceA E 22 (.sl f (bs b) cp) (some (.int .i64 4)) none none g = some (.sl f (bs (b.drop 4)) (cp.map fun q => q - 4)) := by
  intro g
  have t : ((bs b).take b.length).drop 4 = bs (b.drop 4) := by rw [← bs_len b, List.take_length]; simp [bs, List.map_drop]
  have t2 : (bs b).drop 4 = bs (b.drop 4) := by simp [bs, List.map_drop]
  have g1 : ∀ i, i < b.length → ((bs b)[i]?).map (fun v => v.cells.length) = some 1 := fun i hi => by simp [bs, hi, AV.cells]
  have g4 := g1 4
  by_cases h5 : b.length = 4
  · have t3 : b.drop 4 = [] := List.drop_eq_nil_of_le (by omega)
    simp [sliceA, boundsA, fitsA, numA, boundsB, h, t, t2, bs_length, h5, t3, bs_nil]
  · have g5 := g4 (by omega)
    simp [sliceA, boundsA, fitsA, numA, boundsB, h, t, t2, bs_length]
    intro _
    simpa using g5
theorem fin (K : Nat) (hK : 300 ≤ K) (D M P Z1 Z2 B : List Int) (n15 n16 w1 w2 : List AV) (p15 : AV.pureL n15 = true) (p16 : AV.pureL n16 = true) (q1 : AV.pureL w1 = true) (q2 : AV.pureL w2 = true)
    (hD : D.length = 32) (hM : M.length = 16386) (hP : P.length = 16382) (h1 : Z1.length = 1048571) (h2 : Z2.length = 1048572) (hB : B.length = 1048576)
    (z1 : List.replicate 1048571 (AV.int .u8 0) = bs Z1) (z2 : List.replicate 1048572 (AV.int .u8 0) = bs Z2)
    (c1 : ∀ h, aCall E K 0 31 [.int .i64 16] h = some (.ret (.agg n15), h)) (c2 : ∀ h, aCall E K 0 31 [.int .i64 17] h = some (.ret (.agg n16), h))
    (c3 : ∀ h, aCall E K 0 33 [.int .i64 8192] h = some (.ret (.agg w1), h)) (c4 : ∀ h, aCall E K 0 33 [.int .i64 8193] h = some (.ret (.agg w2), h))
    (d1 : ∀ h, aCall E K 0 21 [.agg n15] h = some (.ret (.tup [.sl false (bs D) (some 32), .int .i64 0]), h))
    (d2 : ∀ h, aCall E K 0 30 [.agg n15] h = some (.ret (.int .i64 16), h))
    (d3 : ∀ h, aCall E K 0 32 [.agg n16] h = some (.ret (.int .i64 12), h))
    (d4 : ∀ h, aCall E K 0 20 [.sl false (bs D) (some 32), .agg n15, .int .i64 0, .int .i64 0] h = some (.ret (.bool true), h))
    (d5 : ∀ h, aCall E K 0 20 [.sl false (.int .u8 48 :: .int .u8 32 :: bs D) none, zv, .int .i64 32, .int .i64 12] h = some (.ret (.bool true), h))
    (e1 : ∀ h, aCall E K 0 21 [.agg w1] h = some (.ret (.tup [.sl false (bs M) (some 16386), .int .i64 0]), h))
    (e2 : ∀ h, aCall E K 0 29 [.agg w1] h = some (.ret (.int .i64 8192), h))
    (e3 : ∀ h, aCall E K 0 32 [.agg w2] h = some (.ret (.int .i64 3), h))
    (e4 : ∀ h, aCall E K 0 20 [.sl false (bs M) (some 16386), .agg w1, .int .i64 0, .int .i64 0] h = some (.ret (.bool true), h))
    (cut : ∀ g, sliceA E 22 (.sl false (bs M) (some 16386)) (some (.int .i64 4)) none none g = some (.sl false (bs P) (some 16382)))
    (e5 : ∀ h, aCall E K 0 20 [.sl false (.int .u8 49 :: .int .u8 130 :: .int .u8 64 :: .int .u8 0 :: (bs P ++ [.int .u8 5, .int .u8 0])) none, zv, .int .i64 16386, .int .i64 3] h = some (.ret (.bool true), h))
    (f1 : ∀ h, aCall E K 0 21 [.agg [.int .u8 0, .bool false, .int .u32 4, .sl false (bs Z1) (some 1048571), .sl true [] (some 0)]] h = some (.ret (.tup [.sl false (bs B) (some 1048576), .int .i64 0]), h))
    (f2 : ∀ h, aCall E K 0 28 [.agg [.int .u8 0, .bool false, .int .u32 4, .sl false (bs Z1) (some 1048571), .sl true [] (some 0)]] h = some (.ret (.int .i64 1048576), h))
    (f3 : ∀ h, aCall E K 0 34 [.sl false (bs B ++ [.int .u8 0]) none] h = some (.ret (.tup [zv, .int .i64 0, .int .i64 3]), h))
    (x : El) (f4 : ∀ h, aCall E K 0 34 [.sl false (bs B) (some 1048576)] h = some (.ret (.tup [x.av, .int .i64 0, .int .i64 0]), h))
    (f5 : ∀ h, aCall E K 0 21 [.agg [.int .u8 0, .bool false, .int .u32 4, .sl false (bs Z2) (some 1048572), .sl true [] (some 0)]] h = some (.ret (.tup [.sl true [] (some 0), .int .i64 3]), h))
    (f6 : ∀ h, aCall E K 0 28 [.agg [.int .u8 0, .bool false, .int .u32 4, .sl false (bs Z2) (some 1048572), .sl true [] (some 0)]] h = some (.ret (.int .i64 0), h)) :
    Con E (K + 1) 6 [] (.bool true) := by
  have lv := LV.l04 K (by omega) 0
  have k1 := AV.keysL_pure _ p15
  have k2 := AV.keysL_pure _ p16
  have k3 := AV.keysL_pure _ q1
  have k4 := AV.keysL_pure _ q2
  have a1 : bs P ++ [AV.int .u8 5, AV.int .u8 0] = bs (P ++ [5, 0]) := by simp [bs]
  have a2 : bs B ++ [AV.int .u8 0] = bs (B ++ [0]) := by simp [bs]
  have a3 : AV.pureL (bs P ++ [AV.int .u8 5, AV.int .u8 0]) = true := by rw [a1]; exact bs_pure _
  have a4 : AV.pureL (bs B ++ [AV.int .u8 0]) = true := by rw [a2]; exact bs_pure _
  have a5 : AV.keysL (bs P ++ [AV.int .u8 5, AV.int .u8 0]) = [] := by rw [a1]; exact bs_kl _
  have a6 : AV.keysL (bs B ++ [AV.int .u8 0]) = [] := by rw [a2]; exact bs_kl _
  have b1 : (bs B).flatMap AV.cells = bs B := by
    have : ∀ l : List Int, (bs l).flatMap AV.cells = bs l := fun l => by
      induction l with
      | nil => rfl
      | cons y r ih => show AV.cells (.int .u8 y) ++ (bs r).flatMap AV.cells = _; rw [ih]; rfl
    exact this B
  have b2 : (∀ x ∈ bs B, x.scal = true) = True := by
    simp only [eq_iff_iff, iff_true]
    intro x hx
    obtain ⟨y, _, rfl⟩ := List.mem_map.1 hx
    rfl
  rw [El.av_eq] at f4
  simp only [zv] at d5 e5 f3
  refine con_of E_fn6 rfl (Nat.le_of_ble_eq_true rfl) rfl rfl (g := []) ?_
  rw [body_6, c6]
  simp [-sliceA, -List.reduceReplicate, c1, c2, c3, c4, d1, d2, d3, d4, d5, e1, e2, e3, e4, e5, f1, f2, f3, f4, f5, f6, cut, hD, hM, hP, h1, h2, hB, z1, z2, lv, p15, p16, q1, q2, k1, k2, k3, k4, a3, a4, a5, a6, ↓b1, b2, -List.length_flatMap, -List.all_flatMap, -List.mem_flatMap]
end E67
end
end
section
open Ab Go TabE Sp E18 E40 E53 E61 E64 E65 E66 E67
namespace E68
theorem agg_of (e : El) : ∃ cs, e.av = .agg cs ∧ AV.pureL cs = true := by
  refine ⟨_, El.av_eq e, ?_⟩
  have := El.av_pure e
  rw [El.av_eq] at this
  exact this
theorem law : ∃ N, Con E N 6 [] (.bool true) := by
  obtain ⟨n15, a15, p15⟩ := agg_of (nst 15)
  obtain ⟨n16, a16, p16⟩ := agg_of (nst 16)
  obtain ⟨w1, aw1, q1⟩ := agg_of (wd 8191)
  obtain ⟨w2, aw2, q2⟩ := agg_of (wd 8192)
  have C1 := E64.n16
  have C2 := E64.n17
  have C3 := E64.wide 8191 (by omega) (by omega)
  have C4 := E64.wide 8192 (by omega) (by omega)
  rw [show (((8191 : Nat) : Int) + 1) = 8192 from rfl] at C3
  rw [show (((8192 : Nat) : Int) + 1) = 8193 from rfl] at C4
  obtain ⟨N1, D1⟩ := E10.put_ok (nst 15) (nst_ok 15) (nst_sm 15) chk15 (by rw [deep_len]; omega)
  obtain ⟨N2, D2⟩ := E10.depth (nst 15) (nst_ok 15)
  obtain ⟨N3, D3⟩ := E10.check (nst 16) (nst_ok 16)
  obtain ⟨N4, D4⟩ := E61.got_ok false (enc (nst 15).core) (some 32) (fun h => by cases h) deep_B rg15 (nst 15) rfl
  obtain ⟨N5, D5⟩ := E61.got_bad false (48 :: 32 :: enc (nst 15).core) none (fun h => by cases h) (fun x h => by
    rcases List.mem_cons.1 h with rfl | h
    · omega
    · rcases List.mem_cons.1 h with rfl | h
      · omega
      · exact deep_B x h) rg16
  have mB : isB (enc (wd 8191).core) := by
    rw [E66.many]
    refine E63.isB_app (fun x h => ?_) (pr_B _)
    simp at h; omega
  have mL : (enc (wd 8191).core).length = 16386 := by rw [E66.many, List.length_append, pr_len]; rfl
  have mD : (enc (wd 8191).core).drop 4 = pr 8191 := by rw [E66.many]; rfl
  obtain ⟨n, m, rm⟩ := rgm
  obtain ⟨N6, E1⟩ := E10.put_ok (wd 8191) (wd_ok _ (by omega)) (wd_sm _ (by omega)) (by rw [chk_wd _ (by omega)]; rfl) (by rw [mL]; omega)
  obtain ⟨N7, E2⟩ := E10.count (wd 8191) (wd_ok _ (by omega))
  obtain ⟨N8, E3⟩ := E10.check (wd 8192) (wd_ok _ (by omega))
  obtain ⟨N9, E4⟩ := E61.got_ok false (enc (wd 8191).core) (some 16386) (fun h => by cases h) mB rm (wd 8191) rfl
  have bB : isB ([49, 130, 64, 0] ++ pr 8192) := E63.isB_app (fun x h => by simp at h; omega) (pr_B _)
  obtain ⟨N10, E5x⟩ := E61.got_bad false ([49, 130, 64, 0] ++ pr 8192) none (fun h => by cases h) bB rg_full
  have cut := cut4 false (some 16386) (enc (wd 8191).core) (by rw [mL]; omega)
  rw [mD] at cut
  obtain ⟨N11, F1⟩ := E10.put_ok (bg 1048571) (bg_ok _ (by omega)) (bg_sm _ (by omega)) (bg_chk _) (by rw [bg_len _ (by omega) (by omega)]; omega)
  obtain ⟨N12, F2⟩ := E10.size_ok (bg 1048571) (bg_ok _ (by omega)) (bg_sm _ (by omega)) (bg_chk _)
  rw [bg_len _ (by omega) (by omega)] at F1 F2
  have gB : isB (enc (bg 1048571).core) := E18.enc_B _ (bg_ok _ (by omega)) (vld_of _ _ _ _ (bg_chk _)) (by rw [bg_len _ (by omega) (by omega)]; omega)
  have F3 := E61.get false (enc (bg 1048571).core ++ [0]) none (fun h => by cases h) (E63.isB_app gB (fun x h => by simp at h; omega))
  have r3 : rg (enc (bg 1048571).core ++ [0]) = .bad 0 3 := by unfold rg; rw [if_pos (by rw [List.length_append, bg_len _ (by omega) (by omega)]; simp)]
  rw [r3] at F3
  obtain ⟨n', m', rb⟩ := rgb
  have F4 := E61.get false (enc (bg 1048571).core) (some 1048576) (fun h => by cases h) gB
  rw [rb] at F4
  obtain ⟨N13, F5⟩ := E10.put_big (bg 1048572) (bg_ok _ (by omega)) (bg_sm _ (by omega)) (bg_chk _) (by rw [bg_len _ (by omega) (by omega)]; omega)
  obtain ⟨N14, F6⟩ := E10.size_ok (bg 1048572) (bg_ok _ (by omega)) (bg_sm _ (by omega)) (bg_chk _)
  rw [bg_len _ (by omega) (by omega), if_neg (by omega)] at F6
  rw [if_pos (by omega)] at F2
  have b1 : (bg 1048571).av = .agg [.int .u8 0, .bool false, .int .u32 4, .sl false (bs (zs 1048571)) (some 1048571), .sl true [] (some 0)] := rfl
  have b2 : (bg 1048572).av = .agg [.int .u8 0, .bool false, .int .u32 4, .sl false (bs (zs 1048572)) (some 1048572), .sl true [] (some 0)] := rfl
  have m1 : (E5.meas (wd 8191)).2.1 = 8192 := by
    have hv : (chk (wd 8191).core 1 0 0).1 = 0 := by rw [chk_wd _ (by omega)]; rfl
    have cd := chk_dep (wd 8191).core 1 0 0 hv
    unfold E5.meas
    rw [if_pos hv, cd.2.1, wd_cnt]
    rfl
  rw [m1] at E2
  rw [chk_wd 8192 (by omega), if_neg (by omega)] at E3
  rw [chk16] at D3
  rw [dep15] at D2
  rw [deep_len] at D1
  rw [mL] at E1
  rw [a15] at C1 D1 D2 D4
  rw [a16] at C2 D3
  rw [aw1] at C3 E1 E2 E4
  rw [aw2] at C4 E3
  rw [b1] at F1 F2
  rw [b2] at F5 F6
  have dl := deep_len
  have bl := bg_len 1048571 (by omega) (by omega)
  have e5 : bs ([49, 130, 64, 0] ++ pr 8192) = .int .u8 49 :: .int .u8 130 :: .int .u8 64 :: .int .u8 0 :: (bs (pr 8191) ++ [.int .u8 5, .int .u8 0]) := by rw [pr_snoc]; simp [bs]
  rw [e5] at E5x
  have e6 : bs (48 :: 32 :: enc (nst 15).core) = .int .u8 48 :: .int .u8 32 :: bs (enc (nst 15).core) := rfl
  rw [e6] at D5
  have e7 : bs (enc (bg 1048571).core ++ [0]) = bs (enc (bg 1048571).core) ++ [.int .u8 0] := by simp [bs]
  rw [e7] at F3
  have pl : (pr 8191).length = 16382 := pr_len 8191
  generalize enc (nst 15).core = D at *
  generalize enc (wd 8191).core = M at *
  generalize hP : pr 8191 = P at *
  have z1 := zs_bs 1048571
  have z2 := zs_bs 1048572
  have l1 := zs_len 1048571
  have l2 := zs_len 1048572
  generalize zs 1048571 = Z1 at *
  generalize zs 1048572 = Z2 at *
  generalize enc (bg 1048571).core = B at *
  obtain ⟨K, hK⟩ : ∃ K, N1 + N2 + N3 + N4 + N5 + N6 + N7 + N8 + N9 + N10 + N11 + N12 + N13 + N14 + (B ++ [0]).length + B.length + 8191 + 8192 + 600 = K := ⟨_, rfl⟩
  refine ⟨K + 1, E67.fin K (by omega) D M P Z1 Z2 B n15 n16 w1 w2 p15 p16 q1 q2 dl mL pl l1 l2 (by omega) z1 z2
    (fun h => C1 K (by omega) 0 h) (fun h => C2 K (by omega) 0 h) (fun h => C3 K (by omega) 0 h) (fun h => C4 K (by omega) 0 h)
    (fun h => D1 K (by omega) 0 h) (fun h => D2 K (by omega) 0 h) (fun h => D3 K (by omega) 0 h) (fun h => D4 K (by omega) 0 h) (fun h => D5 K (by omega) 0 h)
    (fun h => E1 K (by omega) 0 h) (fun h => E2 K (by omega) 0 h) (fun h => E3 K (by omega) 0 h) (fun h => E4 K (by omega) 0 h) cut (fun h => E5x K (by omega) 0 h)
    (fun h => F1 K (by omega) 0 h) (fun h => F2 K (by omega) 0 h) (fun h => F3 K (by omega) 0 h) _ (fun h => F4 K (by omega) 0 h) (fun h => F5 K (by omega) 0 h) (fun h => F6 K (by omega) 0 h)⟩
end E68
end
section
open Ab Go TabE
namespace L12
theorem law : ∃ N, Con E N 6 [] (.bool true) := E68.law
end L12
end
