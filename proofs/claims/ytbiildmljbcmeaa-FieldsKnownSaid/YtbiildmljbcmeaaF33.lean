/- Own work, no conditions. -/
import Derived.Test.YtbiildmljbcmeaaLW
import Derived.Test.YtbiildmljbcmeaaF68
import Derived.Test.YtbiildmljbcmeaaB24
import Derived.Test.YtbiildmljbcmeaaLV
import Derived.Test.YtbiildmljbcmeaaB40
set_option maxRecDepth 20000
set_option linter.unusedSimpArgs false
set_option linter.unusedVariables false
set_option maxHeartbeats 16000000
section
open Ab Go TabE
attribute [local simp ↓] s_seq s_reg s_regd s_cond s_block s_cons s_consG s_regD
attribute [local simp] s_nil s_loop s_round s_lpn s_lpe s_lpr firstReg s_gt s_gf s_wb s_wu s_val s_valN s_skip s_calls s_callP s_cax lookR flatR pureKs s_ret s_rgx s_sqn s_sqr s_sqe s_cdb s_bkn s_bkr s_bke s_exit s_ret' s_skip' s_finr s_finn s_fin1 s_fix s_clean s_gc0 o_tmp o_int o_bool o_nil o_str o_fn o_nil' l_hit l_miss l_nil ol_nil ol_cons ol_some x_move x_assign x_pick pk_t pk_f x_bin bn_s x_un x_extract x_callF cl_no x_callB x_callBF frzV x_conv cvx convA frame0 binA intOp resL resA results1 sealLW AV.pure AV.pureL keepT x_alloc x_box bxx x_build bdx x_buildSlice bsx x_buildSliceF bsf x_load ldx x_store stx x_slice slx x_fieldAddr x_field x_index ixx x_indexAddr iax x_makeSlice msx x_makeSliceF msf x_nilCheck newK genOf setK lookK fillA writeL writeC readC conts TyI.mk1 sliceA boundsA boundsB fitsA numA indexAddrA fieldAddrA partA fieldA indexA appendA copyA builtinA AV.cells chunk gcH reach keysT keepK inKs AV.keys AV.keysL Ty.isAgg eq1 eqL convA.go ltI w_u8 w_u32 w_u64 w_i64 w_fdiv w_tdiv w_tmod IntKind.bits unA sc_int sc_bool sc_str sc_sl sc_ref sc_ptr sc_pel sc_nilp sc_fn sc_nilf sc_if sc_nili sc_agg sc_tup sc_mem bs_pure bs_kl bs_length bs_cells bs_all sl_row sealRow sealY sl_int sl_bool sl_str sl_sl sl_nilp sl_nilf sl_nili sl_pel sl_agg sl_tup sl_fn sl_if nat_1 bs_cons bs_nil i_beq i_bne x_mkF x_mkI x_tassert x_panic s_pan s_sqp s_bkp s_finp s_fixp s_lpp s_rgp s_retp s_site s_stxN s_stxO x_callT clx El.avs_len s_dyn0 s_rgy barOf dynChk footL dynOK disjK keysOp opVals Op.operands
section
open Ab Go TabE Sp E34 F1 F4 F5 F7 F11
namespace F15
def kE : El := .mk 0 true 16 true [] (some 0) false [.mk 0 false 2 false [5] (some 1) true [] (some 0), .mk 0 false 1 false [255] (some 1) true [] (some 0)] (some 2)
theorem known : Con E 30 55 [] kE.av := .of (g := []) rfl (by kernel_rfl)
end F15
end
section
open Ab Go TabE Sp E34 F1 F4 F5 F6
namespace F69
abbrev fd : Fld := ⟨0, false, 0, true, true⟩
abbrev fz0 : Fld := ⟨0, false, 0, false, false⟩
def b : Code := lp c17 0
abbrev S (cs : List AV) (i : Nat) : St := ⟨[(1, .ref (1, 11, 0) 0 257 (some 257)), (2, .int .i64 (i : Int))], [((1, 11, 0), ⟨cs, true, true, true, 5, true⟩)]⟩
theorem go (q k1 : Nat) (cs A B : List AV) (i : Nat) (hi : i < 257) (hl : cs.length = 1285) (ht : cs.take (i * 5) = A) (hd : cs.drop (i * 5 + 5) = B) (kc : AV.keysL cs = []) (kA : AV.keysL A = []) (kB : AV.keysL B = []) :
    rndO fn17 b q k1 (S cs i) = some (.normal, S (A ++ ([.int .u8 0, .bool false, .int .u32 0, .bool true, .bool true] ++ B)) (i + 1)) := by
  have hi' : (i : Int) < 257 := by omega
  have w := w64' ((i : Int) + 1) (by omega) (by omega)
  have h5 : i * 5 + 5 ≤ 1285 := by omega
  have ix : ∀ h, indexAddrA E 67 (.ref (1, 11, 0) 0 257 (some 257)) (.int .i64 (i : Int)) h = some (.ptr (1, 11, 0) (i * 5)) := fun h => by simp [indexAddrA, hi']
  have ka : AV.keysL (A ++ [.int .u8 0, .bool false, .int .u32 0, .bool true, .bool true] ++ B) = [] := by
    rw [El.keysL_app, El.keysL_app, kA, kB]; rfl
  have ka2 : AV.keysL (A ++ (AV.int .u8 0 :: AV.bool false :: AV.int .u32 0 :: AV.bool true :: AV.bool true :: B)) = [] := by
    rw [El.keysL_app, kA]; simp [AV.keysL, AV.keys, kB]
  simp [b, lp, lps, c17, -indexAddrA, ix, hi, hi', hl, ht, hd, w, h5, kc, ka, ka2]
abbrev Out (cs : List AV) : AExit × St := (.exit 0, ⟨(S cs 257).t ++ [(13, .bool false)], (S cs 257).h⟩)
theorem last (q k1 : Nat) (cs : List AV) (kc : AV.keysL cs = []) : rndO fn17 b q k1 (S cs 257) = some (Out cs) := by
  simp [b, lp, lps, c17, kc]
def rowc (i : Nat) : List AV := Rw.row Fld.cells (List.replicate i fd ++ List.replicate (257 - i) fz0)
theorem rowc_len (i : Nat) (h : i ≤ 257) : (rowc i).length = 1285 := by unfold rowc; rw [Rw.row_len Fld.cl]; simp; omega
theorem rowc_keys (i : Nat) : AV.keysL (rowc i) = [] := Rw.row_keys Fld.cl _
theorem rep_len (x : Fld) (i : Nat) : (Rw.row Fld.cells (List.replicate i x)).length = i * 5 := by rw [Rw.row_len Fld.cl, List.length_replicate]
theorem rowc_take (i : Nat) : (rowc i).take (i * 5) = Rw.row Fld.cells (List.replicate i fd) := by
  unfold rowc
  rw [Rw.row_app, ← rep_len fd i, List.take_left']
  rfl
theorem rowc_drop (i : Nat) (h : i < 257) : (rowc i).drop (i * 5 + 5) = Rw.row Fld.cells (List.replicate (256 - i) fz0) := by
  unfold rowc
  rw [Rw.row_app, ← List.drop_drop, ← rep_len fd i, List.drop_left', show 257 - i = 256 - i + 1 from by omega, List.replicate_succ, Rw.row_cons]
  · rfl
  · rfl
theorem rowc_next (i : Nat) (h : i < 257) : Rw.row Fld.cells (List.replicate i fd) ++ ([.int .u8 0, .bool false, .int .u32 0, .bool true, .bool true] ++ Rw.row Fld.cells (List.replicate (256 - i) fz0)) = rowc (i + 1) := by
  unfold rowc
  rw [List.replicate_succ', Rw.row_app, Rw.row_app, Rw.row_one, show 257 - (i + 1) = 256 - i from by omega, List.append_assoc]
  rfl
theorem loop (K : Nat) (hK : 257 < K) : aLoop (aCode E (site fn17 (aRun E K)) (dcall (aRun E K)) K 1 fn17 b) (cleanS 1 ((firstReg b).bind fn17.head)) K (S (rowc 0) 0) = some (Out (rowc 257)) :=
  loopO (fn := fn17) (b := b) (K := K) (k := K) (fun i => S (rowc i) i) 257 rfl (fun i hi => by
    have := go K K (rowc i) _ _ i hi (rowc_len i (by omega)) (rowc_take i) (rowc_drop i hi) (rowc_keys i) (Rw.row_keys Fld.cl _) (Rw.row_keys Fld.cl _)
    rwa [rowc_next i hi] at this) (last K K _ (rowc_keys 257)) (by simp) hK
def V : List AV := (List.replicate 257 fd).map Fld.av
def V6 : List AV := (List.replicate 256 fd).map Fld.av
def o6 : List Int := 0 :: 1 :: List.replicate 254 (-1)
theorem sq6 : F8.sq F15.kE (0, true, 16) (List.replicate 256 fd) = .inl o6 := by kernel_rfl
theorem sq7 : F8.sq F15.kE (0, true, 17) (List.replicate 257 fd) = .inr (3, []) := by kernel_rfl
end F69
end
section
open Ab Go TabE Sp E34 F1 F5
namespace FO
theorem sealM_pure : ∀ (m : List Bool) (args : List AV) (h : Heap), AV.pureL args = true → sealM (sealA 20) m h args = some (args, h)
  | [], [], h, _ => rfl
  | [], x :: r, h, hp => by
    unfold sealM
    exact sealL_of_pure 19 _ h hp
  | true :: m, [], h, _ => rfl
  | false :: m, [], h, _ => rfl
  | b :: m, x :: r, h, hp => by
    have hp' : x.pure = true ∧ AV.pureL r = true := by simpa [AV.pureL] using hp
    have ih := sealM_pure m r h hp'.2
    cases b
    · unfold sealM
      have : sealA 20 h x = some (x, h) := by unfold sealA; rw [if_pos hp'.1]
      rw [this]
      simp only [ih]
    · unfold sealM
      rw [ih]
theorem setK_same : ∀ (h : Heap) (key : Key) (o : AObj), lookK h key = some o → setK h key o = h
  | [], key, o, h => by simp [lookK] at h
  | (k, x) :: r, key, o, h => by
    unfold lookK at h
    unfold setK
    by_cases e : k = key
    · rw [if_pos e] at h ⊢; cases h; rw [e]
    · rw [if_neg e] at h ⊢; rw [setK_same r key o h]
theorem op_fresh {run : RunF} {slot : Nat} {g : FuncId} {m : List Bool} {args : List AV} {h hf : Heap} {v : AV} (ks : List Key) (hp : AV.pureL args = true) (hr : run g args [] = some (.ret v, hf))
    (e7 : dd (reach hf 3 (AV.keysL [v])) = ks) (cl : closedH hf ks ks = true) (nk : ∀ k ∈ ks, k.1 ≠ 0) (vk : (AV.keysL [v]).all (inKs ks) = true) :
    opened m false run slot g args h = some (.ret (AV.rn (outK [] ks slot (genOf h 1 slot)) v), putAll hf (outK [] ks slot (genOf h 1 slot)) ks h) := by
  unfold opened
  rw [sealM_pure m args h hp]
  simp only
  have e0 : AV.keysL args = [] := AV.keysL_pure _ hp
  rw [e0]
  have e2 : dd (reach h 3 []) = [] := rfl
  rw [e2]
  unfold lendA
  have e3 : lendH h (inK []) [] = some [] := rfl
  rw [e3]
  simp only [e0]
  rw [if_pos ⟨by rfl, by rfl⟩]
  have e5 : AV.rnL (inK []) args = args := rnL_pure args hp
  rw [e5, hr]
  have e9 : lentKs 0 = [] := rfl
  simp only [backR, Bool.false_eq_true, if_false, backV, Ab.back, List.length_nil, e9, List.nil_append, e7, backA]
  have ok : ks.all (okK 0) = true := List.all_eq_true.2 fun k hk => by simp [okK, nk k hk]
  have fl : ks.filter (fun k => !decide (k.1 = 0)) = ks := List.filter_eq_self.2 fun k hk => by simp [nk k hk]
  rw [if_pos ⟨cl, ok, vk, by rfl⟩]
  simp only [fl, AV.rnL]
end FO
end
end
section
open Ab Go TabE Sp E34 F1 F4 F5 F6 F69
namespace F70
def l1 : List (Option Nat × Code) := ((flat fn17.body).take 8).zipIdx.map fun p => (if p.2 = 4 then some 1 else none, p.1)
theorem l_eq : l1.map (·.2) ++ F68.rest.map (·.2) = flat fn17.body := by kernel_rfl
theorem V_len : V.length = 257 := by unfold V; rw [List.length_map, List.length_replicate]
theorem cut (g : Heap) : sliceA E 67 (.sl false V (some 257)) none (some (.int .i64 256)) none g = some (.sl false V6 (some 257)) := by
  have t : V.take 256 = V6 := by unfold V V6; rw [← List.map_take, List.take_replicate]; rfl
  simp [sliceA, boundsA, fitsA, numA, boundsB, V_len, t]
theorem row0 : (List.replicate 257 [AV.int .u8 0, .bool false, .int .u32 0, .bool false, .bool false]).flatten = rowc 0 := by
  have : ∀ n, (List.replicate n [AV.int .u8 0, .bool false, .int .u32 0, .bool false, .bool false]).flatten = Rw.row Fld.cells (List.replicate n fz0) := fun n => by
    induction n with
    | zero => rfl
    | succ n ih => rw [List.replicate_succ, List.flatten_cons, ih, List.replicate_succ, Rw.row_cons]; rfl
  rw [this]
  unfold rowc
  simp
theorem rowE : rowc 257 = Rw.row Fld.cells (List.replicate 257 fd) := by unfold rowc; simp
theorem op_con {K : Nat} {f : FuncId} {args : List AV} {v : AV} {m : List Bool} {slot : Nat} {h : Heap} (hp : AV.pureL args = true) (C : aCall E K slot f args h = some (.ret v, h)) : opened m true (aRun E K) slot f args h = some (.ret v, h) := by
  obtain ⟨a', h1, e1, e2, e3⟩ := sealed_lend C
  rw [sealL_of_pure 19 args h hp] at e1
  cases e1
  unfold opened
  rw [FO.sealM_pure m args h hp]
  simp only
  have e0 : AV.keysL args = [] := AV.keysL_pure _ hp
  rw [e0]
  exact e3
theorem run1 (K : Nat) (hK : 400 ≤ K) : aCodesG E (site fn17 (aRun E K)) (dcall (aRun E K)) K 1 fn17 l1 ⟨[], []⟩ = some (.normal, F68.s1) := by
  have L := loop K (by omega)
  have C1 := F15.known K (by omega) 0
  have T0 := F1.tag 0 (by omega) (by omega) K (by omega) 0
  have T1 := F1.tag 1 (by omega) (by omega) K (by omega) 0
  have t0 : tg 0 = (0, true, 16) := by decide
  have t1 : tg 1 = (0, true, 17) := by decide
  rw [t0] at T0
  rw [t1] at T1
  have S1 := F8.sequence false (some 257) (List.replicate 256 fd) F15.kE (0, true, 16) (by decide) (by rw [List.length_replicate]; omega) K (by rw [List.length_replicate]; omega) 0
  have S2 := F8.sequence false (some 257) (List.replicate 257 fd) F15.kE (0, true, 17) (by decide) (by rw [List.length_replicate]; omega) K (by rw [List.length_replicate]; omega) 0
  rw [sq6] at S1
  rw [sq7] at S2
  have v6 : (List.replicate 256 fd).map Fld.av = V6 := rfl
  have v7 : (List.replicate 257 fd).map Fld.av = V := rfl
  rw [v6] at S1
  rw [v7] at S2
  have R := F5.rnil 3 (-1) (by omega) K (by omega) 0
  have G := F5.fault1 [] 3 (by simp) K (by simp; omega) 0
  have ol : o6.length = 256 := by unfold o6; simp
  have i0 := int_at false (some 256) o6 0 0 rfl
  have i1 := int_at false (some 256) o6 1 1 rfl
  have i2 := int_at false (some 256) o6 255 (-1) (by unfold o6; rw [List.getElem?_cons_succ, List.getElem?_cons_succ, List.getElem?_replicate, if_pos (by omega)])
  have sx := fun (h : Heap) (hk : lookK h (1, 11, 0) = some ⟨rowc 257, true, true, true, 5, true⟩) => Rw.rseal Fld.cl 18 h (1, 11, 0) (List.replicate 257 fd) (some 257) true true (by rw [← rowE]; exact hk)
  rw [List.length_replicate] at sx
  have sv : (List.replicate 257 fd).map (fun x => AV.agg (Fld.cells x)) = V := rfl
  rw [sv, ← rowE] at sx
  have pV : AV.pureL V = true := F8.fld_pure _
  have pV6 : AV.pureL V6 = true := F8.fld_pure _
  have kr := rowc_keys 257
  have kr0 := rowc_keys 0
  have lr := rowc_len 257 (by omega)
  have lv := V_len
  have kn : F15.kE.av = .agg (ec F15.kE) := El.av_eq _
  rw [kn] at C1 S1 S2
  simp only [F8.qF, ol] at S1 S2
  have pk : AV.pureL [.agg (ec F15.kE), .agg [.int .u8 0, .bool true, .int .u32 17], .sl false V (some 257)] = true := by rw [← El.av_eq]; simp [AV.pureL, AV.pure, El.av_pure]
  have S2' := fun slot m h => op_con (m := m) pk ((F8.sequence false (some 257) (List.replicate 257 fd) F15.kE (0, true, 17) (by decide) (by rw [List.length_replicate]; omega)) K (by rw [List.length_replicate]; omega) slot h |> fun q => by rw [sq7, v7, kn] at q; exact q)
  simp only [F8.qF] at S2'
  unfold l1
  rw [body_17, c17]
  simp [b, lp, lps, c17, firstReg, F69.S] at L
  simp at i0 i1 i2
  simp [fF, fR] at R G
  simp [flat, List.zipIdx, aCodesG, sealO, ↓s_reg, ↓s_regd, ↓s_cond, ↓s_block, ↓s_cons, ↓s_consG, s_nil, s_loop, firstReg, s_gt, s_wb, s_val, s_skip, s_callP, s_cax, s_ret, s_rgx, s_cdb, s_bke, s_skip', s_clean, o_tmp, o_int, o_bool, l_hit, l_miss, ol_nil, ol_cons, ol_some, x_move, x_assign, x_pick, pk_f, x_bin, bn_s, x_extract, x_callF, cl_no, x_callB, binA, intOp, sealLW, AV.pure, AV.pureL, keepT, x_alloc, x_load, ldx, x_store, stx, x_slice, slx, x_fieldAddr, x_indexAddr, iax, x_makeSlice, msx, newK, genOf, setK, lookK, writeL, writeC, readC, conts, TyI.mk1, fieldAddrA, appendA, copyA, builtinA, AV.cells, gcH, reach, keysT, keepK, inKs, AV.keys, AV.keysL, Ty.isAgg, sc_int, sc_sl, sl_row, sealRow, sealY, sl_int, i_beq, s_site, s_stxN, s_stxO, -List.reduceReplicate, L, C1, T0, T1, S1, S2', R, G, ol, i0, i1, i2, sx, kr0, lr, row0, cut, F68.s1]
end F70
end
section
open Ab Go TabE
attribute [local simp ↓] s_seq s_reg s_regd s_cond s_block s_cons s_consG
attribute [local simp] s_nil s_loop s_round s_lpn s_lpe s_lpr firstReg s_gt s_gf s_wb s_wu s_val s_valN s_skip s_calls s_callP s_cax lookR flatR pureKs s_ret s_rgx s_sqn s_sqr s_sqe s_cdb s_bkn s_bkr s_bke s_exit s_ret' s_skip' s_finr s_finn s_fin1 s_fix s_clean s_gc0 o_tmp o_int o_bool o_nil o_str o_fn o_nil' l_hit l_miss l_nil ol_nil ol_cons ol_some x_move x_assign x_pick pk_t pk_f x_bin bn_s x_un x_extract x_callF cl_no x_callB x_callBF frzV x_conv cvx convA frame0 binA intOp resL resA results1 sealLW AV.pure AV.pureL keepT x_alloc x_box bxx x_build bdx x_buildSlice bsx x_buildSliceF bsf x_load ldx x_store stx x_slice slx x_fieldAddr x_field x_index ixx x_indexAddr iax x_makeSlice msx x_makeSliceF msf x_nilCheck newK genOf setK lookK fillA writeL writeC readC conts TyI.mk1 sliceA boundsA boundsB fitsA numA indexAddrA fieldAddrA partA fieldA indexA appendA copyA builtinA AV.cells chunk gcH reach keysT keepK inKs AV.keys AV.keysL Ty.isAgg eq1 eqL convA.go ltI w_u8 w_u32 w_u64 w_i64 w_fdiv w_tdiv w_tmod IntKind.bits unA sc_int sc_bool sc_str sc_sl sc_ref sc_ptr sc_pel sc_nilp sc_fn sc_nilf sc_if sc_nili sc_agg sc_tup sc_mem bs_pure bs_kl bs_length bs_cells bs_all sl_row sealRow sealY sl_int sl_bool sl_str sl_sl sl_nilp sl_nilf sl_nili sl_pel sl_agg sl_tup sl_fn sl_if nat_1 bs_cons bs_nil i_beq i_bne x_mkF x_mkI x_tassert x_panic s_pan s_sqp s_bkp s_finp s_fixp s_lpp s_rgp s_retp s_site s_stxN s_stxO x_callT clx El.avs_len
section
open Ab Go TabE Sp E34 F1 F4 F5
namespace F17
theorem dig1 (v : Int) (h0 : 0 ≤ v) (h1 : v < 128) : Con E 20 108 [.int .u32 v] (.sl false [.int .u8 (TG.oct v 0)] (some 1)) := by
  refine con_of E_fn108 rfl (Nat.le_of_ble_eq_true rfl) rfl rfl (g := []) ?_
  rw [body_108, c108]
  have q1 : v.tmod 128 = v := by rw [Int.tmod_eq_emod_of_nonneg h0]; omega
  have q2 : v.tdiv 128 = 0 := by rw [Int.tdiv_eq_ediv_of_nonneg h0]; omega
  have q3 : v % 256 = v := by omega
  have o : TG.oct v 0 = v := by unfold TG.oct; simp; omega
  simp [q1, q2, q3, o, w_i64]
theorem dig2 (v : Int) (h0 : 128 ≤ v) (h1 : v < 16384) : Con E 20 108 [.int .u32 v] (.sl false [.int .u8 (TG.oct v 1), .int .u8 (TG.oct v 0)] none) := by
  refine con_of E_fn108 rfl (Nat.le_of_ble_eq_true rfl) rfl rfl (g := []) ?_
  rw [body_108, c108]
  have q1 : v.tmod 128 = v % 128 := Int.tmod_eq_emod_of_nonneg (by omega)
  have q2 : v.tdiv 128 = v / 128 := Int.tdiv_eq_ediv_of_nonneg (by omega)
  have q3 : v % 128 % 256 = v % 128 := by omega
  have a1 : 0 < v / 128 := by omega
  have m1 : v / 128 % 4294967296 = v / 128 := by omega
  have q4 : (v / 128).tmod 128 = v / 128 := by rw [Int.tmod_eq_emod_of_nonneg (by omega)]; omega
  have q5 : (v / 128).tdiv 128 = 0 := by rw [Int.tdiv_eq_ediv_of_nonneg (by omega)]; omega
  have m2 : (128 + v / 128) % 4294967296 = 128 + v / 128 := by omega
  have q6 : (128 + v / 128) % 256 = 128 + v / 128 := by omega
  have o0 : TG.oct v 0 = v % 128 := by unfold TG.oct; simp
  have o1 : TG.oct v 1 = 128 + v / 128 := by unfold TG.oct; simp; omega
  simp [q1, q2, q3, a1, m1, m2, q4, q5, q6, o0, o1, w_i64]
theorem dig3 (v : Int) (h0 : 16384 ≤ v) (h1 : v < 2097152) : Con E 20 108 [.int .u32 v] (.sl false [.int .u8 (TG.oct v 2), .int .u8 (TG.oct v 1), .int .u8 (TG.oct v 0)] none) := by
  refine con_of E_fn108 rfl (Nat.le_of_ble_eq_true rfl) rfl rfl (g := []) ?_
  rw [body_108, c108]
  have q1 : v.tmod 128 = v % 128 := Int.tmod_eq_emod_of_nonneg (by omega)
  have q2 : v.tdiv 128 = v / 128 := Int.tdiv_eq_ediv_of_nonneg (by omega)
  have q3 : v % 128 % 256 = v % 128 := by omega
  have a1 : 0 < v / 128 := by omega
  have m1 : v / 128 % 4294967296 = v / 128 := by omega
  have q4 : (v / 128).tmod 128 = v / 128 % 128 := Int.tmod_eq_emod_of_nonneg (by omega)
  have q5 : (v / 128).tdiv 128 = v / 16384 := by rw [Int.tdiv_eq_ediv_of_nonneg (by omega)]; omega
  have a2 : 0 < v / 16384 := by omega
  have m3 : v / 16384 % 4294967296 = v / 16384 := by omega
  have q7 : (v / 16384).tmod 128 = v / 16384 := by rw [Int.tmod_eq_emod_of_nonneg (by omega)]; omega
  have q8 : (v / 16384).tdiv 128 = 0 := by rw [Int.tdiv_eq_ediv_of_nonneg (by omega)]; omega
  have m2 : (128 + v / 128 % 128) % 4294967296 = 128 + v / 128 % 128 := by omega
  have m4 : (128 + v / 16384) % 4294967296 = 128 + v / 16384 := by omega
  have q6 : (128 + v / 128 % 128) % 256 = 128 + v / 128 % 128 := by omega
  have q9 : (128 + v / 16384) % 256 = 128 + v / 16384 := by omega
  have o0 : TG.oct v 0 = v % 128 := by unfold TG.oct; simp
  have o1 : TG.oct v 1 = 128 + v / 128 % 128 := by unfold TG.oct; simp; omega
  have o2 : TG.oct v 2 = 128 + v / 16384 := by unfold TG.oct; simp; omega
  simp [q1, q2, q3, a1, a2, m1, m2, m3, m4, q4, q5, q7, q8, q6, q9, o0, o1, o2, w_i64]
theorem dig4 (v : Int) (h0 : 2097152 ≤ v) (h1 : v < 268435456) : Con E 20 108 [.int .u32 v] (.sl false [.int .u8 (TG.oct v 3), .int .u8 (TG.oct v 2), .int .u8 (TG.oct v 1), .int .u8 (TG.oct v 0)] none) := by
  refine con_of E_fn108 rfl (Nat.le_of_ble_eq_true rfl) rfl rfl (g := []) ?_
  rw [body_108, c108]
  have q1 : v.tmod 128 = v % 128 := Int.tmod_eq_emod_of_nonneg (by omega)
  have q2 : v.tdiv 128 = v / 128 := Int.tdiv_eq_ediv_of_nonneg (by omega)
  have q3 : v % 128 % 256 = v % 128 := by omega
  have a1 : 0 < v / 128 := by omega
  have m1 : v / 128 % 4294967296 = v / 128 := by omega
  have q4 : (v / 128).tmod 128 = v / 128 % 128 := Int.tmod_eq_emod_of_nonneg (by omega)
  have q5 : (v / 128).tdiv 128 = v / 16384 := by rw [Int.tdiv_eq_ediv_of_nonneg (by omega)]; omega
  have a2 : 0 < v / 16384 := by omega
  have m3 : v / 16384 % 4294967296 = v / 16384 := by omega
  have q7 : (v / 16384).tmod 128 = v / 16384 % 128 := Int.tmod_eq_emod_of_nonneg (by omega)
  have q8 : (v / 16384).tdiv 128 = v / 2097152 := by rw [Int.tdiv_eq_ediv_of_nonneg (by omega)]; omega
  have a3 : 0 < v / 2097152 := by omega
  have m5 : v / 2097152 % 4294967296 = v / 2097152 := by omega
  have p7 : (v / 2097152).tmod 128 = v / 2097152 := by rw [Int.tmod_eq_emod_of_nonneg (by omega)]; omega
  have p8 : (v / 2097152).tdiv 128 = 0 := by rw [Int.tdiv_eq_ediv_of_nonneg (by omega)]; omega
  have m2 : (128 + v / 128 % 128) % 4294967296 = 128 + v / 128 % 128 := by omega
  have m4 : (128 + v / 16384 % 128) % 4294967296 = 128 + v / 16384 % 128 := by omega
  have m6 : (128 + v / 2097152) % 4294967296 = 128 + v / 2097152 := by omega
  have q6 : (128 + v / 128 % 128) % 256 = 128 + v / 128 % 128 := by omega
  have q9 : (128 + v / 16384 % 128) % 256 = 128 + v / 16384 % 128 := by omega
  have p9 : (128 + v / 2097152) % 256 = 128 + v / 2097152 := by omega
  have o0 : TG.oct v 0 = v % 128 := by unfold TG.oct; simp
  have o1 : TG.oct v 1 = 128 + v / 128 % 128 := by unfold TG.oct; simp; omega
  have o2 : TG.oct v 2 = 128 + v / 16384 % 128 := by unfold TG.oct; simp; omega
  have o3 : TG.oct v 3 = 128 + v / 2097152 := by unfold TG.oct; simp; omega
  simp [q1, q2, q3, a1, a2, a3, m1, m2, m3, m4, m5, m6, q4, q5, q7, q8, q6, q9, p7, p8, p9, o0, o1, o2, o3, w_i64]
theorem dig (v : Int) (h0 : 0 ≤ v) (h1 : v ≤ 268435455) : ∃ c, Con E 20 108 [.int .u32 v] (.sl false (bs (TG.grp v)) c) := by
  unfold TG.grp TG.top
  by_cases a : v < 128
  · rw [if_pos a]; exact ⟨_, dig1 v h0 a⟩
  rw [if_neg a]
  by_cases b : v < 16384
  · rw [if_pos b]; exact ⟨_, dig2 v (by omega) b⟩
  rw [if_neg b]
  by_cases c : v < 2097152
  · rw [if_pos c]; exact ⟨_, dig3 v (by omega) c⟩
  rw [if_neg c]
  exact ⟨_, dig4 v (by omega) (by omega)⟩
end F17
end
section
open Ab Go TabE Sp E34 F1 F4 F5 F17
namespace F18
def bE : Code := lp c84 0
abbrev S0 (e : El) (i : Nat) : St := ⟨[(1, .ptr (1, 1, 0) 0), (3, .sl true [] (some 0)), (4, .int .i64 (i : Int))], [((1, 1, 0), bx (ec e))]⟩
abbrev SR (e : El) (i : Nat) (key : Key) (ys : List Int) : St := ⟨[(1, .ptr (1, 1, 0) 0), (3, .ref key 0 ys.length none), (4, .int .i64 (i : Int))], [((1, 1, 0), bx (ec e)), (key, ⟨bs ys, true, true, false, 1, false⟩)]⟩
theorem first (q k1 : Nat) (e x : El) (i : Nat) (xs : List Int) (c : Option Nat) (hx : e.s[i]? = some x) (le : e.s.length ≤ 9223372036854775807) (n0 : xs ≠ []) (n1 : xs.length ≤ 2000000) (B : ∀ h, aCall E q 0 84 [x.av] h = some (.ret (.sl false (bs xs) c), h)) :
    rndO fn84 bE q k1 (S0 e i) = some (.normal, SR e (i + 1) (1, 27, 0) xs) := by
  have hi : i < e.s.length := (List.getElem?_eq_some_iff.1 hx).1
  have ix := El.at_ e.fs e.cs e.s i x hx
  have w := w64' ((i : Int) + 1) (by omega) (by omega)
  have cp : xs.length ≤ 70368744177664 := by omega
  rw [El.av_eq] at B
  simp [bE, lp, lps, c84, -indexAddrA, ix, w, hi, B, n0, cp]
theorem next (q k1 : Nat) (e x : El) (i m : Nat) (xs ys : List Int) (c : Option Nat) (hx : e.s[i]? = some x) (le : e.s.length ≤ 9223372036854775807) (n1 : ys.length + xs.length ≤ 2000000) (B : ∀ h, aCall E q 0 84 [x.av] h = some (.ret (.sl false (bs xs) c), h)) :
    rndO fn84 bE q k1 (SR e i (1, 27, m) ys) = some (.normal, SR e (i + 1) (1, 27, m + 1) (ys ++ xs)) := by
  have hi : i < e.s.length := (List.getElem?_eq_some_iff.1 hx).1
  have ix := El.at_ e.fs e.cs e.s i x hx
  have w := w64' ((i : Int) + 1) (by omega) (by omega)
  have cp : ys.length + xs.length ≤ 70368744177664 := by omega
  have kk : AV.keysL (bs ys ++ bs xs) = [] := by rw [← bs_append]; exact bs_kl _
  rw [El.av_eq] at B
  simp [bE, lp, lps, c84, -indexAddrA, ix, w, hi, B, cp, bs_append, kk]
theorem last0 (q k1 : Nat) (e : El) : rndO fn84 bE q k1 (S0 e e.s.length) = some (.exit 0, ⟨[(1, .ptr (1, 1, 0) 0), (3, .sl true [] (some 0)), (4, .int .i64 (e.s.length : Int)), (17, .bool false)], [((1, 1, 0), bx (ec e))]⟩) := by
  simp [bE, lp, lps, c84]
theorem last (q k1 : Nat) (e : El) (key : Key) (ys : List Int) (hkey : key = (1, 12, 0) ∨ ∃ m, key = (1, 27, m)) : rndO fn84 bE q k1 (SR e e.s.length key ys) = some (.exit 0, ⟨[(1, .ptr (1, 1, 0) 0), (3, .ref key 0 ys.length none), (4, .int .i64 (e.s.length : Int)), (17, .bool false)], [((1, 1, 0), bx (ec e)), (key, ⟨bs ys, true, true, false, 1, false⟩)]⟩) := by
  rcases hkey with rfl | ⟨m, rfl⟩ <;> simp [bE, lp, lps, c84]
end F18
end
end
section
open Ab Go TabE Sp E12 E18 E26 E34 E36 F1 F4 F5
namespace F23
structure Gd (x : El) : Prop where
  ok : x.ok
  vld : vld x.core
  fw : Fw 1000 x
  dep : dep x.core ≤ 16
  cnt : cnt x.core ≤ 60
  len : (enc x.core).length ≤ 60000
theorem Gd.sub {e x : El} (g : Gd e) (hx : x ∈ e.s) : Gd x := by
  obtain ⟨v1, v2, v3, v4⟩ := (vld_eq e).1 g.vld
  have f := g.fw
  obtain ⟨_, h1, h2⟩ := f
  have d := g.dep
  rw [dep_eq] at d
  have c := g.cnt
  rw [cnt_eq] at c
  have := deps_mem hx
  have := cnts_mem hx
  have l := g.len
  have lm := encs_mem hx
  rw [enc_eq, List.length_append, List.length_append, List.length_append] at l
  exact ⟨g.ok.sub x hx, vlds_all.1 v4 x hx, h2 x hx, by omega, by omega, by omega⟩
theorem Gd.chk {e : El} (g : Gd e) : (chk e.core 1 0 0).1 = 0 := chk_of _ _ _ _ g.vld (by have := g.dep; omega) (by have := g.cnt; omega)
theorem Gd.sm {e : El} (g : Gd e) : e.sm := fw_sm (by omega) e g.fw (by have := g.cnt; omega)
theorem Gd.sl {e : El} (g : Gd e) : e.s.length ≤ 60 := by
  have c := g.cnt
  rw [cnt_eq] at c
  have := cnts_len e.s
  omega
end F23
end
section
open Ab Go TabE
attribute [local simp ↓] s_seq s_reg s_regd s_cond s_block s_cons s_consG s_regD
attribute [local simp] s_nil s_loop s_round s_lpn s_lpe s_lpr firstReg s_gt s_gf s_wb s_wu s_val s_valN s_skip s_calls s_callP s_cax lookR flatR pureKs s_ret s_rgx s_sqn s_sqr s_sqe s_cdb s_bkn s_bkr s_bke s_exit s_ret' s_skip' s_finr s_finn s_fin1 s_fix s_clean s_gc0 o_tmp o_int o_bool o_nil o_str o_fn o_nil' l_hit l_miss l_nil ol_nil ol_cons ol_some x_move x_assign x_pick pk_t pk_f x_bin bn_s x_un x_extract x_callF cl_no x_callB x_callBF frzV x_conv cvx convA frame0 binA intOp resL resA results1 sealLW AV.pure AV.pureL keepT x_alloc x_box bxx x_build bdx x_buildSlice bsx x_buildSliceF bsf x_load ldx x_store stx x_slice slx x_fieldAddr x_field x_index ixx x_indexAddr iax x_makeSlice msx x_makeSliceF msf x_nilCheck newK genOf setK lookK fillA writeL writeC readC conts TyI.mk1 sliceA boundsA boundsB fitsA numA indexAddrA fieldAddrA partA fieldA indexA appendA copyA builtinA AV.cells chunk gcH reach keysT keepK inKs AV.keys AV.keysL Ty.isAgg eq1 eqL convA.go ltI w_u8 w_u32 w_u64 w_i64 w_fdiv w_tdiv w_tmod IntKind.bits unA sc_int sc_bool sc_str sc_sl sc_ref sc_ptr sc_pel sc_nilp sc_fn sc_nilf sc_if sc_nili sc_agg sc_tup sc_mem bs_pure bs_kl bs_length bs_cells bs_all sl_row sealRow sealY sl_int sl_bool sl_str sl_sl sl_nilp sl_nilf sl_nili sl_pel sl_agg sl_tup sl_fn sl_if nat_1 bs_cons bs_nil i_beq i_bne x_mkF x_mkI x_tassert x_panic s_pan s_sqp s_bkp s_finp s_fixp s_lpp s_rgp s_retp s_site s_stxN s_stxO x_callT clx El.avs_len s_dyn0 s_rgy barOf dynChk footL dynOK disjK keysOp opVals Op.operands
section
open Ab Go TabE Sp E34 F1 F4 F5
namespace F31
abbrev z5 : List AV := [.int .u8 0, .bool false, .int .u32 0, .sl true [] (some 0), .sl true [] (some 0)]
def bA : Code := lp c61 0
abbrev SA (f : Bool) (ps : List Int) (c : Option Nat) (i : Nat) (x : El) : St := ⟨[(1, .sl f (ns ps) c), (2, .ptr (1, 2, 0) 0), (4, .ptr (1, 4, 0) 0), (6, .int .i64 (i : Int))], [((1, 2, 0), bx (ec x)), ((1, 4, 0), bx z5)]⟩
theorem go (q k1 : Nat) (f ps c) (i : Nat) (e x : El) (p : Int) (hp : ps[i]? = some p) (lp' : ps.length ≤ 1000) (p0 : 0 ≤ p) (hx : e.s[p.toNat]? = some x) : rnd fn61 bA q k1 (SA f ps c i e) = some (.normal, SA f ps c (i + 1) x) := by
  have hi : i < ps.length := (List.getElem?_eq_some_iff.1 hp).1
  have hl : p.toNat < e.s.length := (List.getElem?_eq_some_iff.1 hx).1
  have ip := int_at f c ps i p hp
  have ix := El.at_ e.fs e.cs e.s p.toNat x hx
  have pp : (p.toNat : Int) = p := Int.toNat_of_nonneg p0
  rw [pp] at ix
  have w := w64' ((i : Int) + 1) (by omega) (by omega)
  have p1 : ¬ p < 0 := by omega
  have p2 : p < (e.s.length : Int) := by omega
  have p3 : ¬ ((e.s.length : Int) ≤ p) := by omega
  have lv := El.avs_len e.s
  have ln := ns_len ps
  simp [bA, lp, lps, c61, -indexAddrA, ip, ix, w, hi, p1, p2, p3, lv, p0, ln]
theorem bad (q k1 : Nat) (f ps c) (i : Nat) (e : El) (p : Int) (hp : ps[i]? = some p) (lp' : ps.length ≤ 1000) (h : p < 0 ∨ e.s.length ≤ p) : rnd fn61 bA q k1 (SA f ps c i e) = some (.ret, ⟨[(4, .ptr (1, 4, 0) 0), (5, .bool false)], [((1, 4, 0), bx z5)]⟩) := by
  have hi : i < ps.length := (List.getElem?_eq_some_iff.1 hp).1
  have ip := int_at f c ps i p hp
  have lv := El.avs_len e.s
  have ln := ns_len ps
  by_cases h0 : p < 0
  · simp [bA, lp, lps, c61, -indexAddrA, ip, hi, h0, lv, ln]
  · have p2 : (e.s.length : Int) ≤ p := by omega
    have p3 : ¬ (p < (e.s.length : Int)) := by omega
    simp [bA, lp, lps, c61, -indexAddrA, ip, hi, h0, p2, p3, lv, ln]
abbrev BadA : AExit × St := (.ret, ⟨[(4, .ptr (1, 4, 0) 0), (5, .bool false)], [((1, 4, 0), bx z5)]⟩)
abbrev fin (f : Bool) (ps : List Int) (c : Option Nat) (e : El) : AExit × St := (.exit 0, ⟨[(1, .sl f (ns ps) c), (2, .ptr (1, 2, 0) 0), (4, .ptr (1, 4, 0) 0), (6, .int .i64 (ps.length : Int)), (10, .bool false)], [((1, 2, 0), bx (ec e)), ((1, 4, 0), bx z5)]⟩)
theorem last (q k1 : Nat) (f ps c) (e : El) : rnd fn61 bA q k1 (SA f ps c ps.length e) = some (fin f ps c e) := by
  have ln := ns_len ps
  simp [bA, lp, lps, c61, ln]
def nx (e : El) (p : Int) : El ⊕ (AExit × St) := if p < 0 then .inr BadA else match e.s[p.toNat]? with
  | some x => .inl x
  | none => .inr BadA
theorem run_walk (f ps c) : ∀ (r : List Int) (e : El), runL F31.nx (fin f ps c) r e = (match E34.walk e r with
    | some x => fin f ps c x
    | none => BadA)
  | [], e => rfl
  | p :: r, e => by
    unfold runL E34.walk F31.nx
    by_cases h : p < 0
    · rw [if_pos h, if_pos h]
    · rw [if_neg h, if_neg h]
      cases hx : e.s[p.toNat]? with
      | none => rfl
      | some x => exact run_walk f ps c r x
theorem rat (e : El) (f : Bool) (ps : List Int) (c : Option Nat) (lp' : ps.length ≤ 1000) : ∃ N, Con E N 61 [e.av, .sl f (ns ps) c] (match E34.walk e ps with
    | some x => .tup [x.av, .bool true]
    | none => .tup [.agg z5, .bool false]) := by
  obtain ⟨K, hK⟩ : ∃ K, ps.length + 60 = K := ⟨_, rfl⟩
  have L := loopL (f := aCode E (aCall E K) (dcall (aRun E K)) K 1 fn61 bA) (cl := cleanS 1 ((firstReg bA).bind fn61.head)) ps (fun i e => SA f ps c i e) F31.nx (fin f ps c) (fun _ => True) (fun i p e hp _ => by
    refine ⟨fun x hx => ?_, fun r hr => ?_⟩
    · unfold F31.nx at hx
      by_cases h : p < 0
      · rw [if_pos h] at hx; cases hx
      · rw [if_neg h] at hx
        cases hq : e.s[p.toNat]? with
        | none => rw [hq] at hx; cases hx
        | some y =>
          rw [hq] at hx
          obtain rfl : y = x := by cases hx; rfl
          exact ⟨F31.go K K f ps c i e y p hp lp' (by omega) hq, trivial⟩
    · unfold F31.nx at hr
      by_cases h : p < 0
      · rw [if_pos h] at hr; cases hr; exact ⟨bad K K f ps c i e p hp lp' (.inl h), by simp⟩
      · rw [if_neg h] at hr
        cases hq : e.s[p.toNat]? with
        | none =>
          rw [hq] at hr; cases hr
          exact ⟨bad K K f ps c i e p hp lp' (.inr (List.getElem?_eq_none_iff.1 hq |> fun h' => by omega)), by simp⟩
        | some y => rw [hq] at hr; cases hr) (fun e _ => ⟨last K K f ps c e, by simp⟩) ps 0 e K rfl (by omega) trivial (by omega)
  rw [run_walk] at L
  refine ⟨K + 1, con_of E_fn61 (by simp [AV.pureL, AV.pure, El.av_pure, ns_pure]) (Nat.le_of_ble_eq_true rfl) rfl rfl (g := []) ?_⟩
  rw [body_61, c61]
  cases hw : E34.walk e ps with
  | none =>
    rw [hw] at L
    simp [bA, lp, lps, c61, firstReg, SA, bx, ec] at L
    simp [El.av_eq, -s_round, L]
  | some x =>
    rw [hw] at L
    show _ = some (ARes.ret (.tup [x.av, .bool true]), _)
    rw [El.av_eq x]
    simp [bA, lp, lps, c61, firstReg, SA, bx, ec, fin] at L
    simp [El.av_eq, -s_round, L]
end F31
end
section
open Ab Go TabE Sp E34 F1 F4 F5 F31
namespace F43
mutual
def clo : El → El
  | .mk c k n fb b _ _ s _ => .mk c k n fb b (some b.length) false (cls s) (some s.length)
def cls : List El → List El
  | [] => []
  | x :: r => clo x :: cls r
end
theorem cls_map : ∀ l, cls l = l.map clo
  | [] => rfl
  | e :: r => by rw [cls, cls_map r]; rfl
theorem cl_eq (e : El) : clo e = .mk e.c e.k e.n e.fb e.b (some e.b.length) false (e.s.map clo) (some e.s.length) := by cases e; rw [clo, cls_map]; rfl
theorem cl_core : ∀ e : El, (clo e).core = e.core := by
  refine El.ind fun e ih => ?_
  rw [cl_eq, El.core_eq e, El.core, El.cores_map, El.cores_map, List.map_map]
  congr 1
  exact List.map_congr_left fun x hx => ih x hx
theorem cl_ok : ∀ e : El, e.ok → (clo e).ok := by
  refine El.ind fun e ih h => ?_
  rw [cl_eq, El.ok_eq]
  refine ⟨h.cb, h.nb, h.bb, h.bl, by simp only [El.s, List.length_map]; exact h.sl, fun x hx => ?_⟩
  obtain ⟨y, hy, rfl⟩ := List.mem_map.1 hx
  exact ih y hy (h.sub y hy)
def row (e : El) (i : Nat) : List El := (e.s.map clo).take i ++ List.replicate (e.s.length - i) E32.z0
theorem row_len (e : El) (i : Nat) (h : i ≤ e.s.length) : (row e i).length = e.s.length := by unfold row; simp; omega
theorem row_next (e x : El) (i : Nat) (hx : e.s[i]? = some x) : (row e i).set i (clo x) = row e (i + 1) := by
  have hi : i < e.s.length := (List.getElem?_eq_some_iff.1 hx).1
  apply List.ext_getElem?
  intro j
  have hm : (e.s.map clo)[i]? = some (clo x) := by rw [List.getElem?_map, hx]; rfl
  rw [List.getElem?_set, row_len e i (by omega)]
  unfold row
  by_cases hj : i = j
  · subst hj
    rw [if_pos rfl, if_pos hi, List.getElem?_append_left (by simp; omega), List.getElem?_take_of_lt (by omega), hm]
  · rw [if_neg hj]
    by_cases hl : j < i
    · rw [List.getElem?_append_left (by simp; omega), List.getElem?_append_left (by simp; omega), List.getElem?_take_of_lt hl, List.getElem?_take_of_lt (by omega)]
    · rw [List.getElem?_append_right (by simp; omega), List.getElem?_append_right (by simp; omega)]
      simp only [List.length_take, List.length_map, List.getElem?_replicate]
      have a : min i e.s.length = i := by omega
      have b : min (i + 1) e.s.length = i + 1 := by omega
      rw [a, b]
      by_cases hq : j < e.s.length
      · rw [if_pos (by omega), if_pos (by omega)]
      · rw [if_neg (by omega), if_neg (by omega)]
theorem row_at (i n : Nat) (hi : i < n) (hn : n ≤ 1000000) : ∀ h o, lookK h (1, 14, 0) = some o → o.live = true → o.esz = 5 → n * 5 ≤ o.cells.length → indexAddrA E 28 (.ref (1, 14, 0) 0 n (some n)) (.int .i64 (i : Int)) h = some (.ptr (1, 14, 0) (i * 5)) := by
  intro h o h1 h2 h3 h4
  have a : i * 5 + 5 ≤ n * 5 := by omega
  simp [indexAddrA, h1, h2, h3, hi]
def b86 : Code := lp c86 0
abbrev SN (e : El) (r : List El) (i : Nat) : St := ⟨[(1, .ptr (1, 1, 0) 0), (2, .ptr (1, 2, 0) 0), (3, .ref (1, 14, 0) 0 e.s.length (some e.s.length)), (16, .sl e.fs (El.avs e.s) e.cs), (17, .int .i64 (e.s.length : Int)), (18, .int .i64 (i : Int))], [((1, 1, 0), bx [.int .u8 e.c, .bool e.k, .int .u32 e.n, .sl e.fb [] (some 0), .sl e.fs (El.avs e.s) e.cs]), ((1, 2, 0), bx z5), ((1, 14, 0), ⟨El.fl r, true, true, true, 5, true⟩)]⟩
theorem goN (q k1 : Nat) (e x : El) (r : List El) (i : Nat) (hx : e.s[i]? = some x) (hr : r.length = e.s.length) (le : e.s.length ≤ 1000000) (B : ∀ h, aCall E q 0 86 [x.av] h = some (.ret (clo x).av, h)) :
    rndO fn86 b86 q k1 (SN e r i) = some (.normal, SN e (r.set i (clo x)) (i + 1)) := by
  have hi : i < e.s.length := (List.getElem?_eq_some_iff.1 hx).1
  have ix := fun hp => El.at_ e.fs e.cs e.s i x hx hp
  have w := w64' ((i : Int) + 1) (by omega) (by omega)
  have ir := row_at i e.s.length hi (by omega)
  rw [El.av_eq, El.av_eq] at B
  have f1 := El.fl_len r
  have f2 : (El.fl r).take (i * 5) = El.fl (r.take i) := El.fl_take i r
  have f3 : (El.fl r).drop (i * 5 + 5) = El.fl (r.drop (i + 1)) := by rw [← El.fl_drop]; congr 1; omega
  have g1 : i * 5 + 5 ≤ e.s.length * 5 := by omega
  have f4 := El.fl_keys r
  have f5 := El.fl_keys (r.take i)
  have f6 := El.fl_keys (r.drop (i + 1))
  have fs := E32.fl_set r i (clo x) (by omega)
  simp [b86, lp, lps, c86, -indexAddrA, ix, ir, fs, w, hi, B, f1, f2, f3, f4, f5, f6, g1, hr, El.fl_keysr]
theorem lastN (q k1 : Nat) (e : El) (r : List El) : rndO fn86 b86 q k1 (SN e r e.s.length) = some (.exit 0, ⟨(SN e r e.s.length).t ++ [(19, .bool false)], (SN e r e.s.length).h⟩) := by
  have f4 := El.fl_keys r
  simp [b86, lp, lps, c86, f4]
abbrev SR (e : El) (r : List El) (i : Nat) (ex : Bool) : St := ⟨[(1, .ptr (1, 1, 0) 0), (2, .ptr (1, 2, 0) 0), (3, .ref (1, 14, 0) 0 e.s.length (some e.s.length)), (16, .sl e.fs (El.avs e.s) e.cs), (17, .int .i64 (e.s.length : Int)), (18, .int .i64 (i : Int))], [((1, 1, 0), bx [.int .u8 e.c, .bool e.k, .int .u32 e.n, .ref (1, 8, 0) 0 e.b.length (some e.b.length), .sl e.fs (El.avs e.s) e.cs]), ((1, 2, 0), bx z5), ((1, 8, 0), ⟨bs e.b, true, true, ex, 1, false⟩), ((1, 14, 0), ⟨El.fl r, true, true, true, 5, true⟩)]⟩
theorem goR (q k1 : Nat) (e x : El) (r : List El) (i : Nat) (ex : Bool) (hx : e.s[i]? = some x) (hr : r.length = e.s.length) (le : e.s.length ≤ 1000000) (B : ∀ h, aCall E q 0 86 [x.av] h = some (.ret (clo x).av, h)) :
    rndO fn86 b86 q k1 (SR e r i ex) = some (.normal, SR e (r.set i (clo x)) (i + 1) ex) := by
  have hi : i < e.s.length := (List.getElem?_eq_some_iff.1 hx).1
  have ix := fun hp => El.at_ e.fs e.cs e.s i x hx hp
  have w := w64' ((i : Int) + 1) (by omega) (by omega)
  have ir := row_at i e.s.length hi (by omega)
  rw [El.av_eq, El.av_eq] at B
  have f1 := El.fl_len r
  have f2 : (El.fl r).take (i * 5) = El.fl (r.take i) := El.fl_take i r
  have f3 : (El.fl r).drop (i * 5 + 5) = El.fl (r.drop (i + 1)) := by rw [← El.fl_drop]; congr 1; omega
  have g1 : i * 5 + 5 ≤ e.s.length * 5 := by omega
  have f4 := El.fl_keys r
  have f5 := El.fl_keys (r.take i)
  have f6 := El.fl_keys (r.drop (i + 1))
  have fs := E32.fl_set r i (clo x) (by omega)
  simp [b86, lp, lps, c86, -indexAddrA, ix, ir, fs, w, hi, B, f1, f2, f3, f4, f5, f6, g1, hr, El.fl_keysr]
theorem lastR (q k1 : Nat) (e : El) (r : List El) (ex : Bool) : rndO fn86 b86 q k1 (SR e r e.s.length ex) = some (.exit 0, ⟨(SR e r e.s.length ex).t ++ [(19, .bool false)], (SR e r e.s.length ex).h⟩) := by
  have f4 := El.fl_keys r
  simp [b86, lp, lps, c86, f4]
end F43
end
section
open Ab Go TabE Sp E34 F1 F4 F5 F31 F43
namespace F44
abbrev br (b : List Int) (ex : Bool) : AObj := ⟨bs b, true, true, ex, 1, false⟩
def ret1 (k : Key) : Option (ARes × Heap) → Option (ARes × Option AObj)
  | some (r, h) => some (r, lookK h k)
  | none => none
theorem ret1_eq {k : Key} {x : Option (ARes × Heap)} {r a} (h : ret1 k x = some (r, a)) : ∃ hf, x = some (r, hf) ∧ lookK hf k = a := by
  unfold ret1 at h
  split at h
  · cases h; exact ⟨_, rfl, rfl⟩
  · cases h
theorem clone_nil (q : Nat) (hq : 13 ≤ q) (m : List Bool) (slot : Nat) (c : Option Nat) (h : Heap) : opened m false (aRun E q) slot 109 [.sl true [] c] h = some (.ret (.sl true [] (some 0)), h) := by
  have key : ret1 (1, 5, 0) (aRun E (12 + 1) 109 [.sl true [] c] []) = some (.ret (.sl true [] (some 0)), none) := by
    rw [aRun_fn rfl E_fn109 rfl (Nat.le_of_ble_eq_true rfl), body_109, c109]
    simp [ret1]
  obtain ⟨hf, h1, h2⟩ := ret1_eq key
  rw [FO.op_fresh (m := m) (slot := slot) (h := h) [] (by rfl) (aRun_le E (12 + 1) q hq _ _ _ _ h1) (by rfl) (by rfl) (by simp) (by rfl)]
  rfl
theorem clone_emp (q : Nat) (hq : 13 ≤ q) (m : List Bool) (slot : Nat) (c : Option Nat) (h : Heap) : opened m false (aRun E q) slot 109 [.sl false [] c] h = some (.ret (.ref (1, slot, genOf h 1 slot) 0 0 (some 0)), setK h (1, slot, genOf h 1 slot) (br [] true)) := by
  have key : ret1 (1, 5, 0) (aRun E (12 + 1) 109 [.sl false [] c] []) = some (.ret (.ref (1, 5, 0) 0 0 (some 0)), some (br [] true)) := by
    rw [aRun_fn rfl E_fn109 rfl (Nat.le_of_ble_eq_true rfl), body_109, c109]
    simp [ret1]
  obtain ⟨hf, h1, h2⟩ := ret1_eq key
  rw [FO.op_fresh (m := m) (slot := slot) (h := h) [(1, 5, 0)] (by rfl) (aRun_le E (12 + 1) q hq _ _ _ _ h1) (by simp [reach, h2, AV.keysL, AV.keys, dd, bs_nil]) (by simp [closedH, h2, AV.keysL, AV.keys, bs_nil]) (by simp) (by simp [AV.keysL, AV.keys, inKs])]
  simp [AV.rn, AV.rnL, outK, posK, putAll, h2, bs_nil, br]
theorem clone_row (b : List Int) (lb : b.length ≤ 1000000) (hb : b ≠ []) (q : Nat) (hq : 13 ≤ q) (m : List Bool) (slot : Nat) (c : Option Nat) (h : Heap) : opened m false (aRun E q) slot 109 [.sl false (bs b) c] h = some (.ret (.ref (1, slot, genOf h 1 slot) 0 b.length none), setK h (1, slot, genOf h 1 slot) (br b false)) := by
  have kb := bs_kl b
  have lbs := bs_len b
  have cp : b.length ≤ 70368744177664 := by omega
  have key : ret1 (1, 7, 0) (aRun E (12 + 1) 109 [.sl false (bs b) c] []) = some (.ret (.ref (1, 7, 0) 0 b.length none), some (br b false)) := by
    rw [aRun_fn rfl E_fn109 rfl (Nat.le_of_ble_eq_true rfl), body_109, c109]
    simp [ret1, hb, cp]
  obtain ⟨hf, h1, h2⟩ := ret1_eq key
  have rb : ∀ φ, AV.rnL φ (bs b) = bs b := fun φ => rnL_pure _ (bs_pure b)
  rw [FO.op_fresh (m := m) (slot := slot) (h := h) [(1, 7, 0)] (by simp [AV.pureL, AV.pure]) (aRun_le E (12 + 1) q hq _ _ _ _ h1) (by simp [reach, h2, AV.keysL, AV.keys, dd, kb]) (by simp [closedH, h2, AV.keysL, AV.keys, kb]) (by simp) (by simp [AV.keysL, AV.keys, inKs])]
  simp [AV.rn, AV.rnL, outK, posK, putAll, h2, rb]
theorem clip_nil (q : Nat) (hq : 13 ≤ q) (m : List Bool) (slot : Nat) (h : Heap) : opened m false (aRun E q) slot 97 [.sl true [] (some 0)] h = some (.ret (.sl true [] (some 0)), h) := by
  have key : ret1 (1, 5, 0) (aRun E (12 + 1) 97 [.sl true [] (some 0)] []) = some (.ret (.sl true [] (some 0)), none) := by
    rw [aRun_fn rfl E_fn97 rfl (Nat.le_of_ble_eq_true rfl), body_97, c97]
    simp [ret1]
  obtain ⟨hf, h1, h2⟩ := ret1_eq key
  rw [FO.op_fresh (m := m) (slot := slot) (h := h) [] (by rfl) (aRun_le E (12 + 1) q hq _ _ _ _ h1) (by rfl) (by rfl) (by simp) (by rfl)]
  rfl
theorem clip_emp (q : Nat) (hq : 13 ≤ q) (slot : Nat) (h : Heap) (key : Key) (hk : lookK h key = some (br [] true)) : opened [true] false (aRun E q) slot 97 [.ref key 0 0 (some 0)] h = some (.ret (.sl false [] (some 0)), h) := by
  have kb := bs_kl []
  have rb : ∀ φ, AV.rnL φ (bs []) = bs [] := fun φ => rnL_pure _ (bs_pure [])
  have key0 : ret1 (0, 0, 0) (aRun E (12 + 1) 97 [.ref (0, 0, 0) 0 0 (some 0)] [((0, 0, 0), br [] true)]) = some (.ret (.sl false [] (some 0)), some (br [] true)) := by
    rw [aRun_fn rfl E_fn97 rfl (Nat.le_of_ble_eq_true rfl), body_97, c97]
    simp [ret1, kb, bs_nil, AV.keysL, AV.rnL]
  obtain ⟨hf, h1, h2⟩ := ret1_eq key0
  have hr := aRun_le E (12 + 1) q hq _ _ _ _ h1
  unfold opened
  have e1 : sealM (sealA 20) [true] h [.ref key 0 0 (some 0)] = some ([.ref key 0 0 (some 0)], h) := rfl
  rw [e1]
  simp only
  have e0 : AV.keysL [.ref key 0 0 (some 0)] = [key] := rfl
  rw [e0]
  have e2 : dd (reach h 3 [key]) = [key] := by simp [reach, hk, kb, dd, bs_nil, AV.keysL, AV.rnL]
  rw [e2]
  unfold lendA
  have e3 : lendH h (inK [key]) [key] = some [((0, 0, 0), br [] true)] := by simp [lendH, hk, inK, posK, rb, bs_nil, AV.keysL, AV.rnL]
  rw [e3]
  have e4 : closedH h [key] [key] = true := by simp [closedH, hk, kb, bs_nil, AV.keysL, AV.rnL]
  simp only [e0]
  rw [if_pos ⟨e4, by simp [inKs]⟩]
  have e5 : AV.rnL (inK [key]) [.ref key 0 0 (some 0)] = [.ref (0, 0, 0) 0 0 (some 0)] := by simp [AV.rnL, AV.rn, inK, posK]
  rw [e5, hr]
  have e9 : lentKs 1 = [(0, 0, 0)] := rfl
  have e8 : AV.keysL [AV.sl false [] (some 0)] = [] := rfl
  have e7 : dd (reach hf 3 ([(0, 0, 0)] ++ [])) = [(0, 0, 0)] := by simp [reach, h2, kb, dd, bs_nil, AV.keysL, AV.rnL]
  have e10 : closedH hf [(0, 0, 0)] [(0, 0, 0)] = true := by simp [closedH, h2, kb, bs_nil, AV.keysL, AV.rnL]
  simp only [backR, Bool.false_eq_true, if_false, backV, Ab.back, List.length_singleton, e8, e9, e7, backA]
  rw [if_pos ⟨e10, by rfl, by rfl, by rfl⟩]
  have sk := FO.setK_same h key _ hk
  simp only [br, bs_nil] at h2 sk
  simp [AV.rnL, AV.rn, outK, posK, putAll, h2, rb, sk, bs_nil, AV.keysL, AV.rnL]
theorem clip_row (q : Nat) (hq : 13 ≤ q) (slot : Nat) (h : Heap) (key : Key) (b : List Int) (ex : Bool) (hb : b ≠ []) (hk : lookK h key = some (br b ex)) : opened [true] false (aRun E q) slot 97 [.ref key 0 b.length none] h = some (.ret (.ref key 0 b.length (some b.length)), h) := by
  have kb := bs_kl b
  have lbs := bs_len b
  have rb : ∀ φ, AV.rnL φ (bs b) = bs b := fun φ => rnL_pure _ (bs_pure b)
  have key0 : ret1 (0, 0, 0) (aRun E (12 + 1) 97 [.ref (0, 0, 0) 0 b.length none] [((0, 0, 0), br b ex)]) = some (.ret (.ref (0, 0, 0) 0 b.length (some b.length)), some (br b ex)) := by
    rw [aRun_fn rfl E_fn97 rfl (Nat.le_of_ble_eq_true rfl), body_97, c97]
    simp [ret1, kb, hb]
  obtain ⟨hf, h1, h2⟩ := ret1_eq key0
  have hr := aRun_le E (12 + 1) q hq _ _ _ _ h1
  unfold opened
  have e1 : sealM (sealA 20) [true] h [.ref key 0 b.length none] = some ([.ref key 0 b.length none], h) := rfl
  rw [e1]
  simp only
  have e0 : AV.keysL [.ref key 0 b.length none] = [key] := rfl
  rw [e0]
  have e2 : dd (reach h 3 [key]) = [key] := by simp [reach, hk, kb, dd]
  rw [e2]
  unfold lendA
  have e3 : lendH h (inK [key]) [key] = some [((0, 0, 0), br b ex)] := by simp [lendH, hk, inK, posK, rb]
  rw [e3]
  have e4 : closedH h [key] [key] = true := by simp [closedH, hk, kb]
  simp only [e0]
  rw [if_pos ⟨e4, by simp [inKs]⟩]
  have e5 : AV.rnL (inK [key]) [.ref key 0 b.length none] = [.ref (0, 0, 0) 0 b.length none] := by simp [AV.rnL, AV.rn, inK, posK]
  rw [e5, hr]
  have e9 : lentKs 1 = [(0, 0, 0)] := rfl
  have e8 : AV.keysL [AV.ref (0, 0, 0) 0 b.length (some b.length)] = [(0, 0, 0)] := rfl
  have e7 : dd (reach hf 3 ([(0, 0, 0)] ++ [(0, 0, 0)])) = [(0, 0, 0)] := by simp [reach, h2, kb, dd]
  have e10 : closedH hf [(0, 0, 0)] [(0, 0, 0)] = true := by simp [closedH, h2, kb]
  simp only [backR, Bool.false_eq_true, if_false, backV, Ab.back, List.length_singleton, e8, e9, e7, backA]
  rw [if_pos ⟨e10, by rfl, by rfl, by rfl⟩]
  have sk := FO.setK_same h key _ hk
  simp [AV.rnL, AV.rn, outK, posK, putAll, h2, rb, sk]
end F44
end
section
open Ab Go TabE Sp E34 F1 F4 F5 F31 F43 F44
namespace F45
def ret2 (k l : Key) : Option (ARes × Heap) → Option (ARes × Option AObj × Option AObj)
  | some (r, h) => some (r, lookK h k, lookK h l)
  | none => none
theorem ret2_eq {k l : Key} {x : Option (ARes × Heap)} {r a b} (h : ret2 k l x = some (r, a, b)) : ∃ hf, x = some (r, hf) ∧ lookK hf k = a ∧ lookK hf l = b := by
  unfold ret2 at h
  split at h
  · cases h; exact ⟨_, rfl, rfl, rfl⟩
  · cases h
abbrev er (s : List El) : AObj := ⟨El.fl s, true, true, true, 5, true⟩
abbrev CV (e : El) (B : AV) (k : Key) : AV := .agg [.int .u8 e.c, .bool e.k, .int .u32 e.n, B, .ref k 0 e.s.length (some e.s.length)]
theorem nilC (e : El) (hb : e.b = []) (ls : e.s.length ≤ 1000000) (N : Nat) (B : ∀ x ∈ e.s, Con E N 86 [x.av] (clo x).av) : ∃ h, (∀ q, N + e.s.length + 62 ≤ q → aRun E q 86 [e.av] [] = some (.ret (CV e (.sl e.fb [] (some 0)) (1, 14, 0)), h)) ∧ lookK h (1, 14, 0) = some (er (e.s.map clo)) := by
  obtain ⟨K, hK⟩ : ∃ K, N + e.s.length + 61 = K := ⟨_, rfl⟩
  have rl : row e e.s.length = e.s.map clo := by unfold row; rw [Nat.sub_self, List.take_of_length_le (by simp)]; simp
  have r0 : row e 0 = List.replicate e.s.length E32.z0 := by unfold row; simp
  have L := loopO (fn := fn86) (b := b86) (K := K) (k := K) (fun i => SN e (row e i) i) e.s.length rfl (fun i hi => by
    obtain ⟨x, hx⟩ : ∃ x, e.s[i]? = some x := ⟨e.s[i], by simp⟩
    have := goN K K e x (row e i) i hx (row_len e i (by omega)) ls fun h => B x (List.mem_of_getElem? hx) K (by omega) 0 h
    rwa [row_next e x i hx] at this) (lastN K K e _) (by simp) (by omega)
  rw [rl, r0] at L
  have f1 := El.fl_len (e.s.map clo)
  have f2 := El.fl_keys (e.s.map clo)
  have f3 := El.fl_keys (List.replicate e.s.length E32.z0)
  have cp56 : (e.s.length : Int) * 56 ≤ 70368744177664 := by omega
  have lv := El.avs_len e.s
  have h0 : (0 : Int) ≤ e.s.length := by omega
  have c1 := fun m slot c h => clone_nil K (by omega) m slot c h
  have c2 := fun m slot h => clip_nil K (by omega) m slot h
  have c3 := fun m slot c h => clone_emp K (by omega) m slot c h
  have c4 := fun slot h hk => clip_emp K (by omega) slot h (1, 8, 0) hk
  have key : ret2 (1, 8, 0) (1, 14, 0) (aRun E (K + 1) 86 [e.av] []) = some (.ret (CV e (.sl e.fb [] (some 0)) (1, 14, 0)), none, some (er (e.s.map clo))) := by
    rw [aRun_fn rfl E_fn86 rfl (Nat.le_of_ble_eq_true rfl), body_86, c86]
    simp [b86, lp, lps, c86, firstReg, SN, bx] at L
    cases hf : e.fb <;> (rw [hf] at L; simp [El.av_eq, -s_round, L, hb, hf, lv, c1, c2, c3, c4, f1, f2, f3, E32.fl_rep, cp56, List.length_map, ret2])
  obtain ⟨hh, q1, q2, q3⟩ := ret2_eq key
  exact ⟨hh, fun q hq => aRun_le E (K + 1) q (by omega) _ _ _ _ q1, q3⟩
theorem rowC (e : El) (hf : e.fb = false) (hb : e.b ≠ []) (lb : e.b.length ≤ 1000000) (ls : e.s.length ≤ 1000000) (N : Nat) (B : ∀ x ∈ e.s, Con E N 86 [x.av] (clo x).av) : ∃ h, (∀ q, N + e.s.length + 62 ≤ q → aRun E q 86 [e.av] [] = some (.ret (CV e (.ref (1, 8, 0) 0 e.b.length (some e.b.length)) (1, 14, 0)), h)) ∧ lookK h (1, 8, 0) = some (br e.b false) ∧ lookK h (1, 14, 0) = some (er (e.s.map clo)) := by
  obtain ⟨K, hK⟩ : ∃ K, N + e.s.length + 61 = K := ⟨_, rfl⟩
  have rl : row e e.s.length = e.s.map clo := by unfold row; rw [Nat.sub_self, List.take_of_length_le (by simp)]; simp
  have r0 : row e 0 = List.replicate e.s.length E32.z0 := by unfold row; simp
  have L := loopO (fn := fn86) (b := b86) (K := K) (k := K) (fun i => SR e (row e i) i false) e.s.length rfl (fun i hi => by
    obtain ⟨x, hx⟩ : ∃ x, e.s[i]? = some x := ⟨e.s[i], by simp⟩
    have := goR K K e x (row e i) i false hx (row_len e i (by omega)) ls fun h => B x (List.mem_of_getElem? hx) K (by omega) 0 h
    rwa [row_next e x i hx] at this) (lastR K K e _ false) (by simp) (by omega)
  rw [rl, r0] at L
  have f1 := El.fl_len (e.s.map clo)
  have f2 := El.fl_keys (e.s.map clo)
  have f3 := El.fl_keys (List.replicate e.s.length E32.z0)
  have cp56 : (e.s.length : Int) * 56 ≤ 70368744177664 := by omega
  have lv := El.avs_len e.s
  have c1 := clone_row e.b lb hb K (by omega)
  have c2 := fun slot h hk => clip_row K (by omega) slot h (1, 8, 0) e.b false hb hk
  have key : ret2 (1, 8, 0) (1, 14, 0) (aRun E (K + 1) 86 [e.av] []) = some (.ret (CV e (.ref (1, 8, 0) 0 e.b.length (some e.b.length)) (1, 14, 0)), some (br e.b false), some (er (e.s.map clo))) := by
    rw [aRun_fn rfl E_fn86 rfl (Nat.le_of_ble_eq_true rfl), body_86, c86]
    simp [b86, lp, lps, c86, firstReg, SR, bx] at L
    simp [El.av_eq, -s_round, L, hf, hb, lv, c1, c2, f1, f2, f3, E32.fl_rep, cp56, List.length_map, ret2]
  obtain ⟨hh, q1, q2, q3⟩ := ret2_eq key
  exact ⟨hh, fun q hq => aRun_le E (K + 1) q (by omega) _ _ _ _ q1, q2, q3⟩
end F45
end
end
section
open Ab Go TabE Sp E34 F1 F4 F5 F31 F43 F44 F45
namespace F46
theorem seal_row (n : Nat) (h : Heap) (key : Key) (b : List Int) (ex : Bool) (cap : Option Nat) (hk : lookK h key = some (br b ex)) : sealA (n + 2) h (.ref key 0 b.length cap) = some (.sl false (bs b) cap, setK h key { br b ex with mt := false }) :=
  seal_bytes hk rfl rfl rfl (by rw [bs_len]; omega) (by rw [List.drop_zero, ← bs_len b, List.take_length])
theorem seal_els (n : Nat) (h : Heap) (key : Key) (s : List El) (cap : Option Nat) (hk : lookK h key = some (er s)) : sealA (n + 2) h (.ref key 0 s.length cap) = some (.sl false (El.avs s) cap, setK h key { er s with mt := false }) := E32.sealX_fl n h key s cap true true hk
theorem cl_av (e : El) : (clo e).av = .agg [.int .u8 e.c, .bool e.k, .int .u32 e.n, .sl e.fb (bs e.b) (some e.b.length), .sl false (El.avs (e.s.map clo)) (some e.s.length)] := by rw [cl_eq]; rfl
theorem sealR {e : El} {h : Heap} {ex : Bool} {k l : Key} (hf : e.fb = false) (kl : k ≠ l) (h1 : lookK h k = some (br e.b ex)) (h2 : lookK h l = some (er (e.s.map clo))) : ∃ g, sealA 20 h (CV e (.ref k 0 e.b.length (some e.b.length)) l) = some ((clo e).av, g) := by
  have s1 : sealA 19 h (.ref k 0 e.b.length (some e.b.length)) = _ := seal_row 17 h k e.b ex (some e.b.length) h1
  have s2 : sealA 19 (setK h k { br e.b ex with mt := false }) (.ref l 0 (e.s.map clo).length (some e.s.length)) = _ := seal_els 17 (setK h k { br e.b ex with mt := false }) l (e.s.map clo) (some e.s.length) (by rw [lookK_setK_other _ _ _ _ kl]; exact h2)
  rw [List.length_map] at s2
  refine ⟨setK (setK h k { br e.b ex with mt := false }) l { er (e.s.map clo) with mt := false }, ?_⟩
  rw [cl_av, hf]
  have a1 : ∀ g, sealA 19 g (.int .u8 e.c) = some (.int .u8 e.c, g) := fun g => rfl
  have a2 : ∀ g, sealA 19 g (.bool e.k) = some (.bool e.k, g) := fun g => rfl
  have a3 : ∀ g, sealA 19 g (.int .u32 e.n) = some (.int .u32 e.n, g) := fun g => rfl
  rw [show sealA 20 h (CV e (.ref k 0 e.b.length (some e.b.length)) l) = _ from sl_agg 19 h _]
  rw [if_neg (by simp [AV.pureL, AV.pure])]
  simp only [sealLW, a1, a2, a3, s1, s2]
  rfl
theorem sealN {e : El} {h : Heap} {l : Key} (hb : e.b = []) (h2 : lookK h l = some (er (e.s.map clo))) : ∃ g, sealA 20 h (CV e (.sl e.fb [] (some 0)) l) = some ((clo e).av, g) := by
  have s2 : sealA 19 h (.ref l 0 (e.s.map clo).length (some e.s.length)) = _ := seal_els 17 h l (e.s.map clo) (some e.s.length) h2
  rw [List.length_map] at s2
  refine ⟨setK h l { er (e.s.map clo) with mt := false }, ?_⟩
  rw [cl_av, hb]
  have a1 : ∀ g, sealA 19 g (.int .u8 e.c) = some (.int .u8 e.c, g) := fun g => rfl
  have a2 : ∀ g, sealA 19 g (.bool e.k) = some (.bool e.k, g) := fun g => rfl
  have a3 : ∀ g, sealA 19 g (.int .u32 e.n) = some (.int .u32 e.n, g) := fun g => rfl
  have a4 : ∀ g, sealA 19 g (.sl e.fb [] (some 0)) = some (.sl e.fb [] (some 0), g) := fun g => rfl
  rw [show sealA 20 h (CV e (.sl e.fb [] (some 0)) l) = _ from sl_agg 19 h _]
  rw [if_neg (by simp [AV.pureL, AV.pure])]
  simp only [sealLW, a1, a2, a3, a4, s2]
  rfl
theorem clone : ∀ e : El, E31.Nn e → E33.Sh e → ∃ N, Con E N 86 [e.av] (clo e).av := by
  refine El.ind fun e ih hn hs => ?_
  obtain ⟨_, n1, n2, n3⟩ := hn
  obtain ⟨_, s1, s2, s3⟩ := hs
  obtain ⟨N, hN⟩ := unif (P := fun (x : El) (n : Nat) => Con E n 86 [x.av] (clo x).av) (fun x n m h hm => h.mono hm) e.s (fun x hx => ih x hx (n3 x hx) (s3 x hx))
  have pa : AV.pureL [e.av] = true := by simp [AV.pureL, El.av_pure]
  by_cases hb : e.b = []
  · obtain ⟨h, q1, q3⟩ := nilC e hb s2 N hN
    obtain ⟨g, hg⟩ := sealN hb q3
    exact ⟨_, Con.ofRun pa q1 hg (El.av_pure _)⟩
  · have hf : e.fb = false := by cases q : e.fb; rfl; exact absurd (n1 q) hb
    obtain ⟨h, q1, q2, q3⟩ := rowC e hf hb s1 s2 N hN
    obtain ⟨g, hg⟩ := sealR hf (by simp) q2 q3
    exact ⟨_, Con.ofRun pa q1 hg (El.av_pure _)⟩
end F46
end
section
open Ab Go TabE Sp E34 F1 F4 F5
namespace F32
def bP : Code := lp c60 0
abbrev irow (l : List Int) : AObj := ⟨ns l, true, true, false, 1, false⟩
abbrev S0 (f : Bool) (cs : List Int) (c : Option Nat) (x : El) : St := ⟨[(1, .sl f (bs cs) c), (2, .ptr (1, 2, 0) 0), (5, .sl true [] (some 0)), (6, .int .i64 0)], [((1, 2, 0), bx (ec x))]⟩
abbrev SP (f : Bool) (cs : List Int) (c : Option Nat) (i m : Nat) (l : List Int) (x : El) : St := ⟨[(1, .sl f (bs cs) c), (2, .ptr (1, 2, 0) 0), (5, .ref (1, 31, m) 0 l.length none), (6, .int .i64 (i : Int))], [((1, 2, 0), bx (ec x)), ((1, 31, m), irow l)]⟩
theorem go0 (q k1 : Nat) (f cs c) (e x : El) (b : Int) (hb : cs[0]? = some b) (b0 : 0 ≤ b) (b1 : b < 256) (le : e.s.length ≤ 1000) (n : Nat) (hn : b % ((e.s.length : Int) + 1) = n) (hx : e.s[n]? = some x) : rnd fn60 bP q k1 (S0 f cs c e) = some (.normal, SP f cs c 1 0 [(n : Int)] x) := by
  have hi : 0 < cs.length := (List.getElem?_eq_some_iff.1 hb).1
  have ip := E40.byte_at f c cs 0 b hb
  have w := w64' ((e.s.length : Int) + 1) (by omega) (by omega)
  have nb : (n : Int) < (e.s.length : Int) + 1 := by rw [← hn]; exact Int.emod_lt_of_pos _ (by omega)
  have w2 := w64' (n : Int) (by omega) (by omega)
  have w3 := w64' b (by omega) (by omega)
  have t : b.tmod ((e.s.length : Int) + 1) = n := by rw [Int.tmod_eq_emod_of_nonneg b0, hn]
  have n3 : ¬ (e.s.length : Int) + 1 = 0 := by omega
  have lv := El.avs_len e.s
  have lb := bs_len cs
  have hl : n < e.s.length := (List.getElem?_eq_some_iff.1 hx).1
  have ix := El.at_ e.fs e.cs e.s n x hx
  have n1 : ¬ (n : Int) = e.s.length := by omega
  have n2 : ¬ n = e.s.length := by omega
  simp at ip
  simp [bP, lp, lps, c60, ↓s_seq, ↓s_reg, ↓s_regd, ↓s_cond, ↓s_block, ↓s_cons, ↓s_consG, s_nil, firstReg, s_gt, s_wb, s_val, s_skip, s_rgx, s_sqn, s_cdb, s_bkn, s_skip', s_clean, o_tmp, o_int, l_hit, l_miss, ol_nil, ol_cons, ol_some, x_move, x_assign, x_pick, pk_t, x_bin, bn_s, x_callB, x_conv, cvx, convA, binA, intOp, keepT, x_buildSlice, bsx, x_load, ldx, x_store, stx, x_fieldAddr, x_indexAddr, iax, newK, genOf, setK, lookK, fillA, writeL, writeC, readC, conts, TyI.mk1, fieldAddrA, appendA, copyA, builtinA, AV.cells, gcH, reach, keysT, keepK, inKs, AV.keys, AV.keysL, Ty.isAgg, w_i64, sc_int, sc_bool, sc_sl, i_beq, ip, w, w3, t, hi, n3, lv, lb, w_i64, ix, n1]
theorem stop0 (q k1 : Nat) (f cs c) (e : El) (b : Int) (hb : cs[0]? = some b) (b0 : 0 ≤ b) (b1 : b < 256) (le : e.s.length ≤ 1000) (n : Nat) (hn : b % ((e.s.length : Int) + 1) = n) (hx : n = e.s.length) : rnd fn60 bP q k1 (S0 f cs c e) = some (.ret, ⟨[(4, .ref (1, 31, 0) 0 1 none)], [((1, 31, 0), irow [(n : Int)])]⟩) := by
  have hi : 0 < cs.length := (List.getElem?_eq_some_iff.1 hb).1
  have ip := E40.byte_at f c cs 0 b hb
  have w := w64' ((e.s.length : Int) + 1) (by omega) (by omega)
  have nb : (n : Int) < (e.s.length : Int) + 1 := by rw [← hn]; exact Int.emod_lt_of_pos _ (by omega)
  have w2 := w64' (n : Int) (by omega) (by omega)
  have w3 := w64' b (by omega) (by omega)
  have t : b.tmod ((e.s.length : Int) + 1) = n := by rw [Int.tmod_eq_emod_of_nonneg b0, hn]
  have n3 : ¬ (e.s.length : Int) + 1 = 0 := by omega
  have lv := El.avs_len e.s
  have lb := bs_len cs
  have n1 : (n : Int) = e.s.length := by omega
  simp at ip
  rw [n1] at t w2 ⊢
  simp [bP, lp, lps, c60, ↓s_seq, ↓s_reg, ↓s_regd, ↓s_cond, ↓s_block, ↓s_cons, ↓s_consG, s_nil, firstReg, s_gt, s_wb, s_val, s_rgx, s_sqn, s_sqr, s_cdb, s_bkr, s_ret', s_skip', s_clean, o_tmp, o_int, l_hit, l_miss, ol_nil, ol_cons, ol_some, x_move, x_assign, x_pick, pk_t, x_bin, bn_s, x_callB, x_conv, cvx, convA, binA, intOp, keepT, x_buildSlice, bsx, x_load, ldx, x_fieldAddr, x_indexAddr, iax, newK, genOf, setK, lookK, fillA, writeL, writeC, readC, conts, TyI.mk1, fieldAddrA, appendA, copyA, builtinA, AV.cells, gcH, reach, keysT, keepK, inKs, AV.keys, AV.keysL, Ty.isAgg, sc_int, ip, w, w3, t, hi, n3, lv, lb]
theorem goS (q k1 : Nat) (f cs c) (e x : El) (i m : Nat) (l : List Int) (h6 : i < 6) (hl6 : l.length ≤ 10) (b : Int) (hb : cs[i]? = some b) (b0 : 0 ≤ b) (b1 : b < 256) (le : e.s.length ≤ 1000) (n : Nat) (hn : b % ((e.s.length : Int) + 1) = n) (hx : e.s[n]? = some x) : rnd fn60 bP q k1 (SP f cs c i m l e) = some (.normal, SP f cs c (i + 1) (m + 1) (l ++ [(n : Int)]) x) := by
  have hi : i < cs.length := (List.getElem?_eq_some_iff.1 hb).1
  have ip := E40.byte_at f c cs i b hb
  have w := w64' ((e.s.length : Int) + 1) (by omega) (by omega)
  have nb : (n : Int) < (e.s.length : Int) + 1 := by rw [← hn]; exact Int.emod_lt_of_pos _ (by omega)
  have w2 := w64' (n : Int) (by omega) (by omega)
  have w3 := w64' b (by omega) (by omega)
  have t : b.tmod ((e.s.length : Int) + 1) = n := by rw [Int.tmod_eq_emod_of_nonneg b0, hn]
  have n3 : ¬ (e.s.length : Int) + 1 = 0 := by omega
  have lv := El.avs_len e.s
  have lb := bs_len cs
  have hl : n < e.s.length := (List.getElem?_eq_some_iff.1 hx).1
  have ix := El.at_ e.fs e.cs e.s n x hx
  have n1 : ¬ (n : Int) = e.s.length := by omega
  have n2 : ¬ n = e.s.length := by omega
  have w4 := w64' ((i : Int) + 1) (by omega) (by omega)
  have h6' : (i : Int) < 6 := by omega
  have hi' : (i : Int) < cs.length := by omega
  have cp : (l.length + 1) * 8 ≤ 70368744177664 := by omega
  have cp2 : l.length ≤ 70368744177663 := by omega
  have kl := ns_keys l
  simp [bP, lp, lps, c60, ↓s_seq, ↓s_reg, ↓s_regd, ↓s_cond, ↓s_block, ↓s_cons, ↓s_consG, s_nil, firstReg, s_gt, s_wb, s_val, s_skip, s_rgx, s_sqn, s_cdb, s_bkn, s_skip', s_clean, o_tmp, o_int, l_hit, l_miss, ol_nil, ol_cons, ol_some, x_move, x_assign, x_pick, pk_t, x_bin, bn_s, x_callB, x_conv, cvx, convA, binA, intOp, keepT, x_buildSlice, bsx, x_load, ldx, x_store, stx, x_fieldAddr, x_indexAddr, iax, newK, genOf, setK, lookK, fillA, writeL, writeC, readC, conts, TyI.mk1, fieldAddrA, appendA, copyA, builtinA, AV.cells, gcH, reach, keysT, keepK, inKs, AV.keys, AV.keysL, Ty.isAgg, sc_int, sc_bool, sc_sl, i_beq, ip, w, w3, t, n3, lv, lb, ix, n1, w4, h6', hi', cp, kl, El.keysL_app, List.map_append]
theorem stopS (q k1 : Nat) (f cs c) (e : El) (i m : Nat) (l : List Int) (h6 : i < 6) (hl6 : l.length ≤ 10) (b : Int) (hb : cs[i]? = some b) (b0 : 0 ≤ b) (b1 : b < 256) (le : e.s.length ≤ 1000) (n : Nat) (hn : b % ((e.s.length : Int) + 1) = n) (hx : n = e.s.length) : rnd fn60 bP q k1 (SP f cs c i m l e) = some (.ret, ⟨[(4, .ref (1, 31, m + 1) 0 (l.length + 1) none)], [((1, 31, m + 1), irow (l ++ [(n : Int)]))]⟩) := by
  have hi : i < cs.length := (List.getElem?_eq_some_iff.1 hb).1
  have ip := E40.byte_at f c cs i b hb
  have w := w64' ((e.s.length : Int) + 1) (by omega) (by omega)
  have nb : (n : Int) < (e.s.length : Int) + 1 := by rw [← hn]; exact Int.emod_lt_of_pos _ (by omega)
  have w2 := w64' (n : Int) (by omega) (by omega)
  have w3 := w64' b (by omega) (by omega)
  have t : b.tmod ((e.s.length : Int) + 1) = n := by rw [Int.tmod_eq_emod_of_nonneg b0, hn]
  have n3 : ¬ (e.s.length : Int) + 1 = 0 := by omega
  have lv := El.avs_len e.s
  have lb := bs_len cs
  have n1 : (n : Int) = e.s.length := by omega
  have w4 := w64' ((i : Int) + 1) (by omega) (by omega)
  have h6' : (i : Int) < 6 := by omega
  have hi' : (i : Int) < cs.length := by omega
  have cp : (l.length + 1) * 8 ≤ 70368744177664 := by omega
  have cp2 : l.length ≤ 70368744177663 := by omega
  have kl := ns_keys l
  rw [n1] at t w2 ⊢
  simp [bP, lp, lps, c60, ↓s_seq, ↓s_reg, ↓s_regd, ↓s_cond, ↓s_block, ↓s_cons, ↓s_consG, s_nil, firstReg, s_gt, s_wb, s_val, s_rgx, s_sqn, s_sqr, s_cdb, s_bkr, s_ret', s_skip', s_clean, o_tmp, o_int, l_hit, l_miss, ol_nil, ol_cons, ol_some, x_move, x_assign, x_pick, pk_t, x_bin, bn_s, x_callB, x_conv, cvx, convA, binA, intOp, keepT, x_buildSlice, bsx, x_load, ldx, x_fieldAddr, x_indexAddr, iax, newK, genOf, setK, lookK, fillA, writeL, writeC, readC, conts, TyI.mk1, fieldAddrA, appendA, copyA, builtinA, AV.cells, gcH, reach, keysT, keepK, inKs, AV.keys, AV.keysL, Ty.isAgg, sc_int, ip, w, w3, t, n3, lv, lb, h6', hi', cp, kl, El.keysL_app, List.map_append]
abbrev Out0 (f : Bool) (c : Option Nat) (e : El) : AExit × St := (.exit 0, ⟨[(1, .sl f [] c), (2, .ptr (1, 2, 0) 0), (5, .sl true [] (some 0)), (6, .int .i64 0), (15, .bool false)], [((1, 2, 0), bx (ec e))]⟩)
theorem last0 (q k1 : Nat) (f c) (e : El) : rnd fn60 bP q k1 (S0 f [] c e) = some (Out0 f c e) := by
  simp [bP, lp, lps, c60, ↓s_seq, ↓s_reg, ↓s_cond, ↓s_cons, ↓s_consG, s_nil, firstReg, s_gf, s_wb, s_val, s_rgx, s_sqn, s_sqe, s_cdb, s_exit, s_clean, o_tmp, o_int, o_bool, l_hit, l_miss, ol_nil, ol_cons, ol_some, x_move, x_pick, pk_f, x_bin, bn_s, x_callB, binA, intOp, keepT, newK, genOf, setK, lookK, writeL, writeC, conts, appendA, copyA, builtinA, AV.cells, gcH, reach, keysT, keepK, inKs, AV.keys, AV.keysL, Ty.isAgg, bs_nil]
abbrev OutP (f : Bool) (cs : List Int) (c : Option Nat) (i m : Nat) (l : List Int) (x : El) : AExit × St := (.exit 0, ⟨[(1, .sl f (bs cs) c), (2, .ptr (1, 2, 0) 0), (5, .ref (1, 31, m) 0 l.length none), (6, .int .i64 (i : Int)), (15, .bool false)], [((1, 2, 0), bx (ec x)), ((1, 31, m), irow l)]⟩)
theorem lastE (q k1 : Nat) (f cs c) (e : El) (m : Nat) (l : List Int) : rnd fn60 bP q k1 (SP f cs c cs.length m l e) = some (OutP f cs c cs.length m l e) := by
  have lb := bs_len cs
  have kl := ns_keys l
  simp [bP, lp, lps, c60, ↓s_seq, ↓s_reg, ↓s_cond, ↓s_cons, ↓s_consG, s_nil, firstReg, s_gf, s_wb, s_val, s_rgx, s_sqn, s_sqe, s_cdb, s_exit, s_clean, o_tmp, o_int, o_bool, l_hit, l_miss, ol_nil, ol_cons, ol_some, x_move, x_pick, pk_f, x_bin, bn_s, x_callB, binA, intOp, keepT, newK, genOf, setK, lookK, writeL, writeC, conts, appendA, copyA, builtinA, AV.cells, gcH, reach, keysT, keepK, inKs, AV.keys, AV.keysL, Ty.isAgg, kl, lb]
theorem last6 (q k1 : Nat) (f cs c) (e : El) (m : Nat) (l : List Int) (h : 6 < cs.length) : rnd fn60 bP q k1 (SP f cs c 6 m l e) = some (OutP f cs c 6 m l e) := by
  have lb := bs_len cs
  have kl := ns_keys l
  have h' : (6 : Int) < (cs.length : Int) := by omega
  simp [bP, lp, lps, c60, ↓s_seq, ↓s_reg, ↓s_cond, ↓s_cons, ↓s_consG, s_nil, firstReg, s_gt, s_wb, s_val, s_rgx, s_sqn, s_sqe, s_cdb, s_exit, s_clean, o_tmp, o_int, l_hit, l_miss, ol_nil, ol_cons, ol_some, x_move, x_pick, pk_t, x_bin, bn_s, x_callB, binA, intOp, keepT, newK, genOf, setK, lookK, writeL, writeC, conts, appendA, copyA, builtinA, AV.cells, gcH, reach, keysT, keepK, inKs, AV.keys, AV.keysL, Ty.isAgg, kl, lb, h']
def pth : List Int → El → List Int
  | [], _ => []
  | b :: r, e => match e.s[(b % ((e.s.length : Int) + 1)).toNat]? with
    | none => [b % ((e.s.length : Int) + 1)]
    | some x => (b % ((e.s.length : Int) + 1)) :: pth r x
end F32
end
section
open Ab Go TabE Sp E34 F1 F4 F5 F23 F32
namespace F33
abbrev LpP (K : Nat) := aLoop (aCode E (aCall E K) (dcall (aRun E K)) K 1 fn60 bP) (cleanS 1 ((firstReg bP).bind fn60.head))
abbrev RetP (m : Nat) (l : List Int) : AExit × St := (.ret, ⟨[(4, .ref (1, 31, m) 0 l.length none)], [((1, 31, m), irow l)]⟩)
def Ex (f : Bool) (cs : List Int) (c : Option Nat) (l : List Int) (st : AExit × St) : Prop := (∃ i m x, st = OutP f cs c i m l x) ∨ ∃ m, st = RetP m l
theorem loopS (K : Nat) (f : Bool) (cs : List Int) (c : Option Nat) (hb : isB cs) : ∀ (r : List Int) (e : El) (i m : Nat) (l : List Int) (k : Nat), Gd e → cs.drop i = r → i ≤ cs.length → i ≤ 6 → l.length ≤ i → r.length < k →
    ∃ st, LpP K k (SP f cs c i m l e) = some st ∧ Ex f cs c (l ++ pth (r.take (6 - i)) e) st
  | [], e, i, m, l, k, g, h1, hi, h6, hl, hk => by
    obtain ⟨k, rfl⟩ : ∃ j, k = j + 1 := ⟨k - 1, by omega⟩
    have q := congrArg List.length h1
    rw [List.length_drop, List.length_nil] at q
    obtain rfl : i = cs.length := by omega
    exact ⟨_, aLoop_end (lastE K K f cs c e m l) (fun h => by cases h), .inl ⟨cs.length, m, e, by simp [pth]⟩⟩
  | b :: r, e, i, m, l, k, g, h1, hi, h6, hl, hk => by
    obtain ⟨k, rfl⟩ : ∃ j, k = j + 1 := ⟨k - 1, by omega⟩
    have q := congrArg List.length h1
    rw [List.length_drop, List.length_cons] at q
    have hx : cs[i]? = some b := by
      have := congrArg (fun l => l[0]?) h1
      simpa [List.getElem?_drop] using this
    have hd : cs.drop (i + 1) = r := by
      have := congrArg List.tail h1
      simpa [List.tail_drop] using this
    by_cases e6 : i = 6
    · subst e6
      exact ⟨_, aLoop_end (last6 K K f cs c e m l (by omega)) (fun h => by cases h), .inl ⟨6, m, e, by simp [pth]⟩⟩
    have bb := hb b (List.mem_of_getElem? hx)
    have sl := g.sl
    obtain ⟨n, hn⟩ : ∃ n : Nat, b % ((e.s.length : Int) + 1) = n := ⟨(b % ((e.s.length : Int) + 1)).toNat, by rw [Int.toNat_of_nonneg (Int.emod_nonneg _ (by omega))]⟩
    have nb : (n : Int) < (e.s.length : Int) + 1 := by rw [← hn]; exact Int.emod_lt_of_pos _ (by omega)
    have tk : (b :: r).take (6 - i) = b :: r.take (6 - (i + 1)) := by
      rw [show 6 - i = (6 - (i + 1)) + 1 from by omega, List.take_succ_cons]
    rw [tk]
    unfold pth
    rw [hn, Int.toNat_natCast]
    cases hq : e.s[n]? with
    | none =>
      have := List.getElem?_eq_none_iff.1 hq
      exact ⟨_, aLoop_end (stopS K K f cs c e i m l (by omega) (by omega) b hx bb.1 bb.2 (by omega) n hn (by omega)) (fun h => by cases h), .inr ⟨m + 1, by simp⟩⟩
    | some x =>
      simp only
      obtain ⟨st, h, hs⟩ := loopS K f cs c hb r x (i + 1) (m + 1) (l ++ [(n : Int)]) k (g.sub (List.mem_of_getElem? hq)) hd (by omega) (by omega) (by simp; omega) (by simp at hk; omega)
      unfold LpP at h ⊢
      refine ⟨st, ?_, by simpa using hs⟩
      rw [aLoop_succ (goS K K f cs c e x i m l (by omega) (by omega) b hx bb.1 bb.2 (by omega) n hn hq)]
      exact h
theorem loop0 (K : Nat) (f : Bool) (cs : List Int) (c : Option Nat) (hb : isB cs) (hn : cs ≠ []) (e : El) (g : Gd e) (hk : cs.length < K) : ∃ st, LpP K K (S0 f cs c e) = some st ∧ Ex f cs c (pth (cs.take 6) e) st := by
  obtain ⟨k, hk'⟩ : ∃ j, K = j + 1 := ⟨K - 1, by omega⟩
  cases hc : cs with
  | nil => exact absurd hc hn
  | cons b r =>
    have hx : cs[0]? = some b := by rw [hc]; rfl
    have bb := hb b (List.mem_of_getElem? hx)
    have sl := g.sl
    obtain ⟨n, hn⟩ : ∃ n : Nat, b % ((e.s.length : Int) + 1) = n := ⟨(b % ((e.s.length : Int) + 1)).toNat, by rw [Int.toNat_of_nonneg (Int.emod_nonneg _ (by omega))]⟩
    have nb : (n : Int) < (e.s.length : Int) + 1 := by rw [← hn]; exact Int.emod_lt_of_pos _ (by omega)
    rw [List.take_succ_cons]
    unfold pth
    rw [hn, Int.toNat_natCast]
    rw [← hc]
    cases hq : e.s[n]? with
    | none =>
      have := List.getElem?_eq_none_iff.1 hq
      have h := aLoop_end (k := k) (stop0 K K f cs c e b hx bb.1 bb.2 (by omega) n hn (by omega)) (fun h => by cases h)
      rw [← hk'] at h
      exact ⟨_, h, .inr ⟨0, rfl⟩⟩
    | some x =>
      simp only
      obtain ⟨st, h, hs⟩ := loopS K f cs c hb r x 1 0 [(n : Int)] k (g.sub (List.mem_of_getElem? hq)) (by rw [hc]; rfl) (by rw [hc]; simp) (by omega) (by simp) (by rw [hc] at hk; simp at hk; omega)
      have h2 := aLoop_succ (k := k) (go0 K K f cs c e x b hx bb.1 bb.2 (by omega) n hn hq)
      rw [← hk'] at h2
      exact ⟨st, h2.trans h, by simpa using hs⟩
theorem path (f : Bool) (cs : List Int) (c : Option Nat) (hb : isB cs) (e : El) (g : Gd e) : ∃ N, Con E N 60 [e.av, .sl f (bs cs) c] (.sl (pth (cs.take 6) e).isEmpty (ns (pth (cs.take 6) e)) (if (pth (cs.take 6) e).isEmpty then some 0 else none)) := by
  obtain ⟨K, hK⟩ : ∃ K, cs.length + 60 = K := ⟨_, rfl⟩
  refine ⟨K + 1, con_of E_fn60 (by simp [AV.pureL, AV.pure, El.av_pure]) (Nat.le_of_ble_eq_true rfl) rfl rfl (g := []) ?_⟩
  rw [body_60, c60]
  by_cases hn : cs = []
  · subst hn
    obtain ⟨K', rfl⟩ : ∃ j, K = j + 1 := ⟨K - 1, by omega⟩
    have L : LpP (K' + 1) (K' + 1) (S0 f [] c e) = some (Out0 f c e) := aLoop_end (last0 (K' + 1) (K' + 1) f c e) (fun h => by cases h)
    simp [LpP, bP, lp, lps, c60, firstReg, F32.S0, ec, bs_nil] at L
    simp [El.av_eq, ↓s_seq, ↓s_reg, ↓s_block, ↓s_cons, s_nil, s_loop, firstReg, s_val, s_rgx, s_sqn, s_bke, s_ret', s_finr, s_fin1, s_fix, s_clean, o_tmp, o_int, o_nil, l_hit, l_miss, x_move, x_assign, frame0, resL, resA, results1, AV.pure, keepT, x_box, bxx, newK, genOf, setK, lookK, AV.cells, gcH, reach, keysT, keepK, inKs, AV.keys, AV.keysL, sc_int, sc_bool, sc_sl, sl_sl, bs_nil, L, pth, bs_nil]
  · obtain ⟨st, L, hs⟩ := loop0 K f cs c hb hn e g (by omega)
    have ne : pth (cs.take 6) e ≠ [] := by
      cases cs with
      | nil => exact absurd rfl hn
      | cons b r =>
        rw [List.take_succ_cons]
        unfold pth
        split <;> simp
    generalize pth (cs.take 6) e = l at hs ne ⊢
    have kl := ns_keys l
    have ie : l.isEmpty = false := by simpa using ne
    simp [LpP, bP, lp, lps, c60, firstReg, F32.S0, ec] at L
    have pn := ns_pure l
    rcases hs with ⟨i, m, x, rfl⟩ | ⟨m, rfl⟩
    · simp [El.av_eq, ↓s_seq, ↓s_reg, ↓s_block, ↓s_cons, s_nil, s_loop, firstReg, s_val, s_rgx, s_sqn, s_bke, s_ret', s_finr, s_fin1, s_fix, s_clean, o_tmp, o_int, o_nil, l_hit, l_miss, x_move, x_assign, frame0, resL, resA, results1, AV.pure, keepT, x_box, bxx, newK, genOf, setK, lookK, AV.cells, gcH, reach, keysT, keepK, inKs, AV.keys, AV.keysL, sc_int, sc_bool, sc_sl, sl_row, sealRow, sealY, L, pn, kl, ie]
    · simp [El.av_eq, ↓s_seq, ↓s_reg, ↓s_block, ↓s_cons, s_nil, s_loop, firstReg, s_val, s_rgx, s_sqn, s_sqr, s_bkr, s_finr, s_fin1, s_fix, s_clean, o_tmp, o_int, o_nil, l_hit, l_miss, x_assign, frame0, resL, resA, results1, AV.pure, keepT, x_box, bxx, newK, genOf, setK, lookK, AV.cells, gcH, reach, keysT, keepK, inKs, AV.keys, AV.keysL, sc_int, sc_bool, sc_sl, sl_row, sealRow, sealY, L, pn, ie]
end F33
end
