/- Own work, no conditions. -/
import Derived.Test.YtbiildmljbcmeaaLV
import Derived.Test.YtbiildmljbcmeaaP5
import Derived.Test.YtbiildmljbcmeaaE12
import Derived.Test.YtbiildmljbcmeaaB42
import Derived.KernelRfl
set_option maxRecDepth 20000
set_option linter.unusedSimpArgs false
set_option linter.unusedVariables false
set_option maxHeartbeats 16000000
section
open Ab Go TabE
attribute [local simp ↓] s_seq s_reg s_regd s_cond s_block s_cons s_consG
attribute [local simp] s_nil s_loop s_round s_lpn s_lpe s_lpr firstReg s_gt s_gf s_wb s_wu s_val s_valN s_skip s_calls s_callP s_cax lookR flatR pureKs s_ret s_rgx s_sqn s_sqr s_sqe s_cdb s_bkn s_bkr s_bke s_exit s_ret' s_skip' s_finr s_finn s_fin1 s_fix s_clean s_gc0 o_tmp o_int o_bool o_nil o_str o_fn o_nil' l_hit l_miss l_nil ol_nil ol_cons ol_some x_move x_assign x_pick pk_t pk_f x_bin bn_s x_un x_extract x_callF cl_no x_callB x_callBF frzV x_conv cvx convA frame0 binA intOp resL resA results1 sealLW AV.pure AV.pureL keepT x_alloc x_box bxx x_build bdx x_buildSlice bsx x_buildSliceF bsf x_load ldx x_store stx x_slice slx x_fieldAddr x_field x_index ixx x_indexAddr iax x_makeSlice msx x_makeSliceF msf x_nilCheck newK genOf setK lookK fillA writeL writeC readC conts TyI.mk1 sliceA boundsA boundsB fitsA numA indexAddrA fieldAddrA partA fieldA indexA appendA copyA builtinA AV.cells chunk gcH reach keysT keepK inKs AV.keys AV.keysL Ty.isAgg eq1 eqL convA.go ltI w_u8 w_u32 w_u64 w_i64 w_fdiv w_tdiv w_tmod IntKind.bits unA sc_int sc_bool sc_str sc_sl sc_ref sc_ptr sc_pel sc_nilp sc_fn sc_nilf sc_if sc_nili sc_agg sc_tup sc_mem bs_pure bs_kl bs_length bs_cells bs_all sl_row sealRow sealY sl_int sl_bool sl_str sl_sl sl_nilp sl_nilf sl_nili sl_pel sl_agg sl_tup sl_fn sl_if nat_1 bs_cons bs_nil i_beq i_bne x_mkF x_mkI x_tassert x_panic s_pan s_sqp s_bkp s_finp s_fixp s_lpp s_rgp s_retp s_site s_stxN s_stxO x_callT clx El.avs_len
section
open Ab Go TabE Sp E13 E18
namespace E18
def z : El := .mk 0 false 0 true [] (some 0) true [] (some 0)
def ex : El := .mk 0 true 16 true [] (some 0) false [.mk 0 false 2 false [7] (some 1) true [] (some 0), .mk 0 false 5 true [] (some 0) true [] (some 0)] (some 2)
theorem ex_con : Con E 20 41 [] ex.av := .of (g := []) rfl (by kernel_rfl)
theorem z_ok : z.ok := by simp [z, El.ok, El.oks, isB]
theorem ex_ok : ex.ok := by simp [ex, El.ok, El.oks, isB]
theorem ex_sm : ex.sm := by simp [ex, El.sm, El.sms]
theorem ex_chk : (chk ex.core 1 0 0).1 = 0 := by decide +kernel
theorem ex_enc : enc ex.core = [48, 5, 2, 1, 7, 5, 0] := by decide +kernel
theorem z_av : z.av = .agg [.int .u8 0, .bool false, .int .u32 0, .sl true [] (some 0), .sl true [] (some 0)] := rfl
theorem at_bad (e : El) (he : e.ok) (f c) (h : (chk e.core 1 0 0).1 ≠ 0) (ps : List AV) (hp : AV.pureL ps = true) : ∃ N, Con E N 25 [e.av, .sl f ps c] (.tup [z.av, .int .i64 (chk e.core 1 0 0).1]) := by
  obtain ⟨N, C⟩ := E10.check e he
  have C' := C (N + 10) (by omega) 0
  rw [El.av_eq] at C'
  refine ⟨N + 10 + 1, con_of E_fn25 (by simp [AV.pureL, El.av_pure, AV.pure, hp]) (Nat.le_of_ble_eq_true rfl) rfl rfl (g := []) ?_⟩
  rw [body_25, c25, z_av]
  simp [El.av_eq, C', h, hp]
theorem isB_app {a b : List Int} (ha : isB a) (hb : isB b) : isB (a ++ b) := fun x h => (List.mem_append.1 h).elim (ha x) (hb x)
theorem oct_B (v : Int) (k : Nat) : 0 ≤ TG.oct v k ∧ TG.oct v k < 256 := by
  unfold TG.oct
  generalize v / 2 ^ (7 * k) = w
  split <;> omega
theorem grp_B (v : Int) : isB (TG.grp v) := by
  unfold TG.grp
  split <;> intro x hx <;> simp at hx <;> (rcases hx with rfl | rfl | rfl | rfl) <;> exact oct_B _ _
theorem tagO_B (c k n) (hc : 0 ≤ c) (hc3 : c ≤ 3) (hn : 0 ≤ n) : isB (TG.tagO c k n) := by
  unfold TG.tagO
  split
  · intro x hx; simp at hx; subst hx; cases k <;> simp <;> omega
  · rw [isB_cons]; exact ⟨by cases k <;> simp <;> omega, grp_B n⟩
theorem lenO_B (n : Int) (h0 : 0 ≤ n) (h1 : n ≤ 16777215) : isB (lenO n) := by
  unfold lenO
  split
  · intro x hx; simp at hx; omega
  split
  · intro x hx; simp at hx; omega
  split
  · intro x hx; simp at hx; omega
  · intro x hx; simp at hx; omega
theorem encs_B : ∀ l : List El, (∀ x ∈ l, isB (enc x.core)) → isB (encs (El.cores l))
  | [], _ => isB_nil
  | x :: r, h => by
    rw [El.cores, encs]
    exact isB_app (h x (List.mem_cons_self ..)) (encs_B r fun y hy => h y (List.mem_cons_of_mem _ hy))
theorem encs_mem {x : El} : ∀ {l : List El}, x ∈ l → (enc x.core).length ≤ (encs (El.cores l)).length
  | y :: r, h => by
    rw [El.cores, encs, List.length_append]
    rcases List.mem_cons.1 h with rfl | h
    · omega
    · have := encs_mem h; omega
theorem enc_B : ∀ e : El, e.ok → vld e.core → (enc e.core).length ≤ 16777215 → isB (enc e.core) := by
  refine El.ind fun e ih he hv hl => ?_
  have v := (vld_eq e).1 hv
  have hs := encs_B e.s fun x hx => ih x hx (he.sub x hx) (vlds_all.1 v.2.2.2 x hx) (by
    have := encs_mem hx
    rw [enc_eq] at hl
    simp only [List.length_append] at hl
    omega)
  have t : e.c ≤ 3 := by
    have := v.1
    unfold tagE at this
    by_cases q : 3 < e.c ∨ 268435455 < e.n
    · rw [if_pos q] at this; cases this
    · omega
  rw [enc_eq] at hl ⊢
  simp only [List.length_append] at hl
  exact isB_app (tagO_B _ _ _ he.cb.1 t he.nb.1) (isB_app (lenO_B _ (by omega) (by simp only [List.length_append]; omega)) (isB_app he.bb hs))
theorem cmpI_refl : ∀ l : List Int, cmpI l l = 0
  | [] => rfl
  | a :: r => by rw [cmpI, if_pos rfl]; exact cmpI_refl r
theorem law (e : El) (he : e.ok) : ∃ N, Con E N 9 [e.av] (.bool true) := by
  obtain ⟨N0, r, B, hr⟩ := bounded e he
  rcases hr with rfl | ⟨rfl, hb⟩
  · have B' := B (N0 + 300) (by omega) 0
    rw [El.av_eq] at B'
    have l := LV.l04 (N0 + 300) (by omega) 0
    refine ⟨N0 + 300 + 1, con_of E_fn9 (by simp [AV.pureL, El.av_pure]) (Nat.le_of_ble_eq_true rfl) rfl rfl (g := []) ?_⟩
    rw [body_9, c9]
    simp [El.av_eq, B', l]
  have hcnt : cnt e.core ≤ 60 := by
    obtain ⟨_, _, _, hm⟩ := hb
    rw [cnt_many e.core 60 (by omega) hm]; exact hm
  have hf := fw_bd e hb
  have hs := fw_sm (by omega) e hf (by omega)
  have hl := fw_len e hf
  have hl2 : (enc e.core).length ≤ 1048576 := by omega
  obtain ⟨N1, C1⟩ := E11.check e he
  obtain ⟨N2, C2⟩ := E10.check e he
  obtain ⟨N3, C3⟩ := E10.count e he
  obtain ⟨N4, C4⟩ := E10.depth e he
  by_cases hw : (chk e.core 1 0 0).1 = 0
  · have hv := vld_of _ _ _ _ hw
    have cd := chk_dep e.core 1 0 0 hw
    have dp := dep_pos e.core
    have dc := dep_cnt e.core
    have rc1 : E11.rc e.core 1 0 = (0, cnt e.core) := by
      unfold E11.rc
      rw [if_pos hw, hw, cd.2.1, Int.zero_add]
    have m1 : (E5.meas e).2.1 = cnt e.core ∧ (E5.meas e).2.2 = dep e.core := by
      unfold E5.meas; rw [if_pos hw]; exact ⟨by rw [cd.2.1]; omega, by rw [cd.1]; omega⟩
    obtain ⟨N5, C5⟩ := E10.put_ok e he hs hw hl2
    obtain ⟨N6, v, C6, hv6⟩ := E14.same_ok e e he he hw hw
    obtain rfl := hv6.2 rfl
    obtain ⟨N7, C7⟩ := E17.rput e he hv (by omega)
    obtain ⟨N8, C8⟩ := E10.size_ok e he hs hw
    rw [if_pos hl2] at C8
    obtain ⟨N9, C9⟩ := E12.depth e he (by omega)
    obtain ⟨K, hK⟩ : ∃ K, N0 + N1 + N2 + N3 + N4 + N5 + N6 + N7 + N8 + N9 + 300 = K := ⟨_, rfl⟩
    have w0 := B K (by omega) 0
    have w1 := C1 K (by omega) 1 0 (by omega) (by omega) (by omega) (by omega)
    rw [rc1] at w1
    have w2 := C2 K (by omega) 0
    rw [hw] at w2
    have w3 := C3 K (by omega) 0
    rw [m1.1] at w3
    have w4 := C4 K (by omega) 0
    rw [m1.2] at w4
    have w5 := C5 K (by omega) 0
    have w6 := C6 K (by omega) 0
    have w7 := C7 K (by omega) 0
    have w8 := C8 K (by omega) 0
    have w9 := C9 K (by omega) 0
    have l := LV.l04 K (by omega) 0
    rw [El.av_eq] at w0 w1 w2 w3 w4 w5 w6 w7 w8 w9
    have eb : isB (enc e.core) := enc_B e he hv (by omega)
    have gb := bs_go eb
    refine ⟨K + 1, con_of E_fn9 (by simp [AV.pureL, El.av_pure]) (Nat.le_of_ble_eq_true rfl) rfl rfl (g := []) ?_⟩
    rw [body_9, c9]
    simp [El.av_eq, w0, w1, w2, w3, w4, w5, w6, w7, w8, w9, l, gb]
  · have m1 : (E5.meas e).2.1 = 0 ∧ (E5.meas e).2.2 = 0 := by unfold E5.meas; rw [if_neg hw]; exact ⟨rfl, rfl⟩
    have rc1 : E11.rc e.core 1 0 = ((chk e.core 1 0 0).1, 0) := by unfold E11.rc; rw [if_neg hw]
    obtain ⟨N5, C5⟩ := E10.put_bad e he hw
    obtain ⟨N6, C6⟩ := E14.same_bad e e he hw
    obtain ⟨N7, C7⟩ := at_bad e he true (some 0) hw [] rfl
    obtain ⟨N8, C8⟩ := E10.size_bad e he hw
    obtain ⟨N9, C9⟩ := E1.same z z z_ok rfl
    obtain ⟨N10, C10⟩ := E10.put_ok ex ex_ok ex_sm ex_chk (by rw [ex_enc]; decide)
    have C11 := E14.compare e ex _ _ _ _ [] _ isB_nil (by rw [ex_enc]; simp [isB]) (N5 + N10) _ _ (C5.mono (by omega)) (C10.mono (by omega))
    have C12 := E14.compare e e _ _ _ _ [] [] isB_nil isB_nil (N5 + N10) _ _ (C5.mono (by omega)) (C5.mono (by omega))
    obtain ⟨w, hw'⟩ : ∃ w, (chk e.core 1 0 0).1 = w := ⟨_, rfl⟩
    rw [hw'] at hw rc1
    obtain ⟨K, hK⟩ : ∃ K, N0 + N1 + N2 + N3 + N4 + N5 + N6 + N7 + N8 + N9 + N10 + 300 = K := ⟨_, rfl⟩
    have w0 := B K (by omega) 0
    have w1 := C1 K (by omega) 1 0 (by omega) (by omega) (by omega) (by omega)
    rw [rc1] at w1
    have w2 := C2 K (by omega) 0
    rw [hw'] at w2
    have w3 := C3 K (by omega) 0
    rw [m1.1] at w3
    have w4 := C4 K (by omega) 0
    rw [m1.2] at w4
    have w5 := C5 K (by omega) 0
    rw [hw'] at w5
    have w6 := C6 K (by omega) 0
    have w7 := C7 K (by omega) 0
    rw [hw'] at w7
    have w8 := C8 K (by omega) 0
    have w9 := C9 K (by omega) 0
    have w10 := ex_con K (by omega) 0
    have w11 := C11 K (by omega) 0
    have w12 := C12 K (by omega) 0
    rw [ex_enc] at w11
    rw [cmpI_refl] at w12
    have w13 : cmpI [] [48, 5, 2, 1, 7, 5, 0] = -1 := rfl
    rw [w13] at w11
    have l := LV.l04 K (by omega) 0
    have xa : ∃ cs, ex.av = .agg cs ∧ AV.pureL cs = true := ⟨_, rfl, rfl⟩
    obtain ⟨xs, xa, xp⟩ := xa
    rw [xa] at w10 w11
    rw [z_av] at w7 w9
    rw [El.av_eq] at w0 w1 w2 w3 w4 w5 w6 w7 w8 w11 w12
    refine ⟨K + 1, con_of E_fn9 (by simp [AV.pureL, El.av_pure]) (Nat.le_of_ble_eq_true rfl) rfl rfl (g := []) ?_⟩
    rw [body_9, c9]
    simp [El.av_eq, w0, w1, w2, w3, w4, w5, w6, w7, w8, w9, w10, w11, w12, l, hw, xp]
end E18
end
end
section
open Ab Go TabE Sp
namespace E40
theorem byte_at (f c) (xs : List Int) (i : Nat) (x : Int) (h : xs[i]? = some x) : ∀ hp, indexAddrA E 22 (.sl f (bs xs) c) (.int .i64 i) hp = some (.pel [.int .u8 x]) := by
  intro hp
  have hi : i < xs.length := (List.getElem?_eq_some_iff.1 h).1
  unfold indexAddrA
  simp only [E_ty22, E_ty5]
  rw [if_pos ⟨by omega, by rw [bs_len]; omega⟩]
  simp only [Int.toNat_natCast, bs, List.getElem?_map, h, Option.map_some]
  rfl
end E40
end
section
open Ab Go TabE Sp E40
namespace Sp
def gl : List Int → Int × Int × Int
  | [] => (0, 0, 7)
  | x :: r => if x ≤ 127 then (x, 1, 0)
    else if x = 128 ∨ 131 < x then (0, 0, 10)
    else if x = 129 then (match r with
      | y :: _ => if y ≤ 127 then (0, 0, 10) else (y, 2, 0)
      | _ => (0, 0, 7))
    else if x = 130 then (match r with
      | y :: z :: _ => if y = 0 then (0, 0, 10) else (256 * y + z, 3, 0)
      | _ => (0, 0, 7))
    else (match r with
      | y :: z :: u :: _ => if y = 0 then (0, 0, 10) else (256 * (256 * y + z) + u, 4, 0)
      | _ => (0, 0, 7))
end Sp
end
section
open Ab Go TabE
attribute [local simp ↓] s_seq s_reg s_regd s_cond s_block s_cons s_consG
attribute [local simp] s_nil s_loop s_round s_lpn s_lpe s_lpr firstReg s_gt s_gf s_wb s_wu s_val s_valN s_skip s_calls s_callP s_cax lookR flatR pureKs s_ret s_rgx s_sqn s_sqr s_sqe s_cdb s_bkn s_bkr s_bke s_exit s_ret' s_skip' s_finr s_finn s_fin1 s_fix s_clean s_gc0 o_tmp o_int o_bool o_nil o_str o_fn o_nil' l_hit l_miss l_nil ol_nil ol_cons ol_some x_move x_assign x_pick pk_t pk_f x_bin bn_s x_un x_extract x_callF cl_no x_callB x_callBF frzV x_conv cvx convA frame0 binA intOp resL resA results1 sealLW AV.pure AV.pureL keepT x_alloc x_box bxx x_build bdx x_buildSlice bsx x_buildSliceF bsf x_load ldx x_store stx x_slice slx x_fieldAddr x_field x_index ixx x_indexAddr iax x_makeSlice msx x_makeSliceF msf x_nilCheck newK genOf setK lookK fillA writeL writeC readC conts TyI.mk1 sliceA boundsA boundsB fitsA numA indexAddrA fieldAddrA partA fieldA indexA appendA copyA builtinA AV.cells chunk gcH reach keysT keepK inKs AV.keys AV.keysL Ty.isAgg eq1 eqL convA.go ltI w_u8 w_u32 w_u64 w_i64 w_fdiv w_tdiv w_tmod IntKind.bits unA sc_int sc_bool sc_str sc_sl sc_ref sc_ptr sc_pel sc_nilp sc_fn sc_nilf sc_if sc_nili sc_agg sc_tup sc_mem bs_pure bs_kl bs_length bs_cells bs_all sl_row sealRow sealY sl_int sl_bool sl_str sl_sl sl_nilp sl_nilf sl_nili sl_pel sl_agg sl_tup sl_fn sl_if nat_1 bs_cons bs_nil i_beq i_bne x_mkF x_mkI x_tassert x_panic s_pan s_sqp s_bkp s_finp s_fixp s_lpp s_rgp s_retp s_site s_stxN s_stxO x_callT clx El.avs_len
section
open Ab Go TabE Sp E40
namespace E51
theorem aLoop_cl {g : St → Option (AExit × St)} {cl : St → St} {n : Nat} {s s' : St} (h : cl s = cl s') : aLoop g cl n s = aLoop g cl n s' := by cases n <;> simp only [aLoop, h]
end E51
end
end
section
open Ab Go TabE
attribute [local simp ↓] s_seq s_reg s_regd s_cond s_block s_cons s_consG s_regD
attribute [local simp] s_nil s_loop s_round s_lpn s_lpe s_lpr firstReg s_gt s_gf s_wb s_wu s_val s_valN s_skip s_calls s_callP s_cax lookR flatR pureKs s_ret s_rgx s_sqn s_sqr s_sqe s_cdb s_bkn s_bkr s_bke s_exit s_ret' s_skip' s_finr s_finn s_fin1 s_fix s_clean s_gc0 o_tmp o_int o_bool o_nil o_str o_fn o_nil' l_hit l_miss l_nil ol_nil ol_cons ol_some x_move x_assign x_pick pk_t pk_f x_bin bn_s x_un x_extract x_callF cl_no x_callB x_callBF frzV x_conv cvx convA frame0 binA intOp resL resA results1 sealLW AV.pure AV.pureL keepT x_alloc x_box bxx x_build bdx x_buildSlice bsx x_buildSliceF bsf x_load ldx x_store stx x_slice slx x_fieldAddr x_field x_index ixx x_indexAddr iax x_makeSlice msx x_makeSliceF msf x_nilCheck newK genOf setK lookK fillA writeL writeC readC conts TyI.mk1 sliceA boundsA boundsB fitsA numA indexAddrA fieldAddrA partA fieldA indexA appendA copyA builtinA AV.cells chunk gcH reach keysT keepK inKs AV.keys AV.keysL Ty.isAgg eq1 eqL convA.go ltI w_u8 w_u32 w_u64 w_i64 w_fdiv w_tdiv w_tmod IntKind.bits unA sc_int sc_bool sc_str sc_sl sc_ref sc_ptr sc_pel sc_nilp sc_fn sc_nilf sc_if sc_nili sc_agg sc_tup sc_mem bs_pure bs_kl bs_length bs_cells bs_all sl_row sealRow sealY sl_int sl_bool sl_str sl_sl sl_nilp sl_nilf sl_nili sl_pel sl_agg sl_tup sl_fn sl_if nat_1 bs_cons bs_nil i_beq i_bne x_mkF x_mkI x_tassert x_panic s_pan s_sqp s_bkp s_finp s_fixp s_lpp s_rgp s_retp s_site s_stxN s_stxO x_callT clx El.avs_len s_dyn0 s_rgy barOf dynChk footL dynOK disjK keysOp opVals Op.operands
section
open Ab Go TabE Sp F1
namespace F2
def lb (x : Int) : List Int := if (tg x).1 = 0 ∧ (tg x).2.2 = 1 then [255] else if (tg x).1 = 0 ∧ (tg x).2.2 = 2 then [x / 8] else List.replicate (x * (x / 64)).toNat 0
def leaf (x : Int) : El := .mk (tg x).1 false (tg x).2.2 false (lb x) (some (lb x).length) true [] (some 0)
def node (x : Int) (s : List El) : El := .mk (tg x).1 true (tg x).2.2 true [] (some 0) s.isEmpty s (if s.isEmpty then some 0 else none)
def bB : Code := lp c81 0
abbrev S0 (fl : Bool) (cs : List Int) (cp : Option Nat) (i lv : Nat) : St := ⟨[(0, .sl fl (bs cs) cp), (1, .int .i64 (i : Int)), (2, .int .i64 (lv : Int)), (8, .sl true [] (some 0))], []⟩
abbrev SR (fl : Bool) (cs : List Int) (cp : Option Nat) (i lv : Nat) (l : List El) (g : Nat) : St := ⟨[(0, .sl fl (bs cs) cp), (1, .int .i64 (i : Int)), (2, .int .i64 (lv : Int)), (8, .ref (1, 84, g) 0 l.length none)], [((1, 84, g), ⟨El.fl l, true, true, false, 5, true⟩)]⟩
theorem last0 (q k1 : Nat) (fl cs cp) (i lv : Nat) (h : cs.length ≤ i ∨ 40 ≤ i) : rnd fn81 bB q k1 (S0 fl cs cp i lv) = some (.exit 0, ⟨[(0, .sl fl (bs cs) cp), (1, .int .i64 (i : Int)), (2, .int .i64 (lv : Int)), (8, .sl true [] (some 0)), (18, .bool false)], []⟩) := by
  by_cases h1 : i < cs.length
  · have h2 : ¬ (i : Int) < 40 := by omega
    have h3 : ¬ i < 40 := by omega
    simp [bB, lp, lps, c81, h1, h2, h3]
  · simp [bB, lp, lps, c81, h1]
theorem lastR (q k1 : Nat) (fl cs cp) (i lv : Nat) (l : List El) (g : Nat) (h : cs.length ≤ i ∨ 40 ≤ i) : rnd fn81 bB q k1 (SR fl cs cp i lv l g) = some (.exit 0, ⟨[(0, .sl fl (bs cs) cp), (1, .int .i64 (i : Int)), (2, .int .i64 (lv : Int)), (8, .ref (1, 84, g) 0 l.length none), (18, .bool false)], [((1, 84, g), ⟨El.fl l, true, true, false, 5, true⟩)]⟩) := by
  have f2 := El.fl_keys l
  by_cases h1 : i < cs.length
  · have h2 : ¬ (i : Int) < 40 := by omega
    have h3 : ¬ i < 40 := by omega
    simp [bB, lp, lps, c81, h1, h2, h3, f2]
  · simp [bB, lp, lps, c81, h1, f2]
theorem end0 (q k1 : Nat) (fl cs cp) (i lv : Nat) (x : Int) (hx : cs[i]? = some x) (i40 : i < 40) (x0 : 0 ≤ x) (hm : x % 16 = 15) : rnd fn81 bB q k1 (S0 fl cs cp i lv) = some (.ret, ⟨[(6, .sl true [] (some 0)), (7, .int .i64 ((i : Int) + 1))], []⟩) := by
  have hi : i < cs.length := (List.getElem?_eq_some_iff.1 hx).1
  have ix := E40.byte_at fl cp cs i x hx
  have w := w64' ((i : Int) + 1) (by omega) (by omega)
  have i40' : (i : Int) < 40 := by omega
  have t1 : Int.tmod x 16 = x % 16 := Int.tmod_eq_emod_of_nonneg x0
  simp [bB, lp, lps, c81, -indexAddrA, ix, w, hi, i40, i40', t1, hm]
theorem endR (q k1 : Nat) (fl cs cp) (i lv : Nat) (l : List El) (g : Nat) (x : Int) (hx : cs[i]? = some x) (i40 : i < 40) (x0 : 0 ≤ x) (hm : x % 16 = 15) : rnd fn81 bB q k1 (SR fl cs cp i lv l g) = some (.ret, ⟨[(6, .ref (1, 84, g) 0 l.length none), (7, .int .i64 ((i : Int) + 1))], [((1, 84, g), ⟨El.fl l, true, true, false, 5, true⟩)]⟩) := by
  have hi : i < cs.length := (List.getElem?_eq_some_iff.1 hx).1
  have ix := E40.byte_at fl cp cs i x hx
  have w := w64' ((i : Int) + 1) (by omega) (by omega)
  have i40' : (i : Int) < 40 := by omega
  have t1 : Int.tmod x 16 = x % 16 := Int.tmod_eq_emod_of_nonneg x0
  have f2 := El.fl_keys l
  simp [bB, lp, lps, c81, -indexAddrA, ix, w, hi, i40, i40', t1, hm, f2]
abbrev S5 (fl : Bool) (cs : List Int) (cp : Option Nat) (i : Nat) (x : Int) : St := ⟨[(0, .sl fl (bs cs) cp), (1, .int .i64 (i : Int)), (2, .int .i64 5), (8, .sl true [] (some 0)), (10, .ptr (1, 10, 0) 0), (37, .bool true)], [((1, 10, 0), bx [.int .u8 (tg x).1, .bool (tg x).2.1, .int .u32 (tg x).2.2, .sl true [] (some 0), .sl true [] (some 0)])]⟩
abbrev SR5 (fl : Bool) (cs : List Int) (cp : Option Nat) (i : Nat) (l : List El) (g : Nat) (x : Int) : St := ⟨[(0, .sl fl (bs cs) cp), (1, .int .i64 (i : Int)), (2, .int .i64 5), (8, .ref (1, 84, g) 0 l.length none), (10, .ptr (1, 10, 0) 0), (37, .bool true)], [((1, 84, g), ⟨El.fl l, true, true, false, 5, true⟩), ((1, 10, 0), bx [.int .u8 (tg x).1, .bool (tg x).2.1, .int .u32 (tg x).2.2, .sl true [] (some 0), .sl true [] (some 0)])]⟩
abbrev TagC (q : Nat) (x : Int) : Prop := ∀ h, aCall E q 0 44 [.int .u8 x] h = some (.ret (.agg [.int .u8 (tg x).1, .bool (tg x).2.1, .int .u32 (tg x).2.2]), h)
theorem skip0 (q k1 : Nat) (fl cs cp) (i : Nat) (x : Int) (hx : cs[i]? = some x) (i40 : i < 40) (x0 : 0 ≤ x) (hm : ¬ x % 16 = 15) (T : TagC q x) (k : (tg x).2.1 = true) : rnd fn81 bB q k1 (S0 fl cs cp i 5) = some (.normal, S5 fl cs cp (i + 1) x) := by
  have hi : i < cs.length := (List.getElem?_eq_some_iff.1 hx).1
  have ix := E40.byte_at fl cp cs i x hx
  have w := w64' ((i : Int) + 1) (by omega) (by omega)
  have i40' : (i : Int) < 40 := by omega
  have t1 : Int.tmod x 16 = x % 16 := Int.tmod_eq_emod_of_nonneg x0
  simp [bB, lp, lps, c81, -indexAddrA, ix, w, hi, i40, i40', t1, hm, T, k]
theorem skipR (q k1 : Nat) (fl cs cp) (i : Nat) (l : List El) (g : Nat) (x : Int) (hx : cs[i]? = some x) (i40 : i < 40) (x0 : 0 ≤ x) (hm : ¬ x % 16 = 15) (T : TagC q x) (k : (tg x).2.1 = true) : rnd fn81 bB q k1 (SR fl cs cp i 5 l g) = some (.normal, SR5 fl cs cp (i + 1) l g x) := by
  have hi : i < cs.length := (List.getElem?_eq_some_iff.1 hx).1
  have ix := E40.byte_at fl cp cs i x hx
  have w := w64' ((i : Int) + 1) (by omega) (by omega)
  have i40' : (i : Int) < 40 := by omega
  have t1 : Int.tmod x 16 = x % 16 := Int.tmod_eq_emod_of_nonneg x0
  have f2 := El.fl_keys l
  simp [bB, lp, lps, c81, -indexAddrA, ix, w, hi, i40, i40', t1, hm, T, k, f2]
theorem cl0 (fl cs cp i x) : cleanS 1 ((firstReg bB).bind fn81.head) (S5 fl cs cp i x) = cleanS 1 ((firstReg bB).bind fn81.head) (S0 fl cs cp i 5) := rfl
theorem clR (fl cs cp i l g x) : cleanS 1 ((firstReg bB).bind fn81.head) (SR5 fl cs cp i l g x) = cleanS 1 ((firstReg bB).bind fn81.head) (SR fl cs cp i 5 l g) := by
  have f2 := El.fl_keys l
  simp [bB, lp, lps, c81, firstReg, cleanS, keepT, lookT, gcH, reach, keysT, AV.keys, keepK, inKs, lookK, f2, AV.keysL, bx]
end F2
end
section
open Ab Go TabE Sp F1 F2
namespace F3
abbrev BC (q : Nat) (fl : Bool) (cs : List Int) (cp : Option Nat) (i lv : Nat) (s : List El) (i' : Nat) : Prop := ∀ h, aCall E q 0 81 [.sl fl (bs cs) cp, .int .i64 (i : Int), .int .i64 (lv : Int)] h = some (.ret (.tup [.sl s.isEmpty (El.avs s) (if s.isEmpty then some 0 else none), .int .i64 (i' : Int)]), h)
theorem node0 (q k1 : Nat) (fl cs cp) (i lv : Nat) (x : Int) (s : List El) (i' : Nat) (hx : cs[i]? = some x) (i40 : i < 40) (x0 : 0 ≤ x) (hm : ¬ x % 16 = 15) (T : TagC q x) (k : (tg x).2.1 = true) (l5 : lv < 5) (B : BC q fl cs cp (i + 1) (lv + 1) s i') : rnd fn81 bB q k1 (S0 fl cs cp i lv) = some (.normal, SR fl cs cp i' lv [node x s] 0) := by
  have hi : i < cs.length := (List.getElem?_eq_some_iff.1 hx).1
  have ix := E40.byte_at fl cp cs i x hx
  have w := w64' ((i : Int) + 1) (by omega) (by omega)
  have w2 := w64' ((lv : Int) + 1) (by omega) (by omega)
  have i40' : (i : Int) < 40 := by omega
  have l5' : ¬ (lv : Int) = 5 := by omega
  have l6' : ¬ lv = 5 := by omega
  have t1 : Int.tmod x 16 = x % 16 := Int.tmod_eq_emod_of_nonneg x0
  rw [node]
  have e1 : ((i + 1 : Nat) : Int) = (i : Int) + 1 := by omega
  have e2 : ((lv + 1 : Nat) : Int) = (lv : Int) + 1 := by omega
  unfold BC at B
  rw [e1, e2] at B
  simp [bB, lp, lps, c81, -indexAddrA, ix, w, w2, hi, i40, i40', t1, hm, T, k, l5', l6', B, El.fl_mk1]
theorem nodeR (q k1 : Nat) (fl cs cp) (i lv : Nat) (l : List El) (g : Nat) (x : Int) (s : List El) (i' : Nat) (hl : l.length ≤ 1000) (hx : cs[i]? = some x) (i40 : i < 40) (x0 : 0 ≤ x) (hm : ¬ x % 16 = 15) (T : TagC q x) (k : (tg x).2.1 = true) (l5 : lv < 5) (B : BC q fl cs cp (i + 1) (lv + 1) s i') : rnd fn81 bB q k1 (SR fl cs cp i lv l g) = some (.normal, SR fl cs cp i' lv (l ++ [node x s]) (g + 1)) := by
  have hi : i < cs.length := (List.getElem?_eq_some_iff.1 hx).1
  have ix := E40.byte_at fl cp cs i x hx
  have w := w64' ((i : Int) + 1) (by omega) (by omega)
  have w2 := w64' ((lv : Int) + 1) (by omega) (by omega)
  have i40' : (i : Int) < 40 := by omega
  have l5' : ¬ (lv : Int) = 5 := by omega
  have l6' : ¬ lv = 5 := by omega
  have t1 : Int.tmod x 16 = x % 16 := Int.tmod_eq_emod_of_nonneg x0
  rw [node]
  have e1 : ((i + 1 : Nat) : Int) = (i : Int) + 1 := by omega
  have e2 : ((lv + 1 : Nat) : Int) = (lv : Int) + 1 := by omega
  unfold BC at B
  rw [e1, e2] at B
  have cs5 : (l.length + 1) * 56 ≤ 70368744177664 := by omega
  have f1 := El.fl_len l
  have f2 := El.fl_keys l
  have f3 : (El.fl l).take (l.length * 5) = El.fl l := by rw [El.fl_take, List.take_length]
  have f4 := El.fl_pure l
  have f5 := El.fl_scal l
  simp [bB, lp, lps, c81, -indexAddrA, ix, w, w2, hi, i40, i40', t1, hm, T, k, l5', l6', B, El.fl_mkS, f1, f2, f3, f4, f5, cs5, El.fl_keysr]
theorem lb_z (n : Nat) : List.replicate n (AV.int .u8 0) = bs (List.replicate n 0) := by simp [bs]
theorem chk_z (n : Nat) : chunk false 1 n (bs (List.replicate n 0)) = bs (List.replicate n 0) := by
  have := El.chk_bs (List.replicate n 0)
  simpa using this
theorem take_z (n : Nat) : (bs (List.replicate n 0)).take n = bs (List.replicate n 0) := by
  rw [List.take_of_length_le]; rw [bs_len]; simp
theorem leaf_cases (x : Int) (h0 : 0 ≤ x) (h1 : x < 256) : ((tg x).1 = 0 ∧ (tg x).2.2 = 1 ∧ leaf x = .mk 0 false 1 false [255] (some 1) true [] (some 0)) ∨ ((tg x).1 = 0 ∧ (tg x).2.2 = 2 ∧ leaf x = .mk 0 false 2 false [x / 8] (some 1) true [] (some 0)) ∨
    (¬ ((tg x).1 = 0 ∧ (tg x).2.2 = 1) ∧ ¬ ((tg x).1 = 0 ∧ (tg x).2.2 = 2) ∧ ∃ n : Nat, x * (x / 64) = n ∧ n ≤ 1000 ∧ leaf x = .mk (tg x).1 false (tg x).2.2 false (List.replicate n 0) (some n) true [] (some 0)) := by
  by_cases a : (tg x).1 = 0 ∧ (tg x).2.2 = 1
  · exact .inl ⟨a.1, a.2, by unfold leaf lb; rw [if_pos a, a.1, a.2]; rfl⟩
  by_cases b : (tg x).1 = 0 ∧ (tg x).2.2 = 2
  · exact .inr (.inl ⟨b.1, b.2, by unfold leaf lb; rw [if_neg a, if_pos b, b.1, b.2]; rfl⟩)
  · refine .inr (.inr ⟨a, b, ?_⟩)
    have q : x / 64 = 0 ∨ x / 64 = 1 ∨ x / 64 = 2 ∨ x / 64 = 3 := by omega
    obtain ⟨n, hn⟩ : ∃ n : Nat, x * (x / 64) = n := ⟨(x * (x / 64)).toNat, (Int.toNat_of_nonneg (Int.mul_nonneg h0 (by omega))).symm⟩
    refine ⟨n, hn, by rcases q with q | q | q | q <;> rw [q] at hn <;> omega, ?_⟩
    unfold leaf lb; rw [if_neg a, if_neg b, hn]; simp
theorem leaf0 (q k1 : Nat) (fl cs cp) (i lv : Nat) (x : Int) (hx : cs[i]? = some x) (i40 : i < 40) (x0 : 0 ≤ x) (x1 : x < 256) (hm : ¬ x % 16 = 15) (T : TagC q x) (k : (tg x).2.1 = false) : rnd fn81 bB q k1 (S0 fl cs cp i lv) = some (.normal, SR fl cs cp (i + 1) lv [leaf x] 0) := by
  have hi : i < cs.length := (List.getElem?_eq_some_iff.1 hx).1
  have ix := E40.byte_at fl cp cs i x hx
  have w := w64' ((i : Int) + 1) (by omega) (by omega)
  have i40' : (i : Int) < 40 := by omega
  have t1 : Int.tmod x 16 = x % 16 := Int.tmod_eq_emod_of_nonneg x0
  have t2 : Int.tdiv x 8 = x / 8 := Int.tdiv_eq_ediv_of_nonneg x0
  have t3 : Int.tdiv x 64 = x / 64 := Int.tdiv_eq_ediv_of_nonneg x0
  have w8 : (x / 8) % 256 = x / 8 := Int.emod_eq_of_lt (by omega) (by omega)
  have w9 : (x / 64) % 256 = x / 64 := Int.emod_eq_of_lt (by omega) (by omega)
  have w10 := w64' x (by omega) (by omega)
  have w11 := w64' (x / 64) (by omega) (by omega)
  rcases leaf_cases x x0 x1 with ⟨a, b, e⟩ | ⟨a, b, e⟩ | ⟨a, b, n, hn, nb, e⟩
  · rw [e]; simp [bB, lp, lps, c81, -indexAddrA, ix, w, hi, i40, i40', t1, hm, T, k, a, b, El.fl_mk1, El.avs]
  · rw [e]; simp [bB, lp, lps, c81, -indexAddrA, ix, w, hi, i40, i40', t1, hm, T, k, a, b, t2, w8, El.fl_mk1, El.avs]
  · have w12 := w64' (n : Int) (by omega) (by omega)
    have n1 : (n : Int) ≤ 70368744177664 := by omega
    rw [e]
    by_cases a0 : (tg x).1 = 0
    · have a1 : ¬ (tg x).2.2 = 1 := fun h => a ⟨a0, h⟩
      have b1 : ¬ (tg x).2.2 = 2 := fun h => b ⟨a0, h⟩
      simp [bB, lp, lps, c81, -indexAddrA, ix, w, hi, i40, i40', t1, hm, T, k, a0, a1, b1, t3, w9, w10, w11, w12, hn, n1, lb_z, chk_z, take_z, El.fl_mk1, El.avs]
    · simp [bB, lp, lps, c81, -indexAddrA, ix, w, hi, i40, i40', t1, hm, T, k, a0, t3, w9, w10, w11, w12, hn, n1, lb_z, chk_z, take_z, El.fl_mk1, El.avs]
theorem leafR (q k1 : Nat) (fl cs cp) (i lv : Nat) (l : List El) (g : Nat) (x : Int) (hl : l.length ≤ 1000) (hx : cs[i]? = some x) (i40 : i < 40) (x0 : 0 ≤ x) (x1 : x < 256) (hm : ¬ x % 16 = 15) (T : TagC q x) (k : (tg x).2.1 = false) : rnd fn81 bB q k1 (SR fl cs cp i lv l g) = some (.normal, SR fl cs cp (i + 1) lv (l ++ [leaf x]) (g + 1)) := by
  have hi : i < cs.length := (List.getElem?_eq_some_iff.1 hx).1
  have ix := E40.byte_at fl cp cs i x hx
  have w := w64' ((i : Int) + 1) (by omega) (by omega)
  have i40' : (i : Int) < 40 := by omega
  have t1 : Int.tmod x 16 = x % 16 := Int.tmod_eq_emod_of_nonneg x0
  have t2 : Int.tdiv x 8 = x / 8 := Int.tdiv_eq_ediv_of_nonneg x0
  have t3 : Int.tdiv x 64 = x / 64 := Int.tdiv_eq_ediv_of_nonneg x0
  have w8 : (x / 8) % 256 = x / 8 := Int.emod_eq_of_lt (by omega) (by omega)
  have w9 : (x / 64) % 256 = x / 64 := Int.emod_eq_of_lt (by omega) (by omega)
  have w10 := w64' x (by omega) (by omega)
  have w11 := w64' (x / 64) (by omega) (by omega)
  have cs5 : (l.length + 1) * 56 ≤ 70368744177664 := by omega
  have f1 := El.fl_len l
  have f2 := El.fl_keys l
  have f3 : (El.fl l).take (l.length * 5) = El.fl l := by rw [El.fl_take, List.take_length]
  have f4 := El.fl_pure l
  have f5 := El.fl_scal l
  rcases leaf_cases x x0 x1 with ⟨a, b, e⟩ | ⟨a, b, e⟩ | ⟨a, b, n, hn, nb, e⟩
  · rw [e]; simp [bB, lp, lps, c81, -indexAddrA, ix, w, hi, i40, i40', t1, hm, T, k, a, b, El.fl_mkS, El.avs, f1, f2, f3, f4, f5, cs5, El.fl_keysr]
  · rw [e]; simp [bB, lp, lps, c81, -indexAddrA, ix, w, hi, i40, i40', t1, hm, T, k, a, b, t2, w8, El.fl_mkS, El.avs, f1, f2, f3, f4, f5, cs5, El.fl_keysr]
  · have w12 := w64' (n : Int) (by omega) (by omega)
    have n1 : (n : Int) ≤ 70368744177664 := by omega
    rw [e]
    by_cases a0 : (tg x).1 = 0
    · have a1 : ¬ (tg x).2.2 = 1 := fun h => a ⟨a0, h⟩
      have b1 : ¬ (tg x).2.2 = 2 := fun h => b ⟨a0, h⟩
      simp [bB, lp, lps, c81, -indexAddrA, ix, w, hi, i40, i40', t1, hm, T, k, a0, a1, b1, t3, w9, w10, w11, w12, hn, n1, lb_z, chk_z, take_z, El.fl_mkS, El.avs, f1, f2, f3, f4, f5, cs5, El.fl_keysr]
    · simp [bB, lp, lps, c81, -indexAddrA, ix, w, hi, i40, i40', t1, hm, T, k, a0, t3, w9, w10, w11, w12, hn, n1, lb_z, chk_z, take_z, El.fl_mkS, El.avs, f1, f2, f3, f4, f5, cs5, El.fl_keysr]
end F3
end
section
open Ab Go TabE Sp F1 F2 F3
namespace F4
def bld : Nat → List Int → Nat → Nat → List El × Nat
  | 0, _, i, _ => ([], i)
  | f + 1, cs, i, lv =>
    match cs[i]? with
    | none => ([], i)
    | some x =>
      if 40 ≤ i then ([], i)
      else if x % 16 = 15 then ([], i + 1)
      else if (tg x).2.1 = true then
        (if lv = 5 then bld f cs (i + 1) lv
        else (node x (bld f cs (i + 1) (lv + 1)).1 :: (bld f cs (bld f cs (i + 1) (lv + 1)).2 lv).1, (bld f cs (bld f cs (i + 1) (lv + 1)).2 lv).2))
      else (leaf x :: (bld f cs (i + 1) lv).1, (bld f cs (i + 1) lv).2)
theorem bld_le : ∀ (f : Nat) (cs : List Int) (i lv : Nat), i ≤ 40 → i ≤ (bld f cs i lv).2 ∧ (bld f cs i lv).2 ≤ 40 ∧ (bld f cs i lv).1.length + i ≤ (bld f cs i lv).2
  | 0, cs, i, lv, h => by unfold bld; simp [h]
  | f + 1, cs, i, lv, h => by
    unfold bld
    cases cs[i]? with
    | none => simp [h]
    | some x =>
      simp only
      by_cases a : 40 ≤ i
      · rw [if_pos a]; simp [h]
      rw [if_neg a]
      by_cases b : x % 16 = 15
      · rw [if_pos b]; simp; omega
      rw [if_neg b]
      have r1 := bld_le f cs (i + 1) lv (by omega)
      by_cases c : (tg x).2.1 = true
      · rw [if_pos c]
        by_cases d : lv = 5
        · rw [if_pos d]; omega
        · rw [if_neg d]
          have r2 := bld_le f cs (i + 1) (lv + 1) (by omega)
          have r3 := bld_le f cs (bld f cs (i + 1) (lv + 1)).2 lv r2.2.1
          simp only [List.length_cons]; omega
      · rw [if_neg c]; simp only [List.length_cons]; omega
abbrev Kn (f : Nat) : Prop := ∀ (fl : Bool) (cs : List Int) (cp : Option Nat) (i lv : Nat), isB cs → i ≤ 40 → lv ≤ 5 → 41 - i ≤ f → Con E (f + 200) 81 [.sl fl (bs cs) cp, .int .i64 (i : Int), .int .i64 (lv : Int)] (.tup [.sl (bld f cs i lv).1.isEmpty (El.avs (bld f cs i lv).1) (if (bld f cs i lv).1.isEmpty then some 0 else none), .int .i64 ((bld f cs i lv).2 : Int)])
abbrev Lp (K : Nat) := aLoop (aCode E (aCall E K) (dcall (aRun E K)) K 1 fn81 bB) (cleanS 1 ((firstReg bB).bind fn81.head))
def Sx (fl : Bool) (cs : List Int) (cp : Option Nat) (i lv : Nat) (l : List El) : St := if l = [] then S0 fl cs cp i lv else SR fl cs cp i lv l (l.length - 1)
def En1 (fl : Bool) (cs : List Int) (cp : Option Nat) (i lv : Nat) (l : List El) : AExit × St := if l = [] then (.exit 0, ⟨[(0, .sl fl (bs cs) cp), (1, .int .i64 (i : Int)), (2, .int .i64 (lv : Int)), (8, .sl true [] (some 0)), (18, .bool false)], []⟩) else (.exit 0, ⟨[(0, .sl fl (bs cs) cp), (1, .int .i64 (i : Int)), (2, .int .i64 (lv : Int)), (8, .ref (1, 84, l.length - 1) 0 l.length none), (18, .bool false)], [((1, 84, l.length - 1), ⟨El.fl l, true, true, false, 5, true⟩)]⟩)
def En2 (i : Nat) (l : List El) : AExit × St := if l = [] then (.ret, ⟨[(6, .sl true [] (some 0)), (7, .int .i64 (i : Int))], []⟩) else (.ret, ⟨[(6, .ref (1, 84, l.length - 1) 0 l.length none), (7, .int .i64 (i : Int))], [((1, 84, l.length - 1), ⟨El.fl l, true, true, false, 5, true⟩)]⟩)
theorem app_ne {l : List El} {x : El} : ¬ (l ++ [x] = []) := by simp
theorem app_len {l : List El} {x : El} (h : l ≠ []) : (l ++ [x]).length - 1 = l.length - 1 + 1 := by
  have := List.length_pos_iff.2 h
  rw [List.length_append, List.length_singleton]; omega
theorem loop (K : Nat) (fl : Bool) (cs : List Int) (cp : Option Nat) (lv : Nat) (hb : isB cs) (l5 : lv ≤ 5) : ∀ (f : Nat), (∀ j, j < f → Kn j) → f + 199 ≤ K → ∀ (i : Nat) (l : List El) (k : Nat), i ≤ 40 → l.length + (40 - i) ≤ 1000 → 41 - i ≤ f → 41 - i ≤ k →
    Lp K k (Sx fl cs cp i lv l) = some (En1 fl cs cp (bld f cs i lv).2 lv (l ++ (bld f cs i lv).1)) ∨ Lp K k (Sx fl cs cp i lv l) = some (En2 (bld f cs i lv).2 (l ++ (bld f cs i lv).1)) := by
  intro f
  induction f with
  | zero => intro _ _ i l k _ _ h; omega
  | succ f ih =>
    intro hK hf i l k hi hl h1 h2
    obtain ⟨k, rfl⟩ : ∃ j, k = j + 1 := ⟨k - 1, by omega⟩
    have ends : cs.length ≤ i ∨ 40 ≤ i → Lp K (k + 1) (Sx fl cs cp i lv l) = some (En1 fl cs cp i lv (l ++ [])) := fun h => by
      unfold Sx En1
      rw [List.append_nil]
      by_cases hl0 : l = []
      · rw [if_pos hl0, if_pos hl0]; exact aLoop_end (last0 K K fl cs cp i lv h) (by simp)
      · rw [if_neg hl0, if_neg hl0]; exact aLoop_end (lastR K K fl cs cp i lv l _ h) (by simp)
    unfold bld
    cases hx : cs[i]? with
    | none => exact .inl (ends (.inl (List.getElem?_eq_none_iff.1 hx)))
    | some x =>
      simp only
      by_cases a : 40 ≤ i
      · rw [if_pos a]; exact .inl (ends (.inr a))
      rw [if_neg a]
      have xb := hb x (List.mem_of_getElem? hx)
      have T : TagC K x := fun h => F1.tag x xb.1 xb.2 K (by omega) 0 h
      by_cases b : x % 16 = 15
      · rw [if_pos b]
        refine .inr ?_
        unfold Sx En2
        simp only [List.append_nil]
        by_cases hl0 : l = []
        · rw [if_pos hl0, if_pos hl0]; exact aLoop_end (end0 K K fl cs cp i lv x hx (by omega) xb.1 b) (by simp)
        · rw [if_neg hl0, if_neg hl0]; exact aLoop_end (endR K K fl cs cp i lv l _ x hx (by omega) xb.1 b) (by simp)
      rw [if_neg b]
      by_cases c : (tg x).2.1 = true
      · rw [if_pos c]
        by_cases d : lv = 5
        · rw [if_pos d]
          subst d
          have I := ih (fun j hj => hK j (by omega)) (by omega) (i + 1) l k (by omega) (by omega) (by omega) (by omega)
          have st : Lp K (k + 1) (Sx fl cs cp i 5 l) = Lp K k (Sx fl cs cp (i + 1) 5 l) := by
            unfold Sx
            by_cases hl0 : l = []
            · rw [if_pos hl0, if_pos hl0]
              exact (aLoop_succ (skip0 K K fl cs cp i x hx (by omega) xb.1 b T c)).trans (E51.aLoop_cl (cl0 fl cs cp (i + 1) x))
            · rw [if_neg hl0, if_neg hl0]
              exact (aLoop_succ (skipR K K fl cs cp i l _ x hx (by omega) xb.1 b T c)).trans (E51.aLoop_cl (clR fl cs cp (i + 1) l _ x))
          rw [st]; exact I
        · rw [if_neg d]
          have r2 := bld_le f cs (i + 1) (lv + 1) (by omega)
          have C := hK f (by omega) fl cs cp (i + 1) (lv + 1) hb (by omega) (by omega) (by omega)
          have B : BC K fl cs cp (i + 1) (lv + 1) (bld f cs (i + 1) (lv + 1)).1 (bld f cs (i + 1) (lv + 1)).2 := fun h => C K (by omega) 0 h
          obtain ⟨p, hp⟩ : ∃ p, bld f cs (i + 1) (lv + 1) = p := ⟨_, rfl⟩
          rw [hp] at r2 B ⊢
          have I := ih (fun j hj => hK j (by omega)) (by omega) p.2 (l ++ [node x p.1]) k (by omega) (by rw [List.length_append, List.length_singleton]; omega) (by omega) (by omega)
          have st : Lp K (k + 1) (Sx fl cs cp i lv l) = Lp K k (Sx fl cs cp p.2 lv (l ++ [node x p.1])) := by
            unfold Sx
            rw [if_neg app_ne]
            by_cases hl0 : l = []
            · subst hl0; rw [if_pos rfl]
              exact aLoop_succ (node0 K K fl cs cp i lv x p.1 p.2 hx (by omega) xb.1 b T c (by omega) B)
            · rw [if_neg hl0, app_len hl0]
              exact aLoop_succ (nodeR K K fl cs cp i lv l _ x p.1 p.2 (by omega) hx (by omega) xb.1 b T c (by omega) B)
          rw [st]
          simp only [List.append_assoc, List.cons_append, List.nil_append] at I
          exact I
      · rw [if_neg c]
        have I := ih (fun j hj => hK j (by omega)) (by omega) (i + 1) (l ++ [leaf x]) k (by omega) (by rw [List.length_append, List.length_singleton]; omega) (by omega) (by omega)
        have cf : (tg x).2.1 = false := by simpa using c
        have st : Lp K (k + 1) (Sx fl cs cp i lv l) = Lp K k (Sx fl cs cp (i + 1) lv (l ++ [leaf x])) := by
          unfold Sx
          rw [if_neg app_ne]
          by_cases hl0 : l = []
          · subst hl0; rw [if_pos rfl]
            exact aLoop_succ (leaf0 K K fl cs cp i lv x hx (by omega) xb.1 xb.2 b T cf)
          · rw [if_neg hl0, app_len hl0]
            exact aLoop_succ (leafR K K fl cs cp i lv l _ x (by omega) hx (by omega) xb.1 xb.2 b T cf)
        rw [st]
        simp only [List.append_assoc, List.cons_append, List.nil_append] at I
        exact I
theorem build : ∀ f : Nat, Kn f := by
  intro f
  induction f using Nat.strongRecOn with
  | ind f ih =>
    intro fl cs cp i lv hb hi l5 hf
    obtain ⟨K, hK⟩ : ∃ K, f + 199 = K := ⟨_, rfl⟩
    have eK : f + 200 = K + 1 := by omega
    rw [eK]
    have L := loop K fl cs cp lv hb l5 f ih (by omega) i [] K hi (by simp; omega) hf (by omega)
    rw [Sx, if_pos rfl, List.nil_append] at L
    refine con_of E_fn81 (by simp [AV.pureL, AV.pure]) (Nat.le_of_ble_eq_true rfl) rfl rfl (g := []) ?_
    rw [body_81, c81]
    obtain ⟨out, ho⟩ : ∃ out, (bld f cs i lv).1 = out := ⟨_, rfl⟩
    obtain ⟨j, hj⟩ : ∃ j, (bld f cs i lv).2 = j := ⟨_, rfl⟩
    rw [ho, hj] at L ⊢
    have l1 := El.fl_len out
    have l2 := El.fl_keys out
    have l3 := El.fl_pure out
    have sx := fun n h key => E32.sealX_fl n h key out none true false
    rcases L with L | L
    · rw [En1] at L
      by_cases o0 : out = []
      · subst o0
        rw [if_pos rfl] at L
        simp [Lp, bB, lp, lps, c81, firstReg] at L
        simp [-s_round, L, El.avs]
      · have e0 : out.isEmpty = false := by cases out with | nil => exact absurd rfl o0 | cons x r => rfl
        rw [if_neg o0] at L
        simp [Lp, bB, lp, lps, c81, firstReg] at L
        simp [-s_round, L, l1, l2, l3, sx, e0, o0]
    · rw [En2] at L
      by_cases o0 : out = []
      · subst o0
        rw [if_pos rfl] at L
        simp [Lp, bB, lp, lps, c81, firstReg] at L
        simp [-s_round, L, El.avs]
      · have e0 : out.isEmpty = false := by cases out with | nil => exact absurd rfl o0 | cons x r => rfl
        rw [if_neg o0] at L
        simp [Lp, bB, lp, lps, c81, firstReg] at L
        simp [-s_round, L, l1, l2, l3, sx, e0, o0]
def ofT (cs : List Int) : El := .mk 0 true 16 true [] (some 0) (bld 41 cs 0 2).1.isEmpty (bld 41 cs 0 2).1 (if (bld 41 cs 0 2).1.isEmpty then some 0 else none)
theorem ofT_con (fl : Bool) (cs : List Int) (cp : Option Nat) (hb : isB cs) : Con E 250 42 [.agg [.sl fl (bs cs) cp]] (ofT cs).av := by
  have B := build 41 fl cs cp 0 2 hb (by omega) (by omega) (by omega) 249 (by omega) 0
  have T := F1.tag 0 (by omega) (by omega) 249 (by omega) 0
  refine con_of E_fn42 (by simp [AV.pureL, AV.pure]) (Nat.le_of_ble_eq_true rfl) rfl rfl (g := []) ?_
  rw [body_42, c42, ofT, El.av]
  have t0 : tg 0 = (0, true, 16) := rfl
  rw [t0] at T
  simp at B T
  simp [B, T]
end F4
end
end
section
open Ab Go TabE
attribute [local simp ↓] s_seq s_reg s_regd s_cond s_block s_cons s_consG s_regD
attribute [local simp] s_nil s_loop s_round s_lpn s_lpe s_lpr firstReg s_gt s_gf s_wb s_wu s_val s_valN s_skip s_calls s_callP s_cax lookR flatR pureKs s_ret s_rgx s_sqn s_sqr s_sqe s_cdb s_bkn s_bkr s_bke s_exit s_ret' s_skip' s_finr s_finn s_fin1 s_fix s_clean s_gc0 o_tmp o_int o_bool o_nil o_str o_fn o_nil' l_hit l_miss l_nil ol_nil ol_cons ol_some x_move x_assign x_pick pk_t pk_f x_bin bn_s x_un x_extract x_callF cl_no x_callB x_callBF frzV x_conv cvx convA frame0 binA intOp resL resA results1 sealLW AV.pure AV.pureL keepT x_alloc x_box bxx x_build bdx x_buildSlice bsx x_buildSliceF bsf x_load ldx x_store stx x_slice slx x_fieldAddr x_field x_index ixx x_indexAddr iax x_makeSlice msx x_makeSliceF msf x_nilCheck newK genOf setK lookK fillA writeL writeC readC conts TyI.mk1 sliceA boundsA boundsB fitsA numA indexAddrA fieldAddrA partA fieldA indexA appendA copyA builtinA AV.cells chunk gcH reach keysT keepK inKs AV.keys AV.keysL Ty.isAgg eq1 eqL convA.go ltI w_u8 w_u32 w_u64 w_i64 w_fdiv w_tdiv w_tmod IntKind.bits unA sc_int sc_bool sc_str sc_sl sc_ref sc_ptr sc_pel sc_nilp sc_fn sc_nilf sc_if sc_nili sc_agg sc_tup sc_mem bs_pure bs_kl bs_length bs_cells bs_all sl_row sealRow sealY sl_int sl_bool sl_str sl_sl sl_nilp sl_nilf sl_nili sl_pel sl_agg sl_tup sl_fn sl_if nat_1 bs_cons bs_nil i_beq i_bne x_mkF x_mkI x_tassert x_panic s_pan s_sqp s_bkp s_finp s_fixp s_lpp s_rgp s_retp s_site s_stxN s_stxO x_callT clx El.avs_len s_dyn0 s_rgy barOf dynChk footL dynOK disjK keysOp opVals Op.operands sealA AV.scal
section
open Ab Go TabE Sp E34 F1
namespace F5
abbrev fF (p : List Int) (e : Int) : AV := .agg [.sl p.isEmpty (ns p) (some p.length), .int .i64 e]
abbrev fR (p : List Int) (e : Int) : AV := .agg [.sl p.isEmpty (ns p) (if p.isEmpty then some 0 else none), .int .i64 e]
theorem fault1 (p : List Int) (e : Int) (hl : p.length ≤ 100000000) : Con E (p.length + 20) 48 [fF p e, fR p e] (.int .i64 1) := F1.fault _ _ _ p e hl
theorem clipI (f : Bool) (xs : List AV) (c : Option Nat) (hp : AV.pureL xs = true) : Con E 5 107 [.sl f xs c] (.sl f xs (some xs.length)) := by
  refine .of (g := []) (by simp [AV.pureL, AV.pure]) ?_
  rw [aCall_fn rfl E_fn107 (by simp [AV.pureL, AV.pure]) (Nat.le_of_ble_eq_true rfl) rfl rfl, body_107, c107]
  simp [hp]
theorem fnil (e : Int) : Con E 10 82 [.int .i64 e, .sl true [] (some 0)] (fF [] e) := by
  have c := clipI true [] (some 0) rfl 9 (by omega) 0
  refine con_of E_fn82 rfl (Nat.le_of_ble_eq_true rfl) rfl rfl (g := []) ?_
  rw [body_82, c82]
  try simp at c
  simp [c]
theorem fone (e x : Int) (c : Option Nat) : Con E 10 82 [.int .i64 e, .sl false [.int .i64 x] c] (fF [x] e) := by
  have c := clipI false [.int .i64 x] c rfl 9 (by omega) 0
  refine con_of E_fn82 rfl (Nat.le_of_ble_eq_true rfl) rfl rfl (g := []) ?_
  rw [body_82, c82]
  try simp at c
  simp [c]
theorem rnil (e x : Int) (h : x < 0) : Con E 10 67 [.int .i64 e, .int .i64 x] (fR [] e) := by
  have h' : ¬ 0 ≤ x := by omega
  refine con_of E_fn67 rfl (Nat.le_of_ble_eq_true rfl) rfl rfl (g := []) ?_
  rw [body_67, c67]
  simp [h, h']
end F5
end
end
section
open Ab Go TabE Sp E34 F1
namespace Rw
def row {α : Type} (f : α → List AV) (l : List α) : List AV := l.flatMap f
structure Cl {α : Type} (f : α → List AV) (n : Nat) : Prop where
  len : ∀ x, (f x).length = n
  pure : ∀ x, AV.pureL (f x) = true
  scal : ∀ x, (f x).all AV.scal = true
variable {α : Type} {f : α → List AV} {n : Nat}
theorem row_app (a b : List α) : row f (a ++ b) = row f a ++ row f b := by simp [row]
theorem row_cons (x : α) (b : List α) : row f (x :: b) = f x ++ row f b := by simp [row]
theorem row_one (x : α) : row f [x] = f x := by simp [row]
theorem row_snoc (a : List α) (x : α) : row f (a ++ [x]) = row f a ++ f x := by simp [row]
theorem pureL_app : ∀ a b : List AV, AV.pureL (a ++ b) = (AV.pureL a && AV.pureL b)
  | [], b => by simp [AV.pureL]
  | x :: a, b => by simp only [List.cons_append, AV.pureL, pureL_app a b, Bool.and_assoc]
theorem row_len (h : Cl f n) : ∀ l : List α, (row f l).length = l.length * n
  | [] => by simp [row]
  | x :: l => by rw [row_cons, List.length_append, h.len, row_len h l, List.length_cons, Nat.add_mul, Nat.one_mul, Nat.add_comm]
theorem row_pure (h : Cl f n) : ∀ l : List α, AV.pureL (row f l) = true
  | [] => rfl
  | x :: l => by rw [row_cons, pureL_app, h.pure, row_pure h l]; rfl
theorem row_keys (h : Cl f n) (l : List α) : AV.keysL (row f l) = [] := AV.keysL_pure _ (row_pure h l)
theorem row_scal (h : Cl f n) : ∀ l : List α, (row f l).all AV.scal = true
  | [] => rfl
  | x :: l => by rw [row_cons, List.all_append, h.scal, row_scal h l]; rfl
theorem row_all (h : Cl f n) (l : List α) : (row f l).take (l.length * n) = row f l := by rw [List.take_of_length_le]; rw [row_len h]; exact Nat.le_refl _
theorem row_keysr (h : Cl f n) (l : List α) (r : List AV) : AV.keysL (row f l ++ r) = AV.keysL r := by rw [El.keysL_app, row_keys h]; rfl
theorem row_chunk (h : Cl f n) : ∀ l : List α, chunk true n l.length (row f l) = l.map fun x => .agg (f x)
  | [] => rfl
  | x :: l => by
    have e1 : (row f (x :: l)).take n = f x := by rw [row_cons, ← h.len x, List.take_left']; rfl
    have e2 : (row f (x :: l)).drop n = row f l := by rw [row_cons, ← h.len x, List.drop_left']; rfl
    rw [List.length_cons, chunk, e1, e2, row_chunk h l, List.map_cons]; rfl
theorem rseal (c : Cl f n) (k : Nat) (h : Heap) (key : Key) (l : List α) (cap : Option Nat) (mt ex : Bool) (hk : lookK h key = some ⟨row f l, true, mt, ex, n, true⟩) : sealX (k + 2) h (.ref key 0 l.length cap) = some (.sl false (l.map fun x => .agg (f x)) cap, setK h key ⟨row f l, true, false, ex, n, true⟩) := by
  unfold sealX sealA
  have hp : (AV.ref key 0 l.length cap).pure = false := rfl
  simp only [hp, Bool.false_eq_true, if_false, hk]
  rw [if_pos ⟨trivial, by rw [row_len c]; omega, by simp⟩]
  simp only [List.drop_zero, row_all c]
  rw [sealL_of_pure k _ _ (row_pure c l)]
  simp only [row_chunk c]
end Rw
namespace F6
open Rw
structure Fld where
  c : Int
  k : Bool
  n : Int
  any : Bool
  opt : Bool
def Fld.cells (x : Fld) : List AV := [.int .u8 x.c, .bool x.k, .int .u32 x.n, .bool x.any, .bool x.opt]
abbrev Fld.av (x : Fld) : AV := .agg x.cells
theorem Fld.cl : Cl Fld.cells 5 := ⟨fun _ => rfl, fun _ => rfl, fun _ => rfl⟩
structure Fa where
  t : Int
  m : Int
def Fa.av (x : Fa) : AV := .agg [.int .u8 x.t, .int .u8 x.m]
def Fa.ok (x : Fa) : Prop := (0 ≤ x.t ∧ x.t < 256) ∧ (0 ≤ x.m ∧ x.m < 256)
def Fa.fd (x : Fa) : Fld := ⟨(tg x.t).1, (tg x.t).2.1, (tg x.t).2.2, decide (x.m % 4 = 3), decide (x.m / 4 % 2 = 1)⟩
theorem at_ (f c) (l : List Fa) (i : Nat) (x : Fa) (h : l[i]? = some x) : ∀ hp, indexAddrA E 66 (.sl f (l.map Fa.av) c) (.int .i64 i) hp = some (.pel [.int .u8 x.t, .int .u8 x.m]) := by
  intro hp
  have hi : i < l.length := (List.getElem?_eq_some_iff.1 h).1
  unfold indexAddrA
  simp only [E_ty66, E_ty125]
  rw [if_pos ⟨by omega, by rw [List.length_map]; omega⟩]
  simp only [Int.toNat_natCast, List.getElem?_map, h, Option.map_some]
  rfl
def b43 : Code := lp c43 0
abbrev S0 (f : Bool) (c : Option Nat) (l : List Fa) (i : Nat) : St := ⟨[(0, .sl f (l.map Fa.av) c), (3, .sl true [] (some 0)), (4, .int .i64 (i : Int))], []⟩
abbrev SR (f : Bool) (c : Option Nat) (l : List Fa) (i : Nat) (o : List Fld) (g : Nat) : St := ⟨[(0, .sl f (l.map Fa.av) c), (3, .ref (1, 39, g) 0 o.length none), (4, .int .i64 (i : Int))], [((1, 39, g), ⟨row Fld.cells o, true, true, false, 5, true⟩)]⟩
abbrev TagC (q : Nat) (x : Int) : Prop := ∀ h, aCall E q 0 44 [.int .u8 x] h = some (.ret (.agg [.int .u8 (tg x).1, .bool (tg x).2.1, .int .u32 (tg x).2.2]), h)
theorem go0 (q k1 : Nat) (f c) (l : List Fa) (i : Nat) (x : Fa) (hx : l[i]? = some x) (i20 : i < 20) (ox : x.ok) (ll : l.length ≤ 9223372036854775807) (T : TagC q x.t) : rnd fn43 b43 q k1 (S0 f c l i) = some (.normal, SR f c l (i + 1) [x.fd] 0) := by
  have hi : i < l.length := (List.getElem?_eq_some_iff.1 hx).1
  have ix := at_ f c l i x hx
  have w := w64' ((i : Int) + 1) (by omega) (by omega)
  have i20' : (i : Int) < 20 := by omega
  have t1 : Int.tmod x.m 4 = x.m % 4 := Int.tmod_eq_emod_of_nonneg ox.2.1
  have t2 : Int.tdiv x.m 4 = x.m / 4 := Int.tdiv_eq_ediv_of_nonneg ox.2.1
  have h0 := ox.2
  have t3 : Int.tmod (x.m / 4) 2 = x.m / 4 % 2 := Int.tmod_eq_emod_of_nonneg (by omega)
  have w2 : (x.m / 4) % 256 = x.m / 4 := Int.emod_eq_of_lt (by omega) (by omega)
  simp [b43, lp, lps, c43, ↓s_seq, ↓s_reg, ↓s_regd, ↓s_cond, ↓s_block, ↓s_cons, ↓s_consG, s_nil, firstReg, s_gt, s_wb, s_val, s_callP, s_ret, s_rgx, s_sqn, s_cdb, s_bkn, s_skip', s_clean, o_tmp, o_int, l_hit, l_miss, ol_nil, ol_cons, ol_some, x_move, x_assign, x_pick, pk_t, x_bin, bn_s, x_callF, cl_no, x_callB, binA, intOp, AV.pure, AV.pureL, keepT, x_build, bdx, x_buildSlice, bsx, x_load, ldx, x_fieldAddr, x_indexAddr, iax, newK, genOf, setK, lookK, fillA, writeL, writeC, readC, conts, TyI.mk1, fieldAddrA, appendA, copyA, builtinA, AV.cells, gcH, reach, keysT, keepK, inKs, AV.keys, AV.keysL, Ty.isAgg, w_u8, sc_int, sc_bool, i_beq, ix, w, w2, hi, i20', T, t1, t2, t3, row_one, Fld.cells, Fa.fd]
theorem goR (q k1 : Nat) (f c) (l : List Fa) (i : Nat) (o : List Fld) (g : Nat) (x : Fa) (hx : l[i]? = some x) (i20 : i < 20) (ox : x.ok) (ll : l.length ≤ 9223372036854775807) (lo : o.length ≤ 1000) (T : TagC q x.t) : rnd fn43 b43 q k1 (SR f c l i o g) = some (.normal, SR f c l (i + 1) (o ++ [x.fd]) (g + 1)) := by
  have hi : i < l.length := (List.getElem?_eq_some_iff.1 hx).1
  have ix := at_ f c l i x hx
  have w := w64' ((i : Int) + 1) (by omega) (by omega)
  have i20' : (i : Int) < 20 := by omega
  have t1 : Int.tmod x.m 4 = x.m % 4 := Int.tmod_eq_emod_of_nonneg ox.2.1
  have t2 : Int.tdiv x.m 4 = x.m / 4 := Int.tdiv_eq_ediv_of_nonneg ox.2.1
  have h0 := ox.2
  have t3 : Int.tmod (x.m / 4) 2 = x.m / 4 % 2 := Int.tmod_eq_emod_of_nonneg (by omega)
  have w2 : (x.m / 4) % 256 = x.m / 4 := Int.emod_eq_of_lt (by omega) (by omega)
  have cs5 : (o.length + 1) * 12 ≤ 70368744177664 := by omega
  have f1 := row_len Fld.cl o
  have f2 := row_keys Fld.cl o
  have f3 := row_all Fld.cl o
  have f4 := row_pure Fld.cl o
  have f5 := row_scal Fld.cl o
  have f6 := fun r => row_keysr Fld.cl o r
  have fd : x.fd.cells = [.int .u8 (tg x.t).1, .bool (tg x.t).2.1, .int .u32 (tg x.t).2.2, .bool (decide (x.m % 4 = 3)), .bool (decide (x.m / 4 % 2 = 1))] := rfl
  simp [b43, lp, lps, c43, ↓s_seq, ↓s_reg, ↓s_regd, ↓s_cond, ↓s_block, ↓s_cons, ↓s_consG, s_nil, firstReg, s_gt, s_wb, s_val, s_callP, s_ret, s_rgx, s_sqn, s_cdb, s_bkn, s_skip', s_clean, o_tmp, o_int, l_hit, l_miss, ol_nil, ol_cons, ol_some, x_move, x_assign, x_pick, pk_t, x_bin, bn_s, x_callF, cl_no, x_callB, binA, intOp, AV.pure, AV.pureL, keepT, x_build, bdx, x_buildSlice, bsx, x_load, ldx, x_fieldAddr, x_indexAddr, iax, newK, genOf, setK, lookK, fillA, writeL, writeC, readC, conts, TyI.mk1, fieldAddrA, appendA, copyA, builtinA, AV.cells, gcH, reach, keysT, keepK, inKs, AV.keys, AV.keysL, Ty.isAgg, w_u8, sc_int, sc_bool, i_beq, ix, w, w2, hi, i20', T, t1, t2, t3, row_snoc, fd, f1, f2, f6, cs5]
theorem last0 (q k1 : Nat) (f c) : rnd fn43 b43 q k1 (S0 f c [] 0) = some (.exit 0, ⟨[(0, .sl f [] c), (3, .sl true [] (some 0)), (4, .int .i64 0), (12, .bool false)], []⟩) := by
  simp [b43, lp, lps, c43, ↓s_seq, ↓s_reg, ↓s_cond, ↓s_cons, ↓s_consG, s_nil, firstReg, s_gf, s_wb, s_val, s_rgx, s_sqn, s_sqe, s_cdb, s_exit, s_clean, o_tmp, o_int, o_bool, l_hit, l_miss, ol_nil, ol_cons, ol_some, x_move, x_pick, pk_f, x_bin, bn_s, x_callB, binA, intOp, keepT, newK, genOf, setK, lookK, writeC, conts, appendA, copyA, builtinA, AV.cells, gcH, Ty.isAgg]
theorem lastR (q k1 : Nat) (f c) (l : List Fa) (i : Nat) (o : List Fld) (g : Nat) (hi : i = min 20 l.length) : rnd fn43 b43 q k1 (SR f c l i o g) = some (.exit 0, ⟨[(0, .sl f (l.map Fa.av) c), (3, .ref (1, 39, g) 0 o.length none), (4, .int .i64 (i : Int)), (12, .bool false)], [((1, 39, g), ⟨row Fld.cells o, true, true, false, 5, true⟩)]⟩) := by
  have f2 := row_keys Fld.cl o
  by_cases h : i < l.length
  · have i20 : i = 20 := by omega
    subst i20
    have h' : (20 : Int) < l.length := by omega
    simp [b43, lp, lps, c43, ↓s_seq, ↓s_reg, ↓s_cond, ↓s_cons, ↓s_consG, s_nil, firstReg, s_gt, s_wb, s_val, s_rgx, s_sqn, s_sqe, s_cdb, s_exit, s_clean, o_tmp, o_int, l_hit, l_miss, ol_nil, ol_cons, ol_some, x_move, x_pick, pk_t, x_bin, bn_s, x_callB, binA, intOp, keepT, newK, genOf, setK, lookK, writeL, writeC, conts, appendA, copyA, builtinA, AV.cells, gcH, reach, keysT, keepK, inKs, AV.keys, Ty.isAgg, h', f2]
  · simp [b43, lp, lps, c43, ↓s_seq, ↓s_reg, ↓s_cond, ↓s_cons, ↓s_consG, s_nil, firstReg, s_gf, s_wb, s_val, s_rgx, s_sqn, s_sqe, s_cdb, s_exit, s_clean, o_tmp, o_int, o_bool, l_hit, l_miss, ol_nil, ol_cons, ol_some, x_move, x_pick, pk_f, x_bin, bn_s, x_callB, binA, intOp, keepT, newK, genOf, setK, lookK, writeL, writeC, conts, appendA, copyA, builtinA, AV.cells, gcH, reach, keysT, keepK, inKs, AV.keys, Ty.isAgg, h, f2]
def fds (l : List Fa) : List Fld := (l.take 20).map Fa.fd
theorem fields (f c) (l : List Fa) (hl : ∀ x ∈ l, x.ok) (ll : l.length ≤ 9223372036854775807) : Con E 60 43 [.sl f (l.map Fa.av) c] (.sl (fds l).isEmpty ((fds l).map Fld.av) (if (fds l).isEmpty then some 0 else none)) := by
  refine con_of E_fn43 (by simp [AV.pureL, AV.pure]) (Nat.le_of_ble_eq_true rfl) rfl rfl (g := []) ?_
  rw [body_43, c43]
  cases hl0 : l with
  | nil =>
    have L := aLoop_end (k := 58) (f := aCode E (aCall E 59) (dcall (aRun E 59)) 59 1 fn43 b43) (cl := cleanS 1 ((firstReg b43).bind fn43.head)) (last0 59 59 f c) (by simp)
    simp [b43, lp, lps, c43, firstReg, S0] at L
    simp [↓s_seq, ↓s_reg, ↓s_block, ↓s_cons, s_nil, s_loop, firstReg, s_val, s_rgx, s_sqn, s_bke, s_ret', s_finr, s_fin1, s_fix, s_clean, o_tmp, o_int, o_nil, l_hit, l_miss, x_move, x_assign, frame0, resL, resA, results1, AV.pure, keepT, gcH, sl_sl, L, fds]
  | cons a r =>
    rw [← hl0]
    have T : ∀ x ∈ l, TagC 59 x.t := fun x hx h => F1.tag x.t (hl x hx).1.1 (hl x hx).1.2 59 (by omega) 0 h
    have h0 : l[0]? = some a := by rw [hl0]; rfl
    have ma := List.mem_of_getElem? h0
    have st0 := go0 59 59 f c l 0 a h0 (by omega) (hl a ma) ll (T a ma)
    have gen : ∀ (m i : Nat) (o : List Fld) (g k : Nat), i + m = min 20 l.length → o = (l.take i).map Fa.fd → o.length = g + 1 → m < k → aLoop (aCode E (aCall E 59) (dcall (aRun E 59)) 59 1 fn43 b43) (cleanS 1 ((firstReg b43).bind fn43.head)) k (SR f c l i o g) = some (.exit 0, ⟨[(0, .sl f (l.map Fa.av) c), (3, .ref (1, 39, (fds l).length - 1) 0 (fds l).length none), (4, .int .i64 ((min 20 l.length : Nat) : Int)), (12, .bool false)], [((1, 39, (fds l).length - 1), ⟨row Fld.cells (fds l), true, true, false, 5, true⟩)]⟩) := by
      intro m
      induction m with
      | zero =>
        intro i o g k hi ho hg hk
        obtain ⟨k, rfl⟩ : ∃ j, k = j + 1 := ⟨k - 1, by omega⟩
        have e : fds l = o := by
          rw [ho]; unfold fds
          by_cases h20 : 20 ≤ l.length
          · rw [show i = 20 by omega]
          · rw [List.take_of_length_le (by omega), List.take_of_length_le (by omega)]
        rw [e, show o.length - 1 = g by omega]
        have := aLoop_end (k := k) (lastR 59 59 f c l i o g (by omega)) (by simp)
        rw [show i = min 20 l.length by omega] at this ⊢
        exact this
      | succ m ih =>
        intro i o g k hi ho hg hk
        obtain ⟨k, rfl⟩ : ∃ j, k = j + 1 := ⟨k - 1, by omega⟩
        have hil : i < l.length := by omega
        have hx : l[i]? = some l[i] := List.getElem?_eq_getElem hil
        have mx := List.mem_of_getElem? hx
        have lo : o.length ≤ 1000 := by rw [ho, List.length_map, List.length_take]; omega
        rw [aLoop_succ (goR 59 59 f c l i o g _ hx (by omega) (hl _ mx) ll lo (T _ mx))]
        refine ih (i + 1) (o ++ [l[i].fd]) (g + 1) k (by omega) ?_ (by rw [List.length_append]; simp; omega) (by omega)
        rw [List.take_add_one, hx, List.map_append, ← ho]; rfl
    have hp : 0 < l.length := by rw [hl0]; simp
    have L := (aLoop_succ (k := 58) (f := aCode E (aCall E 59) (dcall (aRun E 59)) 59 1 fn43 b43) (cl := cleanS 1 ((firstReg b43).bind fn43.head)) st0).trans (gen (min 20 l.length - 1) 1 [a.fd] 0 58 (by omega) (by rw [hl0]; rfl) rfl (by omega))
    have ne : fds l ≠ [] := by unfold fds; rw [hl0]; simp
    generalize fds l = o at L ne ⊢
    have e0 : o.isEmpty = false := by cases o with | nil => exact absurd rfl ne | cons x r => rfl
    have f1 := row_len Fld.cl o
    have f2 := row_keys Fld.cl o
    have f4 := row_pure Fld.cl o
    have sx := fun n h key => Rw.rseal Fld.cl n h key o none true false
    have mp : (o.map fun x => AV.agg x.cells) = o.map Fld.av := rfl
    simp [b43, lp, lps, c43, firstReg, S0] at L
    simp [↓s_seq, ↓s_reg, ↓s_block, ↓s_cons, s_nil, s_loop, firstReg, s_val, s_rgx, s_sqn, s_bke, s_ret', s_finr, s_fin1, s_fix, s_clean, o_tmp, o_int, o_nil, l_hit, l_miss, x_move, x_assign, frame0, resL, resA, results1, AV.pure, keepT, setK, lookK, gcH, reach, keysT, keepK, inKs, AV.keys, sl_row, sealRow, sealY, L, f1, f2, f4, sx, e0]
end F6
end
section
open Ab Go TabE
attribute [local simp ↓] s_seq s_reg s_regd s_cond s_block s_cons s_consG s_regD
attribute [local simp] s_nil s_loop s_round s_lpn s_lpe s_lpr firstReg s_gt s_gf s_wb s_wu s_val s_valN s_skip s_calls s_callP s_cax lookR flatR pureKs s_ret s_rgx s_sqn s_sqr s_sqe s_cdb s_bkn s_bkr s_bke s_exit s_ret' s_skip' s_finr s_finn s_fin1 s_fix s_clean s_gc0 o_tmp o_int o_bool o_nil o_str o_fn o_nil' l_hit l_miss l_nil ol_nil ol_cons ol_some x_move x_assign x_pick pk_t pk_f x_bin bn_s x_un x_extract x_callF cl_no x_callB x_callBF frzV x_conv cvx convA frame0 binA intOp resL resA results1 sealLW AV.pure AV.pureL keepT x_alloc x_box bxx x_build bdx x_buildSlice bsx x_buildSliceF bsf x_load ldx x_store stx x_slice slx x_fieldAddr x_field x_index ixx x_indexAddr iax x_makeSlice msx x_makeSliceF msf x_nilCheck newK genOf setK lookK fillA writeL writeC readC conts TyI.mk1 sliceA boundsA boundsB fitsA numA indexAddrA fieldAddrA partA fieldA indexA appendA copyA builtinA AV.cells chunk gcH reach keysT keepK inKs AV.keys AV.keysL Ty.isAgg eq1 eqL convA.go ltI w_u8 w_u32 w_u64 w_i64 w_fdiv w_tdiv w_tmod IntKind.bits unA sc_int sc_bool sc_str sc_sl sc_ref sc_ptr sc_pel sc_nilp sc_fn sc_nilf sc_if sc_nili sc_agg sc_tup sc_mem bs_pure bs_kl bs_length bs_cells bs_all sl_row sealRow sealY sl_int sl_bool sl_str sl_sl sl_nilp sl_nilf sl_nili sl_pel sl_agg sl_tup sl_fn sl_if nat_1 bs_cons bs_nil i_beq i_bne x_mkF x_mkI x_tassert x_panic s_pan s_sqp s_bkp s_finp s_fixp s_lpp s_rgp s_retp s_site s_stxN s_stxO x_callT clx El.avs_len s_dyn0 s_rgy barOf dynChk footL dynOK disjK keysOp opVals Op.operands
section
open Ab Go TabE Sp E34 F1 Rw F5 F6
namespace F7
def mt (x : Fld) (y : El) : Bool := x.any || (decide (x.c = y.c) && (decide (x.k = y.k) && decide (x.n = y.n)))
theorem matches_ (x : Fld) (y : El) : Con E 10 83 [x.av, y.av] (.bool (mt x y)) := by
  refine con_of E_fn83 (by simp [AV.pureL, AV.pure, El.av_pure, Fld.cells]) (Nat.le_of_ble_eq_true rfl) rfl rfl (g := []) ?_
  rw [body_83, c83]
  unfold mt
  cases ha : x.any
  · by_cases a : x.c = y.c <;> by_cases b : x.k = y.k <;> by_cases c : x.n = y.n <;> simp [El.av_eq, Fld.cells, ha, a, b, c, fitZ]
  · simp [El.av_eq, Fld.cells, ha, fitZ]
def sqr (s : List El) : List Fld → Nat → List Int → (List Int × Nat) ⊕ (Int × List Int)
  | [], j, o => .inl (o, j)
  | x :: r, j, o => match s[j]? with
    | some y => if mt x y = true then sqr s r (j + 1) (o ++ [(j : Int)]) else if x.opt = true then sqr s r j (o ++ [-1]) else .inr (9, [(j : Int)])
    | none => if x.opt = true then sqr s r j (o ++ [-1]) else .inr (7, [])
theorem fd_at (f c) (l : List Fld) (i : Nat) (x : Fld) (h : l[i]? = some x) : ∀ hp, indexAddrA E 67 (.sl f (l.map Fld.av) c) (.int .i64 i) hp = some (.pel [.int .u8 x.c, .bool x.k, .int .u32 x.n, .bool x.any, .bool x.opt]) := by
  intro hp
  have hi : i < l.length := (List.getElem?_eq_some_iff.1 h).1
  unfold indexAddrA
  simp only [E_ty67, E_ty78]
  rw [if_pos ⟨by omega, by rw [List.length_map]; omega⟩]
  simp only [Int.toNat_natCast, List.getElem?_map, h, Option.map_some]
  rfl
def zr (z : Nat) : List AV := List.replicate z (.int .i64 0)
theorem zr_eq (z : Nat) : List.replicate z (AV.int .i64 0) = zr z := rfl
theorem zr_len (z : Nat) : (zr z).length = z := List.length_replicate
theorem zr_ns (z : Nat) : zr z = ns (List.replicate z 0) := by simp [zr, ns]
theorem zr_pure (z : Nat) : AV.pureL (zr z) = true := by rw [zr_ns]; exact ns_pure _
theorem zr_keys (z : Nat) : AV.keysL (zr z) = [] := AV.keysL_pure _ (zr_pure z)
abbrev rw_ (o : List Int) (z : Nat) : AObj := ⟨ns o ++ zr z, true, true, true, 1, false⟩
theorem rw_keys (o z) : AV.keysL (ns o ++ zr z) = [] := by rw [El.keysL_app, ns_keys, zr_keys]; rfl
theorem rw_len (o z) : (ns o ++ zr z).length = o.length + z := by rw [List.length_append, ns_len, zr_len]
theorem rw_take (o : List Int) (z) : (ns o ++ zr z).take o.length = ns o := by rw [← ns_len o, List.take_left']; rfl
theorem rw_drop (o : List Int) (z) : (ns o ++ zr (z + 1)).drop (o.length + 1) = zr z := by
  have : (ns o ++ zr (z + 1)).drop (o.length + 1) = ((ns o ++ zr (z + 1)).drop (ns o).length).drop 1 := by rw [List.drop_drop, ns_len]
  rw [this, List.drop_left']; rfl
  rfl
def b45 : Code := lp c45 0
abbrev S (f : Bool) (c : Option Nat) (l : List Fld) (e : El) (i j : Nat) (o : List Int) (z : Nat) : St := ⟨[(3, .ptr (1, 3, 0) 0), (7, .ptr (1, 7, 0) 0), (8, .int .i64 (j : Int)), (9, .ref (1, 26, 0) 0 o.length (some l.length)), (27, .sl f (l.map Fld.av) c), (28, .int .i64 (l.length : Int)), (29, .int .i64 (i : Int))], [((1, 3, 0), bx (ec e)), ((1, 7, 0), bx [.sl true [] (some 0), .int .i64 0]), ((1, 26, 0), rw_ o z)]⟩
abbrev MC (q : Nat) (x : Fld) (y : El) : Prop := ∀ h, aCall E q 0 83 [x.av, y.av] h = some (.ret (.bool (mt x y)), h)
abbrev Bad (p : List Int) (e : Int) : Option (AExit × St) := some (.ret, ⟨[(6, .sl true [] (some 0)), (7, .ptr (1, 7, 0) 0)], [((1, 7, 0), bx [.sl p.isEmpty (ns p) (some p.length), .int .i64 e])]⟩)
theorem hit (q k1 : Nat) (f c) (l : List Fld) (e y : El) (i j : Nat) (o : List Int) (z : Nat) (x : Fld) (hx : l[i]? = some x) (hy : e.s[j]? = some y) (ll : l.length ≤ 1000) (hz : o.length + (z + 1) = l.length) (ls : e.s.length ≤ 9223372036854775807) (M : MC q x y) (m : mt x y = true) :
    rndO fn45 b45 q k1 (S f c l e i j o (z + 1)) = some (.normal, S f c l e (i + 1) (j + 1) (o ++ [(j : Int)]) z) := by
  have hi : i < l.length := (List.getElem?_eq_some_iff.1 hx).1
  have hj : j < e.s.length := (List.getElem?_eq_some_iff.1 hy).1
  have ix := fd_at f c l i x hx
  have iy := fun hp => El.at_ e.fs e.cs e.s j y hy hp
  have w := w64' ((i : Int) + 1) (by omega) (by omega)
  have w2 := w64' ((j : Int) + 1) (by omega) (by omega)
  rw [MC, El.av_eq, Fld.av, Fld.cells, m] at M
  have fit : o.length + 1 ≤ l.length := by omega
  have fit2 : o.length ≤ l.length := by omega
  have k0 := rw_keys o (z + 1)
  have k1' := rw_keys (o ++ [(j : Int)]) z
  have e1 : ns (o ++ [(j : Int)]) = ns o ++ [.int .i64 (j : Int)] := ns_app _ _
  rw [e1] at k1'
  simp at k1'
  simp [b45, lp, lps, c45, -indexAddrA, ix, iy, w, w2, hi, hj, M, fit, fit2, k0, k1', e1, rw_len, rw_take, rw_drop, zr_len, hz]
theorem opt (q k1 : Nat) (f c) (l : List Fld) (e : El) (i j : Nat) (o : List Int) (z : Nat) (x : Fld) (hx : l[i]? = some x) (ll : l.length ≤ 1000) (hz : o.length + (z + 1) = l.length) (ls : e.s.length ≤ 9223372036854775807) (M : ∀ y, e.s[j]? = some y → MC q x y ∧ mt x y = false) (ho : x.opt = true) :
    rndO fn45 b45 q k1 (S f c l e i j o (z + 1)) = some (.normal, S f c l e (i + 1) j (o ++ [-1]) z) := by
  have hi : i < l.length := (List.getElem?_eq_some_iff.1 hx).1
  have ix := fd_at f c l i x hx
  have w := w64' ((i : Int) + 1) (by omega) (by omega)
  have fit : o.length + 1 ≤ l.length := by omega
  have fit2 : o.length ≤ l.length := by omega
  have k0 := rw_keys o (z + 1)
  have k1' := rw_keys (o ++ [-1]) z
  have e1 : ns (o ++ [-1]) = ns o ++ [.int .i64 (-1)] := ns_app _ _
  rw [e1] at k1'
  simp at k1'
  cases hy : e.s[j]? with
  | none =>
    have hj := List.getElem?_eq_none_iff.1 hy
    have hj' : ¬ j < e.s.length := by omega
    simp [b45, lp, lps, c45, -indexAddrA, ix, w, hi, hj', ho, fit, fit2, k0, k1', e1, rw_len, rw_take, rw_drop, zr_len, hz]
  | some y =>
    have hj : j < e.s.length := (List.getElem?_eq_some_iff.1 hy).1
    have iy := fun hp => El.at_ e.fs e.cs e.s j y hy hp
    obtain ⟨M, m⟩ := M y hy
    rw [MC, El.av_eq, Fld.av, Fld.cells, m, ho] at M
    simp [b45, lp, lps, c45, -indexAddrA, ix, iy, w, hi, hj, M, ho, fit, fit2, k0, k1', e1, rw_len, rw_take, rw_drop, zr_len, hz]
theorem short (q k1 : Nat) (f c) (l : List Fld) (e : El) (i : Nat) (o : List Int) (z : Nat) (x : Fld) (hx : l[i]? = some x) (ll : l.length ≤ 1000) (ho : x.opt = false) (F : ∀ h, aCall E q 0 82 [.int .i64 7, .sl true [] (some 0)] h = some (.ret (fF [] 7), h)) :
    rndO fn45 b45 q k1 (S f c l e i e.s.length o z) = Bad [] 7 := by
  have hi : i < l.length := (List.getElem?_eq_some_iff.1 hx).1
  have ix := fd_at f c l i x hx
  have k0 := rw_keys o z
  simp [fF] at F
  simp [b45, lp, lps, c45, -indexAddrA, ix, hi, ho, k0, F]
theorem wrong (q k1 : Nat) (f c) (l : List Fld) (e y : El) (i j : Nat) (o : List Int) (z : Nat) (x : Fld) (hx : l[i]? = some x) (hy : e.s[j]? = some y) (ll : l.length ≤ 1000) (ls : e.s.length ≤ 9223372036854775807) (M : MC q x y) (m : mt x y = false) (ho : x.opt = false) (F : ∀ h, aCall E q 0 82 [.int .i64 9, .sl false [.int .i64 (j : Int)] (some 1)] h = some (.ret (fF [(j : Int)] 9), h)) :
    rndO fn45 b45 q k1 (S f c l e i j o z) = Bad [(j : Int)] 9 := by
  have hi : i < l.length := (List.getElem?_eq_some_iff.1 hx).1
  have hj : j < e.s.length := (List.getElem?_eq_some_iff.1 hy).1
  have hj2 : ¬ j = e.s.length := by omega
  have hj3 : ¬ (j : Int) = e.s.length := by omega
  have ix := fd_at f c l i x hx
  have iy := fun hp => El.at_ e.fs e.cs e.s j y hy hp
  have k0 := rw_keys o z
  rw [MC, El.av_eq, Fld.av, Fld.cells, m, ho] at M
  simp [fF] at F
  simp [b45, lp, lps, c45, -indexAddrA, ix, iy, hi, hj, hj2, hj3, ho, k0, F, M]
theorem last (q k1 : Nat) (f c) (l : List Fld) (e : El) (j : Nat) (o : List Int) (z : Nat) : rndO fn45 b45 q k1 (S f c l e l.length j o z) = some (.exit 1, ⟨(S f c l e l.length j o z).t ++ [(30, .bool false)], (S f c l e l.length j o z).h⟩) := by
  have k0 := rw_keys o z
  simp [b45, lp, lps, c45, k0]
end F7
end
section
open Ab Go TabE Sp E34 F1 Rw F5 F6 F7
namespace F8
theorem sqr_len (s : List El) : ∀ (r : List Fld) (j : Nat) (o : List Int) (o' : List Int) (j' : Nat), j ≤ s.length → sqr s r j o = .inl (o', j') → o'.length = o.length + r.length ∧ j' ≤ s.length
  | [], j, o, o', j', hj, h => by unfold sqr at h; cases h; simp [hj]
  | x :: r, j, o, o', j', hj, h => by
    unfold sqr at h
    cases hy : s[j]? with
    | none =>
      rw [hy] at h
      simp only at h
      split at h
      · have := sqr_len s r j _ o' j' hj h; simp at this ⊢; omega
      · cases h
    | some y =>
      rw [hy] at h
      have hl : j < s.length := (List.getElem?_eq_some_iff.1 hy).1
      simp only at h
      split at h
      · have := sqr_len s r (j + 1) _ o' j' (by omega) h; simp at this ⊢; omega
      · split at h
        · have := sqr_len s r j _ o' j' hj h; simp at this ⊢; omega
        · cases h
def sq (e : El) (t : Int × Bool × Int) (l : List Fld) : List Int ⊕ (Int × List Int) :=
  if 256 < l.length then .inr (3, []) else if ¬ (e.c = t.1 ∧ e.k = t.2.1 ∧ e.n = t.2.2) then .inr (9, []) else
  match sqr e.s l 0 [] with
  | .inr p => .inr p
  | .inl (o, j) => if j < e.s.length then .inr (8, [(j : Int)]) else .inl o
def qF : List Int ⊕ (Int × List Int) → AV
  | .inl o => .tup [.sl false (ns o) (some o.length), fF [] 0]
  | .inr (e, p) => .tup [.sl true [] (some 0), fF p e]
abbrev Lp (K : Nat) := aLoop (aCode E (site fn45 (aRun E K)) (dcall (aRun E K)) K 1 fn45 b45) (cleanS 1 ((firstReg b45).bind fn45.head))
theorem loop (K : Nat) (hK : 30 ≤ K) (f c) (l : List Fld) (e : El) (ll : l.length ≤ 1000) (ls : e.s.length ≤ 9223372036854775807) : ∀ (r : List Fld) (i j : Nat) (o : List Int) (k : Nat), l.drop i = r → i + r.length = l.length → j ≤ e.s.length → o.length + r.length = l.length → r.length < k →
    Lp K k (F7.S f c l e i j o r.length) = (match sqr e.s r j o with
      | .inl (o', j') => some (.exit 1, ⟨(F7.S f c l e l.length j' o' 0).t ++ [(30, .bool false)], (F7.S f c l e l.length j' o' 0).h⟩)
      | .inr (er, p) => Bad p er)
  | [], i, j, o, k, h1, h2, h3, h4, h5 => by
    obtain ⟨k, rfl⟩ : ∃ q, k = q + 1 := ⟨k - 1, by omega⟩
    simp at h2
    subst h2
    exact aLoop_end (last K K f c l e j o 0) (by simp)
  | x :: r, i, j, o, k, h1, h2, h3, h4, h5 => by
    obtain ⟨k, rfl⟩ : ∃ q, k = q + 1 := ⟨k - 1, by omega⟩
    simp only [List.length_cons] at h2 h4 h5 ⊢
    have hx : l[i]? = some x := by
      have := congrArg (fun l => l[0]?) h1
      simpa [List.getElem?_drop] using this
    have hd : l.drop (i + 1) = r := by
      have := congrArg List.tail h1
      simpa [List.tail_drop] using this
    have M : ∀ y, MC K x y := fun y h => matches_ x y K (by omega) 0 h
    unfold sqr
    have goOpt : x.opt = true → (∀ y, e.s[j]? = some y → mt x y = false) → Lp K (k + 1) (F7.S f c l e i j o (r.length + 1)) = (match sqr e.s r j (o ++ [-1]) with
      | .inl (o', j') => some (.exit 1, ⟨(F7.S f c l e l.length j' o' 0).t ++ [(30, .bool false)], (F7.S f c l e l.length j' o' 0).h⟩)
      | .inr (er, p) => Bad p er) := fun ho hm => by
      have I := loop K hK f c l e ll ls r (i + 1) j (o ++ [-1]) k hd (by omega) h3 (by rw [List.length_append]; simp; omega) (by omega)
      exact (aLoop_succ (opt K K f c l e i j o r.length x hx ll (by omega) ls (fun y hy => ⟨M y, hm y hy⟩) ho)).trans I
    cases hy : e.s[j]? with
    | none =>
      have hj := List.getElem?_eq_none_iff.1 hy
      obtain rfl : j = e.s.length := by omega
      simp only
      by_cases ho : x.opt = true
      · rw [if_pos ho]; exact goOpt ho fun y h => by rw [hy] at h; cases h
      · rw [if_neg ho]
        exact aLoop_end (short K K f c l e i o (r.length + 1) x hx ll (by simpa using ho) fun h => fnil 7 K (by omega) 0 h) (by simp)
    | some y =>
      have hj : j < e.s.length := (List.getElem?_eq_some_iff.1 hy).1
      simp only
      by_cases m : mt x y = true
      · rw [if_pos m]
        have I := loop K hK f c l e ll ls r (i + 1) (j + 1) (o ++ [(j : Int)]) k hd (by omega) (by omega) (by rw [List.length_append]; simp; omega) (by omega)
        exact (aLoop_succ (hit K K f c l e y i j o r.length x hx hy ll (by omega) ls (M y) m)).trans I
      rw [if_neg m]
      have m' : mt x y = false := by simpa using m
      by_cases ho : x.opt = true
      · rw [if_pos ho]; exact goOpt ho fun y' h => by rw [hy] at h; cases h; exact m'
      · rw [if_neg ho]
        exact aLoop_end (wrong K K f c l e y i j o (r.length + 1) x hx hy ll ls (M y) m' (by simpa using ho) fun h => fone 9 j (some 1) K (by omega) 0 h) (by simp)
theorem fld_pure : ∀ l : List Fld, AV.pureL (l.map Fld.av) = true
  | [] => rfl
  | x :: l => by rw [List.map_cons, AV.pureL, fld_pure l]; rfl
theorem sequence (f c) (l : List Fld) (e : El) (t : Int × Bool × Int) (ls : e.s.length ≤ 9223372036854775807) (l2 : l.length ≤ 9223372036854775807) : Con E (l.length + 60) 45 [e.av, .agg [.int .u8 t.1, .bool t.2.1, .int .u32 t.2.2], .sl f (l.map Fld.av) c] (qF (sq e t l)) := by
  obtain ⟨K, hK⟩ : ∃ K, l.length + 59 = K := ⟨_, rfl⟩
  have eK : l.length + 60 = K + 1 := by omega
  rw [eK]
  have f3 := fnil 3 K (by omega) 0
  have f9 := fnil 9 K (by omega) 0
  try simp [fF] at f3
  try simp [fF] at f9
  refine con_ofO E_fn45 (by simp [AV.pureL, AV.pure, El.av_pure]) (Nat.le_of_ble_eq_true rfl) rfl (g := []) ?_
  rw [body_45, c45]
  unfold sq
  by_cases big : 256 < l.length
  · have big' : (256 : Int) < l.length := by omega
    rw [if_pos big]
    simp [El.av_eq, big, big', f3, qF]
  rw [if_neg big]
  have big' : ¬ (256 : Int) < l.length := by omega
  by_cases a : e.c = t.1
  case neg => simp [El.av_eq, big, big', a, f9, qF, fitZ]
  by_cases b : e.k = t.2.1
  case neg => simp [El.av_eq, big, big', a, b, f9, qF, fitZ]
  by_cases d : e.n = t.2.2
  case neg => simp [El.av_eq, big, big', a, b, d, f9, qF, fitZ]
  rw [if_neg (fun h => h ⟨a, b, d⟩)]
  have L := loop K (by omega) f c l e (by omega) ls l 0 0 [] K rfl (by omega) (by omega) (by simp) (by omega)
  have zz := zr_eq l.length
  have mk : (l.length : Int) ≤ 70368744177664 := by omega
  have mk2 : (l.length : Int) * 8 ≤ 70368744177664 := by omega
  have n0 : (0 : Int) ≤ (l.length : Int) := by omega
  have k0 := rw_keys [] l.length
  cases hr : sqr e.s l 0 [] with
  | inr p =>
    obtain ⟨er, p⟩ := p
    rw [hr] at L
    simp only [qF, fF]
    simp [F8.Lp, b45, lp, lps, c45, firstReg, F7.S, bx, ec, a, b, d, rw_] at L
    simp at k0
    simp [El.av_eq, -s_round, big, big', a, b, d, fitZ, L, zz, mk, mk2, k0, zr_len, zr_pure]
  | inl p =>
    obtain ⟨o, j⟩ := p
    have ln := sqr_len e.s l 0 [] o j (by omega) hr
    simp at ln
    rw [hr] at L
    simp [F8.Lp, b45, lp, lps, c45, firstReg, F7.S, bx, ec, a, b, d, rw_] at L
    simp at k0
    have z0 : zr 0 = [] := rfl
    rw [z0] at L
    simp at L
    have kj := ns_keys o
    have pj := ns_pure o
    have lj := ns_len o
    simp only
    by_cases hj : j < e.s.length
    · have hj' : (j : Int) < e.s.length := by omega
      have f8 := fone 8 j (some 1) K (by omega) 0
      simp [fF] at f8
      rw [if_pos hj, qF]
      simp [El.av_eq, -s_round, big, big', a, b, d, fitZ, L, zz, mk, mk2, k0, zr_len, zr_pure, hj, hj', f8, kj, pj]
    · have hj' : ¬ (j : Int) < e.s.length := by omega
      rw [if_neg hj, qF]
      simp [El.av_eq, -s_round, big, big', a, b, d, fitZ, L, zz, mk, mk2, k0, zr_len, zr_pure, hj, hj', kj, pj, lj, ln.1]
end F8
end
section
open Ab Go TabE Sp
namespace E53
theorem cutR (f : Bool) (cp : Option Nat) (b : List Int) (a e : Nat) (h1 : a ≤ e) (h2 : e ≤ b.length) : ∀ h, sliceA E 22 (.sl f (bs b) cp) (some (.int .i64 (a : Int))) (some (.int .i64 (e : Int))) none h = some (.sl f (bs ((b.take e).drop a)) (cp.map fun q => q - a)) := by
  intro h
  have t : ((bs b).take e).drop a = bs ((b.take e).drop a) := by simp [bs, List.map_take, List.map_drop]
  simp [sliceA, boundsA, fitsA, numA, boundsB, h1, h2, t, bs_length]
  intro n0 n1
  have : a < b.length := by omega
  exact ⟨.int .u8 b[a], by simp [bs, this], rfl⟩
end E53
end
end
section
open Ab Go TabE Sp E34 F1 F2 F4 F5 F6 F7 F8
namespace F11
structure Tw (x : El) : Prop where
  ok : x.ok
  vld : vld x.core
  nn : E31.Nn x
  fw : E18.Fw 1000 x
theorem rep_B (n : Nat) : isB (List.replicate n 0) := fun x hx => by have := List.eq_of_mem_replicate hx; omega
theorem leaf_Tw (x : Int) (x0 : 0 ≤ x) (x1 : x < 256) (k : (tg x).2.1 = false) : Tw (leaf x) ∧ dep (leaf x).core = 1 ∧ cnt (leaf x).core = 1 := by
  have t := tg_ok x x0
  have hb : isB (lb x) ∧ (lb x).length ≤ 1000 := by
    rcases F3.leaf_cases x x0 x1 with ⟨_, _, e⟩ | ⟨_, _, e⟩ | ⟨_, _, n, _, nb, e⟩
    · have : lb x = [255] := congrArg El.b e
      rw [this]; exact ⟨fun y hy => by simp at hy; omega, by simp⟩
    · have : lb x = [x / 8] := congrArg El.b e
      rw [this]; exact ⟨fun y hy => by simp at hy; omega, by simp⟩
    · have : lb x = List.replicate n 0 := congrArg El.b e
      rw [this]; exact ⟨rep_B n, by simp; exact nb⟩
  refine ⟨⟨(El.ok_eq _).2 ⟨by simp only [leaf, El.c]; omega, by simp only [leaf, El.n]; omega, hb.1, by simp only [leaf, El.b]; omega, by simp [leaf, El.s], fun y hy => (by cases hy)⟩, ?_, .mk _ (fun h => (by cases h)) (fun h => rfl) fun y hy => (by cases hy), .mk _ hb.2 fun y hy => (by cases hy)⟩, rfl, rfl⟩
  rw [vld_eq]
  refine ⟨by have := t.1; rw [k] at this; exact this, fun h => (by cases h), fun _ => rfl, trivial⟩
theorem node_Tw (x : Int) (x0 : 0 ≤ x) (k : (tg x).2.1 = true) (s : List El) (hs : ∀ y ∈ s, Tw y) (hl : s.length ≤ 1000) : Tw (node x s) := by
  have t := tg_ok x x0
  refine ⟨(El.ok_eq _).2 ⟨by simp only [node, El.c]; omega, by simp only [node, El.n]; omega, isB_nil, by simp [node, El.b], by simp only [node, El.s]; omega, fun y hy => (hs y hy).ok⟩, ?_, .mk _ (fun _ => rfl) (fun h => by simpa [node, El.fs, El.s] using h) fun y hy => (hs y hy).nn, .mk _ (by simp [node, El.b]) fun y hy => (hs y hy).fw⟩
  rw [vld_eq]
  exact ⟨by have := t.1; rw [k] at this; exact this, fun _ => rfl, fun h => (by cases h), vlds_all.2 fun y hy => (hs y hy).vld⟩
theorem bld_ok (cs : List Int) (hb : isB cs) : ∀ (f i lv : Nat), i ≤ 40 → lv ≤ 5 → (∀ x ∈ (bld f cs i lv).1, Tw x ∧ dep x.core ≤ 6 - lv) ∧ cnts (El.cores (bld f cs i lv).1) + i ≤ (bld f cs i lv).2
  | 0, i, lv, hi, hl => by unfold bld; exact ⟨fun x h => (by cases h), by simp [El.cores, cnts]⟩
  | f + 1, i, lv, hi, hl => by
    unfold bld
    cases hx : cs[i]? with
    | none => exact ⟨fun x h => (by cases h), by simp [El.cores, cnts]⟩
    | some x =>
      simp only
      have xb := hb x (List.mem_of_getElem? hx)
      by_cases a : 40 ≤ i
      · rw [if_pos a]; exact ⟨fun x h => (by cases h), by simp [El.cores, cnts]⟩
      rw [if_neg a]
      by_cases b : x % 16 = 15
      · rw [if_pos b]; exact ⟨fun x h => (by cases h), by simp [El.cores, cnts]; omega⟩
      rw [if_neg b]
      have r1 := bld_ok cs hb f (i + 1) lv (by omega) hl
      have l1 := bld_le f cs (i + 1) lv (by omega)
      by_cases c : (tg x).2.1 = true
      · rw [if_pos c]
        by_cases d : lv = 5
        · rw [if_pos d]; exact ⟨r1.1, by have := r1.2; omega⟩
        · rw [if_neg d]
          have r2 := bld_ok cs hb f (i + 1) (lv + 1) (by omega) (by omega)
          have l2 := bld_le f cs (i + 1) (lv + 1) (by omega)
          have r3 := bld_ok cs hb f (bld f cs (i + 1) (lv + 1)).2 lv l2.2.1 hl
          have l3 := bld_le f cs (bld f cs (i + 1) (lv + 1)).2 lv l2.2.1
          refine ⟨fun y hy => ?_, ?_⟩
          · rcases List.mem_cons.1 hy with rfl | hy
            · refine ⟨node_Tw x xb.1 c _ (fun y hy => (r2.1 y hy).1) (by omega), ?_⟩
              rw [dep_eq]
              have := deps_le (m := 5 - lv) (by omega) (bld f cs (i + 1) (lv + 1)).1 fun y hy => by have := (r2.1 y hy).2; omega
              show deps (El.cores (bld f cs (i + 1) (lv + 1)).1) + 1 ≤ _
              omega
            · exact r3.1 y hy
          · rw [El.cores, cnts, cnt_eq]
            show 1 + cnts (El.cores (bld f cs (i + 1) (lv + 1)).1) + _ + _ ≤ _
            have := r2.2
            have := r3.2
            omega
      · rw [if_neg c]
        have lf := leaf_Tw x xb.1 xb.2 (by simpa using c)
        refine ⟨fun y hy => ?_, ?_⟩
        · rcases List.mem_cons.1 hy with rfl | hy
          · exact ⟨lf.1, by rw [lf.2.1]; omega⟩
          · exact r1.1 y hy
        · rw [El.cores, cnts, lf.2.2]
          have := r1.2
          simp only
          omega
theorem ofT_Tw (cs : List Int) (hb : isB cs) : Tw (ofT cs) ∧ dep (ofT cs).core ≤ 5 ∧ cnt (ofT cs).core ≤ 41 ∧ (ofT cs).s.length ≤ 40 := by
  have r := bld_ok cs hb 41 0 2 (by omega) (by omega)
  have l := bld_le 41 cs 0 2 (by omega)
  refine ⟨⟨(El.ok_eq _).2 ⟨by simp [ofT, El.c], by simp [ofT, El.n], isB_nil, by simp [ofT, El.b], by simp only [ofT, El.s]; omega, fun y hy => (r.1 y hy).1.ok⟩, ?_, .mk _ (fun _ => rfl) (fun h => by simpa [ofT, El.fs, El.s] using h) fun y hy => (r.1 y hy).1.nn, .mk _ (by simp [ofT, El.b]) fun y hy => (r.1 y hy).1.fw⟩, ?_, ?_, by simp only [ofT, El.s]; omega⟩
  · rw [vld_eq]
    exact ⟨rfl, fun _ => rfl, fun h => (by cases h), vlds_all.2 fun y hy => (r.1 y hy).1.vld⟩
  · rw [dep_eq]
    have := deps_le (m := 4) (by omega) (ofT cs).s fun y hy => by have := (r.1 y hy).2; omega
    omega
  · rw [cnt_eq]
    have := r.2
    show 1 + cnts (El.cores (bld 41 cs 0 2).1) ≤ _
    omega
end F11
end
section
open Ab Go TabE
set_option maxRecDepth 100000
namespace LW
theorem l12 : Con E 200 50 [] (.bool true) := by
  obtain ⟨g, h⟩ := isT_some (show isT (aCall E 200 0 50 [] []) = true by kernel_rfl)
  exact .of (g := g) rfl h
end LW
end
