/- An opened call of values that stand, which gives back rows of its own. No conditions. -/
import Derived.Test.YtbiildmljbcmeaaF4
open Ab Go TabE Sp E34 F1
set_option maxRecDepth 20000
set_option linter.unusedSimpArgs false
set_option linter.unusedVariables false
set_option maxHeartbeats 8000000
namespace FO
attribute [local simp ↓] s_seq s_reg s_regd s_cond s_block s_cons s_consG s_regD
attribute [local simp] s_nil s_loop s_round s_lpn s_lpe s_lpr firstReg s_gt s_gf s_wb s_wu s_val s_valN s_skip s_calls s_callP s_cax lookR flatR pureKs s_ret s_rgx s_sqn s_sqr s_sqe s_cdb s_bkn s_bkr s_bke s_exit s_ret' s_skip' s_finr s_finn s_fin1 s_fix s_clean s_gc0 o_tmp o_int o_bool o_nil o_str o_fn o_nil' l_hit l_miss l_nil ol_nil ol_cons ol_some x_move x_assign x_pick pk_t pk_f x_bin bn_s x_un x_extract x_callF cl_no x_callB x_callBF frzV x_conv cvx convA frame0 binA intOp resL resA results1 sealLW AV.pure AV.pureL keepT x_alloc x_box bxx x_build bdx x_buildSlice bsx x_buildSliceF bsf x_load ldx x_store stx x_slice slx x_fieldAddr x_field x_index ixx x_indexAddr iax x_makeSlice msx x_makeSliceF msf x_nilCheck newK genOf setK lookK fillA writeL writeC readC conts TyI.mk1 sliceA boundsA boundsB fitsA numA indexAddrA fieldAddrA partA fieldA indexA appendA copyA builtinA AV.cells chunk gcH reach keysT keepK inKs AV.keys AV.keysL Ty.isAgg eq1 eqL convA.go ltI w_u8 w_u32 w_u64 w_i64 w_fdiv w_tdiv w_tmod IntKind.bits unA sc_int sc_bool sc_str sc_sl sc_ref sc_ptr sc_pel sc_nilp sc_fn sc_nilf sc_if sc_nili sc_agg sc_tup sc_mem bs_pure bs_kl bs_length bs_cells bs_all sl_row sealRow sealY sl_int sl_bool sl_str sl_sl sl_nilp sl_nilf sl_nili sl_pel sl_agg sl_tup sl_fn sl_if nat_1 bs_cons bs_nil i_beq i_bne x_mkF x_mkI x_tassert x_panic s_pan s_sqp s_bkp s_finp s_fixp s_lpp s_rgp s_retp s_site s_stxN s_stxO x_callT clx El.avs_len s_dyn0 s_rgy barOf dynChk footL dynOK disjK keysOp opVals Op.operands
theorem sealM_pure : ∀ (m : List Bool) (args : List AV) (h : Heap), AV.pureL args = true → sealM (sealA 20) m h args = some (args, h)
  | [], [], h, _ => rfl
  | [], x :: r, h, hp => by
    unfold sealM
    exact sealL_of_pure 19 _ h hp
  | true :: m, [], h, _ => rfl
  | false :: m, [], h, _ => rfl
  | b :: m, x :: r, h, hp => by
    have hp' : x.pure = true ∧ AV.pureL r = true := by simpa [AV.pureL] using hp
    have ih := sealM_pure m r h hp'.2
    cases b
    · unfold sealM
      have : sealA 20 h x = some (x, h) := by unfold sealA; rw [if_pos hp'.1]
      rw [this]
      simp only [ih]
    · unfold sealM
      rw [ih]
theorem setK_same : ∀ (h : Heap) (key : Key) (o : AObj), lookK h key = some o → setK h key o = h
  | [], key, o, h => by simp [lookK] at h
  | (k, x) :: r, key, o, h => by
    unfold lookK at h
    unfold setK
    by_cases e : k = key
    · rw [if_pos e] at h ⊢; cases h; rw [e]
    · rw [if_neg e] at h ⊢; rw [setK_same r key o h]
theorem op_fresh {run : RunF} {slot : Nat} {g : FuncId} {m : List Bool} {args : List AV} {h hf : Heap} {v : AV} (ks : List Key) (hp : AV.pureL args = true) (hr : run g args [] = some (.ret v, hf))
    (e7 : dd (reach hf 3 (AV.keysL [v])) = ks) (cl : closedH hf ks ks = true) (nk : ∀ k ∈ ks, k.1 ≠ 0) (vk : (AV.keysL [v]).all (inKs ks) = true) :
    opened m false run slot g args h = some (.ret (AV.rn (outK [] ks slot (genOf h 1 slot)) v), putAll hf (outK [] ks slot (genOf h 1 slot)) ks h) := by
  unfold opened
  rw [sealM_pure m args h hp]
  simp only
  have e0 : AV.keysL args = [] := AV.keysL_pure _ hp
  rw [e0]
  have e2 : dd (reach h 3 []) = [] := rfl
  rw [e2]
  unfold lendA
  have e3 : lendH h (inK []) [] = some [] := rfl
  rw [e3]
  simp only [e0]
  rw [if_pos ⟨by rfl, by rfl⟩]
  have e5 : AV.rnL (inK []) args = args := rnL_pure args hp
  rw [e5, hr]
  have e9 : lentKs 0 = [] := rfl
  simp only [backR, Bool.false_eq_true, if_false, backV, Ab.back, List.length_nil, e9, List.nil_append, e7, backA]
  have ok : ks.all (okK 0) = true := List.all_eq_true.2 fun k hk => by simp [okK, nk k hk]
  have fl : ks.filter (fun k => !decide (k.1 = 0)) = ks := List.filter_eq_self.2 fun k hk => by simp [nk k hk]
  rw [if_pos ⟨cl, ok, vk, by rfl⟩]
  simp only [fl, AV.rnL]
end FO
