/- algorithms.build at the evaluator. Written by gA6.py. No conditions. -/
import Derived.Test.YtbiildmljbcmeaaDoorA3
import Derived.Test.YtbiildmljbcmeaaDoorF6
import Derived.Test.YtbiildmljbcmeaaDoorB40
import Derived.Test.YtbiildmljbcmeaaDoorQC
open Ab Go TabE Sp E34 F1 Rw F5 F6 F7 F8 F43 F47 AP A1 A2
set_option maxRecDepth 20000
set_option linter.unusedSimpArgs false
set_option linter.unusedVariables false
set_option maxHeartbeats 8000000
namespace A6
attribute [local simp ↓] s_seq s_reg s_regd s_cond s_block s_cons s_consG s_regD
attribute [local simp] s_nil s_loop s_round s_lpn s_lpe s_lpr firstReg s_gt s_gf s_wb s_wu s_val s_valN s_skip s_calls s_callP s_cax lookR flatR pureKs s_ret s_rgx s_sqn s_sqr s_sqe s_cdb s_bkn s_bkr s_bke s_exit s_ret' s_skip' s_finr s_finn s_fin1 s_fix s_clean s_gc0 o_tmp o_int o_bool o_nil o_str o_fn o_nil' l_hit l_miss l_nil ol_nil ol_cons ol_some x_move x_assign x_pick pk_t pk_f x_bin bn_s x_un x_extract x_callF cl_no x_callB x_callBF frzV x_conv cvx convA frame0 binA intOp resL resA results1 sealLW AV.pure AV.pureL keepT x_alloc x_box bxx x_build bdx x_buildSlice bsx x_buildSliceF bsf x_load ldx x_store stx x_slice slx x_fieldAddr x_field x_index ixx x_indexAddr iax x_makeSlice msx x_makeSliceF msf x_nilCheck newK genOf setK lookK fillA writeL writeC readC conts TyI.mk1 sliceA boundsA boundsB fitsA numA indexAddrA fieldAddrA partA fieldA indexA appendA copyA builtinA AV.cells chunk gcH reach keysT keepK inKs AV.keys AV.keysL Ty.isAgg eq1 eqL convA.go ltI w_u8 w_u32 w_u64 w_i64 w_fdiv w_tdiv w_tmod IntKind.bits unA sc_int sc_bool sc_str sc_sl sc_ref sc_ptr sc_pel sc_nilp sc_fn sc_nilf sc_if sc_nili sc_agg sc_tup sc_mem bs_pure bs_kl bs_length bs_cells bs_all sl_row sealRow sealY sl_int sl_bool sl_str sl_sl sl_nilp sl_nilf sl_nili sl_pel sl_agg sl_tup sl_fn sl_if nat_1 bs_cons bs_nil i_beq i_bne x_mkF x_mkI x_tassert x_panic s_pan s_sqp s_bkp s_finp s_fixp s_lpp s_rgp s_retp s_site s_stxN s_stxO x_callT clx El.avs_len s_dyn0 s_rgy barOf dynChk footL dynOK disjK keysOp opVals Op.operands
theorem ints_map:∀ xs:List Int,(∀ x ∈ xs,0 ≤ x ∧ x < 4294967296) → OP.ints (xs.map (AV.int .u32))=some xs
  | [],_ => rfl
  | x :: r,h => by
    rw [List.map_cons,OP.ints,if_pos (h x (by simp)),ints_map r fun y hy => h y (by simp [hy])]
    rfl
abbrev zel:AV:=.agg [.int .u8 0,.bool false,.int .u32 0,.sl true [] (some 0),.sl true [] (some 0)]
theorem put (n x0 x1 x2 x3 x4 x5 x6 x7 x8 x9 x10 x11 x12 x13 x14 x15:Int) (hn:0 ≤ n ∧ n < 256) (hx:∀ x ∈ [x0,x1,x2,x3,x4,x5,x6,x7,x8,x9,x10,x11,x12,x13,x14,x15],0 ≤ x ∧ x < 4294967296):Con E 1 117 [.agg [.int .u8 n,.int .u32 x0,.int .u32 x1,.int .u32 x2,.int .u32 x3,.int .u32 x4,.int .u32 x5,.int .u32 x6,.int .u32 x7,.int .u32 x8,.int .u32 x9,.int .u32 x10,.int .u32 x11,.int .u32 x12,.int .u32 x13,.int .u32 x14,.int .u32 x15]] (if OP.okB n [x0,x1,x2,x3,x4,x5,x6,x7,x8,x9,x10,x11,x12,x13,x14,x15] then .tup [.sl false (bs (OP.octs n [x0,x1,x2,x3,x4,x5,x6,x7,x8,x9,x10,x11,x12,x13,x14,x15])) (some (OP.octs n [x0,x1,x2,x3,x4,x5,x6,x7,x8,x9,x10,x11,x12,x13,x14,x15]).length),.int .i64 0] else .tup [.sl true [] (some 0),.int .i64 1]):=by
  refine con_prim (p:=OP.oidP) rfl rfl ?_ ?_
  · have:=ints_map [x0,x1,x2,x3,x4,x5,x6,x7,x8,x9,x10,x11,x12,x13,x14,x15] hx
    simp only [List.map] at this
    unfold OP.oidP
    simp only [this,Option.bind_some]
    rw [if_pos ⟨hn.1,hn.2,rfl⟩]
    rfl
  · split <;> simp [AV.pure,AV.pureL,bs_pure]
abbrev Pu (K:Nat) (n x0 x1 x2 x3 x4 x5 x6 x7 x8 x9 x10 x11 x12 x13 x14 x15:Int) (v:AV):Prop:=∀ h,aCall E K 0 117 [.agg [.int .u8 n,.int .u32 x0,.int .u32 x1,.int .u32 x2,.int .u32 x3,.int .u32 x4,.int .u32 x5,.int .u32 x6,.int .u32 x7,.int .u32 x8,.int .u32 x9,.int .u32 x10,.int .u32 x11,.int .u32 x12,.int .u32 x13,.int .u32 x14,.int .u32 x15]] h=some (.ret v,h)
theorem bad1 (K:Nat) (hK:60 ≤ K) (n x0 x1 x2 x3 x4 x5 x6 x7 x8 x9 x10 x11 x12 x13 x14 x15:Int) (b:Bool) (p:El) (P:Pu K n x0 x1 x2 x3 x4 x5 x6 x7 x8 x9 x10 x11 x12 x13 x14 x15 (.tup [.sl true [] (some 0),.int .i64 1])):Con E (K + 1) 72 [ag n x0 x1 x2 x3 x4 x5 x6 x7 x8 x9 x10 x11 x12 x13 x14 x15 b p] (.tup [zel,.int .i64 1]):=by
  refine con_of E_fn72 (by simp [AV.pureL,AV.pure,El.avs_pure]) (Nat.le_of_ble_eq_true rfl) rfl rfl (g:=[]) ?_
  rw [body_72,c72]
  unfold Pu at P
  simp [P]
theorem bad2 (K:Nat) (hK:60 ≤ K) (n x0 x1 x2 x3 x4 x5 x6 x7 x8 x9 x10 x11 x12 x13 x14 x15:Int) (p:El) (o:List Int) (P:Pu K n x0 x1 x2 x3 x4 x5 x6 x7 x8 x9 x10 x11 x12 x13 x14 x15 (.tup [.sl false (bs o) (some o.length),.int .i64 0])) (Z:∀ h,aCall E K 0 118 [p.av] h=some (.ret (.bool false),h)):Con E (K + 1) 72 [ag n x0 x1 x2 x3 x4 x5 x6 x7 x8 x9 x10 x11 x12 x13 x14 x15 false p] (.tup [zel,.int .i64 1]):=by
  refine con_of E_fn72 (by simp [AV.pureL,AV.pure,El.avs_pure]) (Nat.le_of_ble_eq_true rfl) rfl rfl (g:=[]) ?_
  rw [body_72,c72]
  unfold Pu at P; rw [El.av_eq] at Z
  simp [P,Z]
theorem ok1 (K:Nat) (hK:60 ≤ K) (n x0 x1 x2 x3 x4 x5 x6 x7 x8 x9 x10 x11 x12 x13 x14 x15:Int) (p:El) (o:List Int) (P:Pu K n x0 x1 x2 x3 x4 x5 x6 x7 x8 x9 x10 x11 x12 x13 x14 x15 (.tup [.sl false (bs o) (some o.length),.int .i64 0])) (Z:∀ h,aCall E K 0 118 [p.av] h=some (.ret (.bool true),h)):Con E (K + 1) 72 [ag n x0 x1 x2 x3 x4 x5 x6 x7 x8 x9 x10 x11 x12 x13 x14 x15 false p] (.tup [(tp [lf o] 1).av,.int .i64 0]):=by
  have cc:=fun f xs c hp => QC.clipE f xs c hp K (by omega) 0
  refine con_of E_fn72 (by simp [AV.pureL,AV.pure,El.avs_pure]) (Nat.le_of_ble_eq_true rfl) rfl rfl (g:=[]) ?_
  rw [body_72,c72]
  unfold Pu at P; rw [El.av_eq] at Z
  simp [P,Z,cc,o_glob,El.av,El.avs]
theorem ok2 (K:Nat) (hK:60 ≤ K) (n x0 x1 x2 x3 x4 x5 x6 x7 x8 x9 x10 x11 x12 x13 x14 x15:Int) (p:El) (o:List Int) (P:Pu K n x0 x1 x2 x3 x4 x5 x6 x7 x8 x9 x10 x11 x12 x13 x14 x15 (.tup [.sl false (bs o) (some o.length),.int .i64 0])) (C:A2.Cl K p):Con E (K + 1) 72 [ag n x0 x1 x2 x3 x4 x5 x6 x7 x8 x9 x10 x11 x12 x13 x14 x15 true p] (.tup [(tp [lf o,clo p] 2).av,.int .i64 0]):=by
  have cc:=fun f xs c hp => QC.clipE f xs c hp K (by omega) 0
  refine con_of E_fn72 (by simp [AV.pureL,AV.pure,El.avs_pure]) (Nat.le_of_ble_eq_true rfl) rfl rfl (g:=[]) ?_
  rw [body_72,c72]
  unfold Pu at P; unfold A2.Cl at C; rw [El.av_eq p,El.av_eq (clo p)] at C
  have e:(tp [lf o,clo p] 2).av=.agg [.int .u8 0,.bool true,.int .u32 16,.sl true [] (some 0),.sl false [(lf o).av,(clo p).av] (some 2)]:=rfl
  rw [e,El.av_eq (clo p)]
  simp [P,C,cc,o_glob,El.av,El.avs]
end A6
