/- Own work, no conditions. -/
import Derived.Test.YtbiildmljbcmeaaDoorSG
import Derived.Test.YtbiildmljbcmeaaDoorF5
import Derived.Test.YtbiildmljbcmeaaDoorP5
import Derived.Test.YtbiildmljbcmeaaDoorTabE
import Derived.Test.YtbiildmljbcmeaaDoorB40
import Derived.Test.YtbiildmljbcmeaaDoorB32
import Derived.Test.YtbiildmljbcmeaaDoorB18
import Derived.Test.YtbiildmljbcmeaaDoorF31
set_option maxRecDepth 20000
set_option linter.unusedSimpArgs false
set_option linter.unusedVariables false
set_option maxHeartbeats 16000000
section
open Ab Go TabE
attribute [local simp ↓] s_seq s_reg s_regd s_cond s_block s_cons s_consG s_regD
attribute [local simp] s_nil s_loop s_round s_lpn s_lpe s_lpr firstReg s_gt s_gf s_wb s_wu s_val s_valN s_skip s_calls s_callP s_cax lookR flatR pureKs s_ret s_rgx s_sqn s_sqr s_sqe s_cdb s_bkn s_bkr s_bke s_exit s_ret' s_skip' s_finr s_finn s_fin1 s_fix s_clean s_gc0 o_tmp o_int o_bool o_nil o_str o_fn o_nil' l_hit l_miss l_nil ol_nil ol_cons ol_some x_move x_assign x_pick pk_t pk_f x_bin bn_s x_un x_extract x_callF cl_no x_callB x_callBF frzV x_conv cvx convA frame0 binA intOp resL resA results1 sealLW AV.pure AV.pureL keepT x_alloc x_box bxx x_build bdx x_buildSlice bsx x_buildSliceF bsf x_load ldx x_store stx x_slice slx x_fieldAddr x_field x_index ixx x_indexAddr iax x_makeSlice msx x_makeSliceF msf x_nilCheck newK genOf setK lookK fillA writeL writeC readC conts TyI.mk1 sliceA boundsA boundsB fitsA numA indexAddrA fieldAddrA partA fieldA indexA appendA copyA builtinA AV.cells chunk gcH reach keysT keepK inKs AV.keys AV.keysL Ty.isAgg eq1 eqL convA.go ltI w_u8 w_u32 w_u64 w_i64 w_fdiv w_tdiv w_tmod IntKind.bits unA sc_int sc_bool sc_str sc_sl sc_ref sc_ptr sc_pel sc_nilp sc_fn sc_nilf sc_if sc_nili sc_agg sc_tup sc_mem bs_pure bs_kl bs_length bs_cells bs_all sl_row sealRow sealY sl_int sl_bool sl_str sl_sl sl_nilp sl_nilf sl_nili sl_pel sl_agg sl_tup sl_fn sl_if nat_1 bs_cons bs_nil i_beq i_bne x_mkF x_mkI x_tassert x_panic s_pan s_sqp s_bkp s_finp s_fixp s_lpp s_rgp s_retp s_site s_stxN s_stxO x_callT clx El.avs_len s_dyn0 s_rgy barOf dynChk footL dynOK disjK keysOp opVals Op.operands
section
open Ab Go TabE Sp QA
namespace QC
theorem clipE (f xs c) (hp:AV.pureL xs=true):Con E 5 90 [.sl f xs c] (.sl f xs (some xs.length)):=by
  refine .of (g:=[]) (by simp [AV.pureL,AV.pure,hp]) ?_
  rw [aCall_fn rfl E_fn90 (by simp [AV.pureL,AV.pure,hp]) (Nat.le_of_ble_eq_true rfl) rfl rfl,body_90,c90]
  simp [hp]
end QC
end
section
open Ab Go TabE Sp E34 F1 Rw F5 F6 F7 F8 F43 F47 AP A1 A2
namespace A6
theorem ints_map:∀ xs:List Int,(∀ x ∈ xs,0 ≤ x ∧ x < 4294967296) → OP.ints (xs.map (AV.int .u32))=some xs
  | [],_ => rfl
  | x :: r,h => by
    rw [List.map_cons,OP.ints,if_pos (h x (by simp)),ints_map r fun y hy => h y (by simp [hy])]
    rfl
abbrev zel:AV:=.agg [.int .u8 0,.bool false,.int .u32 0,.sl true [] (some 0),.sl true [] (some 0)]
theorem put (n x0 x1 x2 x3 x4 x5 x6 x7 x8 x9 x10 x11 x12 x13 x14 x15:Int) (hn:0 ≤ n ∧ n < 256) (hx:∀ x ∈ [x0,x1,x2,x3,x4,x5,x6,x7,x8,x9,x10,x11,x12,x13,x14,x15],0 ≤ x ∧ x < 4294967296):Con E 1 117 [.agg [.int .u8 n,.int .u32 x0,.int .u32 x1,.int .u32 x2,.int .u32 x3,.int .u32 x4,.int .u32 x5,.int .u32 x6,.int .u32 x7,.int .u32 x8,.int .u32 x9,.int .u32 x10,.int .u32 x11,.int .u32 x12,.int .u32 x13,.int .u32 x14,.int .u32 x15]] (if OP.okB n [x0,x1,x2,x3,x4,x5,x6,x7,x8,x9,x10,x11,x12,x13,x14,x15] then .tup [.sl false (bs (OP.octs n [x0,x1,x2,x3,x4,x5,x6,x7,x8,x9,x10,x11,x12,x13,x14,x15])) (some (OP.octs n [x0,x1,x2,x3,x4,x5,x6,x7,x8,x9,x10,x11,x12,x13,x14,x15]).length),.int .i64 0] else .tup [.sl true [] (some 0),.int .i64 1]):=by
  refine con_prim (p:=OP.oidP) rfl rfl ?_ ?_
  · have:=ints_map [x0,x1,x2,x3,x4,x5,x6,x7,x8,x9,x10,x11,x12,x13,x14,x15] hx
    simp only [List.map] at this
    unfold OP.oidP
    simp only [this,Option.bind_some]
    rw [if_pos ⟨hn.1,hn.2,rfl⟩]
    rfl
  · split <;> simp [AV.pure,AV.pureL,bs_pure]
abbrev Pu (K:Nat) (n x0 x1 x2 x3 x4 x5 x6 x7 x8 x9 x10 x11 x12 x13 x14 x15:Int) (v:AV):Prop:=∀ h,aCall E K 0 117 [.agg [.int .u8 n,.int .u32 x0,.int .u32 x1,.int .u32 x2,.int .u32 x3,.int .u32 x4,.int .u32 x5,.int .u32 x6,.int .u32 x7,.int .u32 x8,.int .u32 x9,.int .u32 x10,.int .u32 x11,.int .u32 x12,.int .u32 x13,.int .u32 x14,.int .u32 x15]] h=some (.ret v,h)
theorem bad1 (K:Nat) (hK:60 ≤ K) (n x0 x1 x2 x3 x4 x5 x6 x7 x8 x9 x10 x11 x12 x13 x14 x15:Int) (b:Bool) (p:El) (P:Pu K n x0 x1 x2 x3 x4 x5 x6 x7 x8 x9 x10 x11 x12 x13 x14 x15 (.tup [.sl true [] (some 0),.int .i64 1])):Con E (K + 1) 72 [ag n x0 x1 x2 x3 x4 x5 x6 x7 x8 x9 x10 x11 x12 x13 x14 x15 b p] (.tup [zel,.int .i64 1]):=by
  refine con_of E_fn72 (by simp [AV.pureL,AV.pure,El.avs_pure]) (Nat.le_of_ble_eq_true rfl) rfl rfl (g:=[]) ?_
  rw [body_72,c72]
  unfold Pu at P
  simp [P]
theorem bad2 (K:Nat) (hK:60 ≤ K) (n x0 x1 x2 x3 x4 x5 x6 x7 x8 x9 x10 x11 x12 x13 x14 x15:Int) (p:El) (o:List Int) (P:Pu K n x0 x1 x2 x3 x4 x5 x6 x7 x8 x9 x10 x11 x12 x13 x14 x15 (.tup [.sl false (bs o) (some o.length),.int .i64 0])) (Z:∀ h,aCall E K 0 118 [p.av] h=some (.ret (.bool false),h)):Con E (K + 1) 72 [ag n x0 x1 x2 x3 x4 x5 x6 x7 x8 x9 x10 x11 x12 x13 x14 x15 false p] (.tup [zel,.int .i64 1]):=by
  refine con_of E_fn72 (by simp [AV.pureL,AV.pure,El.avs_pure]) (Nat.le_of_ble_eq_true rfl) rfl rfl (g:=[]) ?_
  rw [body_72,c72]
  unfold Pu at P; rw [El.av_eq] at Z
  simp [P,Z]
theorem ok1 (K:Nat) (hK:60 ≤ K) (n x0 x1 x2 x3 x4 x5 x6 x7 x8 x9 x10 x11 x12 x13 x14 x15:Int) (p:El) (o:List Int) (P:Pu K n x0 x1 x2 x3 x4 x5 x6 x7 x8 x9 x10 x11 x12 x13 x14 x15 (.tup [.sl false (bs o) (some o.length),.int .i64 0])) (Z:∀ h,aCall E K 0 118 [p.av] h=some (.ret (.bool true),h)):Con E (K + 1) 72 [ag n x0 x1 x2 x3 x4 x5 x6 x7 x8 x9 x10 x11 x12 x13 x14 x15 false p] (.tup [(tp [lf o] 1).av,.int .i64 0]):=by
  have cc:=fun f xs c hp => QC.clipE f xs c hp K (by omega) 0
  refine con_of E_fn72 (by simp [AV.pureL,AV.pure,El.avs_pure]) (Nat.le_of_ble_eq_true rfl) rfl rfl (g:=[]) ?_
  rw [body_72,c72]
  unfold Pu at P; rw [El.av_eq] at Z
  simp [P,Z,cc,o_glob,El.av,El.avs]
theorem ok2 (K:Nat) (hK:60 ≤ K) (n x0 x1 x2 x3 x4 x5 x6 x7 x8 x9 x10 x11 x12 x13 x14 x15:Int) (p:El) (o:List Int) (P:Pu K n x0 x1 x2 x3 x4 x5 x6 x7 x8 x9 x10 x11 x12 x13 x14 x15 (.tup [.sl false (bs o) (some o.length),.int .i64 0])) (C:A2.Cl K p):Con E (K + 1) 72 [ag n x0 x1 x2 x3 x4 x5 x6 x7 x8 x9 x10 x11 x12 x13 x14 x15 true p] (.tup [(tp [lf o,clo p] 2).av,.int .i64 0]):=by
  have cc:=fun f xs c hp => QC.clipE f xs c hp K (by omega) 0
  refine con_of E_fn72 (by simp [AV.pureL,AV.pure,El.avs_pure]) (Nat.le_of_ble_eq_true rfl) rfl rfl (g:=[]) ?_
  rw [body_72,c72]
  unfold Pu at P; unfold A2.Cl at C; rw [El.av_eq p,El.av_eq (clo p)] at C
  have e:(tp [lf o,clo p] 2).av=.agg [.int .u8 0,.bool true,.int .u32 16,.sl true [] (some 0),.sl false [(lf o).av,(clo p).av] (some 2)]:=rfl
  rw [e,El.av_eq (clo p)]
  simp [P,C,cc,o_glob,El.av,El.avs]
end A6
end
end
section
open Ab Go TabE
namespace OFn
theorem opened_fn {E:Env} {k slot f h x g v hf} (hr:aRun E k f [x,.fn g [] []] []=some (.ret v,hf)) (hx:x.pure=true) (hv:v.pure=true):opened [false,true] true (aRun E k) slot f [x,.fn g [] []] h=some (.ret v,h):=by
  have e1:sealM (sealA 20) [false,true] h [x,.fn g [] []]=some ([x,.fn g [] []],h):=by simp [sealM,sealA_of_pure hx]
  have e2:AV.keysL [x,.fn g [] []]=[]:=by simp [AV.keysL,AV.keys,AV.keys_pure x hx]
  have e3:AV.rnL (inK []) [x,.fn g [] []]=[x,.fn g [] []]:=by simp [AV.rnL,AV.rn,rn_pure x hx]
  have e4:sealA 20 hf v=some (v,hf):=sealA_of_pure hv
  have e5:AV.keysL [v]=[]:=by simp [AV.keysL,AV.keys_pure v hv]
  have e6:∀ φ,AV.rnL φ [v]=[v]:=fun φ => by simp [AV.rnL,rn_pure v hv]
  have e7:∀ h:Heap,dd (reach h 3 [])=[]:=fun h => rfl
  unfold opened
  rw [e1]
  simp only [e2,e7]
  unfold lendA
  simp only [lendH,closedH,e2,List.all_nil,and_self,if_true,e3,hr,backR,e4]
  unfold backV Ab.back backA
  simp only [List.length_nil,lentKs,List.range_zero,List.map_nil,List.nil_append,e5,e7,closedH,List.all_nil,and_self,if_true,e6,List.filter_nil,putAll]
theorem exm {x:Option (ARes × Heap)} {r} (h:x.map Prod.fst=some r):∃ hf,x=some (r,hf):=by
  cases x with
  | none => cases h
  | some p => obtain ⟨a,b⟩:=p; cases h; exact ⟨b,rfl⟩
end OFn
end
section
open Ab Go TabE
attribute [local simp ↓] s_seq s_reg s_regd s_cond s_block s_cons s_consG s_regD
attribute [local simp] s_nil s_loop s_round s_lpn s_lpe s_lpr firstReg s_gt s_gf s_wb s_wu s_val s_valN s_skip s_calls s_callP s_cax lookR flatR pureKs s_ret s_rgx s_sqn s_sqr s_sqe s_cdb s_bkn s_bkr s_bke s_exit s_ret' s_skip' s_finr s_finn s_fin1 s_fix s_clean s_gc0 o_tmp o_int o_bool o_nil o_str o_fn o_nil' l_hit l_miss l_nil ol_nil ol_cons ol_some x_move x_assign x_pick pk_t pk_f x_bin bn_s x_un x_extract x_callF cl_no x_callB x_callBF frzV x_conv cvx convA frame0 binA intOp resL resA results1 sealLW AV.pure AV.pureL keepT x_alloc x_box bxx x_build bdx x_buildSlice bsx x_buildSliceF bsf x_load ldx x_store stx x_slice slx x_fieldAddr x_field x_index ixx x_indexAddr iax x_makeSlice msx x_makeSliceF msf x_nilCheck newK genOf setK lookK fillA writeL writeC readC conts TyI.mk1 sliceA boundsA boundsB fitsA numA indexAddrA fieldAddrA partA fieldA indexA appendA copyA builtinA AV.cells chunk gcH reach keysT keepK inKs AV.keys AV.keysL Ty.isAgg eq1 eqL convA.go ltI w_u8 w_u32 w_u64 w_i64 w_fdiv w_tdiv w_tmod IntKind.bits unA sc_int sc_bool sc_str sc_sl sc_ref sc_ptr sc_pel sc_nilp sc_fn sc_nilf sc_if sc_nili sc_agg sc_tup sc_mem bs_pure bs_kl bs_length bs_cells bs_all sl_row sealRow sealY sl_int sl_bool sl_str sl_sl sl_nilp sl_nilf sl_nili sl_pel sl_agg sl_tup sl_fn sl_if nat_1 bs_cons bs_nil i_beq i_bne x_mkF x_mkI x_tassert x_panic s_pan s_sqp s_bkp s_finp s_fixp s_lpp s_rgp s_retp s_site s_stxN s_stxO x_callT clx El.avs_len s_dyn0 s_rgy barOf dynChk footL dynOK disjK keysOp opVals Op.operands
section
open Ab Go TabE Sp E34 F1 Rw F5 F6 F7 F8 F43 F47 AP A1 A2 A6
namespace A7
abbrev Bd (K:Nat) (n x0 x1 x2 x3 x4 x5 x6 x7 x8 x9 x10 x11 x12 x13 x14 x15:Int) (b:Bool) (p:El) (v:AV) (w:Int):Prop:=∀ h,aCall E K 0 72 [ag n x0 x1 x2 x3 x4 x5 x6 x7 x8 x9 x10 x11 x12 x13 x14 x15 b p] h=some (.ret (.tup [v,.int .i64 w]),h)
def bld (n:Int) (xs:List Int) (b:Bool) (p:El):El:=if b=true then tp [lf (OP.octs n xs),clo p] 2 else tp [lf (OP.octs n xs)] 1
theorem run_bad (K:Nat) (hK:60 ≤ K) (n x0 x1 x2 x3 x4 x5 x6 x7 x8 x9 x10 x11 x12 x13 x14 x15:Int) (b:Bool) (p:El) (w:Int) (hw:w ≠ 0) (B:Bd K n x0 x1 x2 x3 x4 x5 x6 x7 x8 x9 x10 x11 x12 x13 x14 x15 b p zel w):∃ hf,aRun E (K + 1) 71 [ag n x0 x1 x2 x3 x4 x5 x6 x7 x8 x9 x10 x11 x12 x13 x14 x15 b p,.fn 72 [] []] []=some (.ret (.tup [zel,.int .i64 w]),hf):=by
  refine OFn.exm ?_
  rw [aRun_fn rfl E_fn71 rfl (Nat.le_of_ble_eq_true rfl),body_71,c71]
  unfold Bd at B
  simp [-s_round,B,hw,-Option.map_eq_some_iff]
theorem run_ok (K:Nat) (hK:60 ≤ K) (n x0 x1 x2 x3 x4 x5 x6 x7 x8 x9 x10 x11 x12 x13 x14 x15:Int) (b:Bool) (p y:El) (w:Int) (B:Bd K n x0 x1 x2 x3 x4 x5 x6 x7 x8 x9 x10 x11 x12 x13 x14 x15 b p y.av 0) (C:Ck K y w):∃ hf,aRun E (K + 1) 71 [ag n x0 x1 x2 x3 x4 x5 x6 x7 x8 x9 x10 x11 x12 x13 x14 x15 b p,.fn 72 [] []] []=some (.ret (.tup [if w=0 then y.av else zel,.int .i64 w]),hf):=by
  refine OFn.exm ?_
  rw [aRun_fn rfl E_fn71 rfl (Nat.le_of_ble_eq_true rfl),body_71,c71]
  unfold Bd at B; unfold Ck at C; rw [El.av_eq] at B C
  by_cases hw:w=0
  · rw [if_pos hw,El.av_eq]
    simp [-s_round,B,C,hw,-Option.map_eq_some_iff]
  · rw [if_neg hw]
    simp [-s_round,B,C,hw,-Option.map_eq_some_iff]
theorem elem_of (K:Nat) (hK:60 ≤ K) (n x0 x1 x2 x3 x4 x5 x6 x7 x8 x9 x10 x11 x12 x13 x14 x15:Int) (b:Bool) (p y:El) (w:Int) (o:∃ hf,aRun E K 71 [ag n x0 x1 x2 x3 x4 x5 x6 x7 x8 x9 x10 x11 x12 x13 x14 x15 b p,.fn 72 [] []] []=some (.ret (.tup [y.av,.int .i64 w]),hf)) :
    Con E (K + 1) 19 [ag n x0 x1 x2 x3 x4 x5 x6 x7 x8 x9 x10 x11 x12 x13 x14 x15 b p] (.tup [y.av,.int .i64 w]) ∧ Con E (K + 1) 24 [ag n x0 x1 x2 x3 x4 x5 x6 x7 x8 x9 x10 x11 x12 x13 x14 x15 b p] (.int .i64 w):=by
  obtain ⟨hf,e⟩:=o
  have o:=fun slot h => OFn.opened_fn (slot:=slot) (h:=h) e (by simp [AV.pure,AV.pureL,El.avs_pure]) (by simp [AV.pure,AV.pureL,El.av_pure])
  simp only [El.av_eq y] at o ⊢
  constructor
  · refine con_ofO E_fn19 (by simp [AV.pureL,AV.pure,El.avs_pure]) (Nat.le_of_ble_eq_true rfl) rfl (g:=[]) ?_
    rw [body_19,c19]
    simp [-s_round,o]
  · refine con_ofO E_fn24 (by simp [AV.pureL,AV.pure,El.avs_pure]) (Nat.le_of_ble_eq_true rfl) rfl (g:=[]) ?_
    rw [body_24,c24]
    simp [-s_round,o]
def er (n:Int) (xs:List Int) (b:Bool) (p:El):Int:=if OP.okB n xs=false then 1 else if b=false ∧ zE p=false then 1 else (chk (bld n xs b p).core 1 0 0).1
theorem elem (n x0 x1 x2 x3 x4 x5 x6 x7 x8 x9 x10 x11 x12 x13 x14 x15:Int) (b:Bool) (p:El) (hn:0 ≤ n ∧ n < 256) (hx:∀ x ∈ [x0,x1,x2,x3,x4,x5,x6,x7,x8,x9,x10,x11,x12,x13,x14,x15],0 ≤ x ∧ x < 4294967296) (hp:p.ok) (wd:Wd p) (nn:E31.Nn p) (sh:E33.Sh p) (ho:(bld n [x0,x1,x2,x3,x4,x5,x6,x7,x8,x9,x10,x11,x12,x13,x14,x15] b p).ok) :
    ∃ N,Con E N 19 [ag n x0 x1 x2 x3 x4 x5 x6 x7 x8 x9 x10 x11 x12 x13 x14 x15 b p] (.tup [if er n [x0,x1,x2,x3,x4,x5,x6,x7,x8,x9,x10,x11,x12,x13,x14,x15] b p=0 then (bld n [x0,x1,x2,x3,x4,x5,x6,x7,x8,x9,x10,x11,x12,x13,x14,x15] b p).av else zel,.int .i64 (er n [x0,x1,x2,x3,x4,x5,x6,x7,x8,x9,x10,x11,x12,x13,x14,x15] b p)]) ∧ Con E N 24 [ag n x0 x1 x2 x3 x4 x5 x6 x7 x8 x9 x10 x11 x12 x13 x14 x15 b p] (.int .i64 (er n [x0,x1,x2,x3,x4,x5,x6,x7,x8,x9,x10,x11,x12,x13,x14,x15] b p)):=by
  obtain ⟨N1,C1⟩:=A1.clone p wd nn sh
  obtain ⟨N2,C2⟩:=E10.check _ ho
  obtain ⟨K,hK⟩:∃ K,N1 + N2 + 100=K:=⟨_,rfl⟩
  have P:=put n x0 x1 x2 x3 x4 x5 x6 x7 x8 x9 x10 x11 x12 x13 x14 x15 hn hx K (by omega) 0
  have Z:=A1.zero p K (by omega) 0
  refine ⟨K + 3,?_⟩
  have fin:∀ (y:El) (w:Int),(∃ hf,aRun E (K + 2) 71 [ag n x0 x1 x2 x3 x4 x5 x6 x7 x8 x9 x10 x11 x12 x13 x14 x15 b p,.fn 72 [] []] []=some (.ret (.tup [y.av,.int .i64 w]),hf)) → Con E (K + 3) 19 [ag n x0 x1 x2 x3 x4 x5 x6 x7 x8 x9 x10 x11 x12 x13 x14 x15 b p] (.tup [y.av,.int .i64 w]) ∧ Con E (K + 3) 24 [ag n x0 x1 x2 x3 x4 x5 x6 x7 x8 x9 x10 x11 x12 x13 x14 x15 b p] (.int .i64 w):=fun y w o => elem_of (K + 2) (by omega) n x0 x1 x2 x3 x4 x5 x6 x7 x8 x9 x10 x11 x12 x13 x14 x15 b p y w o
  cases hok:OP.okB n [x0,x1,x2,x3,x4,x5,x6,x7,x8,x9,x10,x11,x12,x13,x14,x15] with
  | false =>
    rw [hok] at P
    have e1:er n [x0,x1,x2,x3,x4,x5,x6,x7,x8,x9,x10,x11,x12,x13,x14,x15] b p=1:=by unfold er; rw [hok,if_pos rfl]
    rw [e1,if_neg (by decide:¬ (1:Int)=0)]
    refine fin E32.z0 1 (run_bad (K + 1) (by omega) n x0 x1 x2 x3 x4 x5 x6 x7 x8 x9 x10 x11 x12 x13 x14 x15 b p 1 (by decide) ?_)
    exact fun h => bad1 K (by omega) n x0 x1 x2 x3 x4 x5 x6 x7 x8 x9 x10 x11 x12 x13 x14 x15 b p P (K + 1) (by omega) 0 h
  | true =>
    rw [hok] at P
    simp only [if_true] at P
    by_cases hz:b=false ∧ zE p=false
    · have e1:er n [x0,x1,x2,x3,x4,x5,x6,x7,x8,x9,x10,x11,x12,x13,x14,x15] b p=1:=by unfold er; rw [hok,if_neg (by simp),if_pos hz]
      rw [e1,if_neg (by decide:¬ (1:Int)=0)]
      obtain ⟨rfl,hz⟩:=hz
      rw [hz] at Z
      refine fin E32.z0 1 (run_bad (K + 1) (by omega) n x0 x1 x2 x3 x4 x5 x6 x7 x8 x9 x10 x11 x12 x13 x14 x15 false p 1 (by decide) ?_)
      exact fun h => bad2 K (by omega) n x0 x1 x2 x3 x4 x5 x6 x7 x8 x9 x10 x11 x12 x13 x14 x15 p _ P Z (K + 1) (by omega) 0 h
    · have e1:er n [x0,x1,x2,x3,x4,x5,x6,x7,x8,x9,x10,x11,x12,x13,x14,x15] b p=(chk (bld n [x0,x1,x2,x3,x4,x5,x6,x7,x8,x9,x10,x11,x12,x13,x14,x15] b p).core 1 0 0).1:=by unfold er; rw [hok,if_neg (by simp),if_neg hz]
      rw [e1]
      have B:Bd (K + 1) n x0 x1 x2 x3 x4 x5 x6 x7 x8 x9 x10 x11 x12 x13 x14 x15 b p (bld n [x0,x1,x2,x3,x4,x5,x6,x7,x8,x9,x10,x11,x12,x13,x14,x15] b p).av 0:=by
        cases b with
        | false =>
          have hz':zE p=true:=by cases q:zE p; exact absurd ⟨rfl,q⟩ hz; rfl
          rw [hz'] at Z
          exact fun h => ok1 K (by omega) n x0 x1 x2 x3 x4 x5 x6 x7 x8 x9 x10 x11 x12 x13 x14 x15 p _ P Z (K + 1) (by omega) 0 h
        | true =>
          exact fun h => ok2 K (by omega) n x0 x1 x2 x3 x4 x5 x6 x7 x8 x9 x10 x11 x12 x13 x14 x15 p _ P (fun h => C1 K (by omega) 0 h) (K + 1) (by omega) 0 h
      have r:=run_ok (K + 1) (by omega) n x0 x1 x2 x3 x4 x5 x6 x7 x8 x9 x10 x11 x12 x13 x14 x15 b p (bld n [x0,x1,x2,x3,x4,x5,x6,x7,x8,x9,x10,x11,x12,x13,x14,x15] b p) (chk (bld n [x0,x1,x2,x3,x4,x5,x6,x7,x8,x9,x10,x11,x12,x13,x14,x15] b p).core 1 0 0).1 B (fun h => C2 (K + 1) (by omega) 0 h)
      have e:∀ w:Int,(if w=0 then (bld n [x0,x1,x2,x3,x4,x5,x6,x7,x8,x9,x10,x11,x12,x13,x14,x15] b p).av else zel)=(if w=0 then bld n [x0,x1,x2,x3,x4,x5,x6,x7,x8,x9,x10,x11,x12,x13,x14,x15] b p else E32.z0).av:=fun w => by split <;> rfl
      rw [e] at r ⊢
      exact fin _ _ r
end A7
end
section
open Ab Go TabE Sp E34 F1 Rw F4 F5 F6 F7 F8 F43 F47 AP A1 A2 A6 A7
namespace A9
def oN (k:Int):Int:=if 3 < k % 8 then 5 else 4
def oX (k:Int):Int:=if 3 < k % 8 then 127 + k % 4 else 0
theorem oid (k:Int) (k0:0 ≤ k) (k1:k < 256):Con E 20 39 [.int .u8 k] (.agg [.int .u8 (oN k),.int .u32 1,.int .u32 2,.int .u32 840,.int .u32 (k % 4),.int .u32 (oX k),.int .u32 0,.int .u32 0,.int .u32 0,.int .u32 0,.int .u32 0,.int .u32 0,.int .u32 0,.int .u32 0,.int .u32 0,.int .u32 0,.int .u32 0]):=by
  have t1:k.tmod 4=k % 4:=Int.tmod_eq_emod_of_nonneg k0
  have t2:k.tmod 8=k % 8:=Int.tmod_eq_emod_of_nonneg k0
  have w1:k % 4 % 4294967296=k % 4:=by omega
  have w2:(127 + k % 4) % 4294967296=127 + k % 4:=by omega
  refine con_of E_fn39 (by simp [AV.pureL,AV.pure]) (Nat.le_of_ble_eq_true rfl) rfl rfl (g:=[]) ?_
  rw [body_39,c39]
  unfold oN oX
  by_cases h:3 < k % 8 <;> simp [t1,t2,w1,w2,h]
abbrev nul:El:=.mk 0 false 5 true [] (some 0) true [] (some 0)
def pE:List Int → El
  | [] => E32.z0
  | a :: r => if a % 4=3 then nul else ofT (a :: r)
abbrev ac (k:Int) (fp:Bool) (ps:List Int) (cp:Option Nat) (fb:Bool) (l:List Int) (cb:Option Nat) (un:Int):List AV:=[.int .u8 k,.sl fp (bs ps) cp,.sl fb (bs l) cb,.int .u8 un]
theorem of_nil (k:Int) (k0:0 ≤ k) (k1:k < 256) (fp cp fb l cb) (un:Int):Con E 300 29 [.agg (ac k fp [] cp fb l cb un)] (ag (oN k) 1 2 840 (k % 4) (oX k) 0 0 0 0 0 0 0 0 0 0 0 false E32.z0):=by
  have O:=oid k k0 k1 299 (by omega) 0
  refine con_of E_fn29 (by simp [AV.pureL,AV.pure]) (Nat.le_of_ble_eq_true rfl) rfl rfl (g:=[]) ?_
  rw [body_29,c29]
  simp [O]
  exact ⟨rfl,rfl,rfl,⟨rfl,rfl,rfl⟩,rfl,rfl,rfl⟩
theorem of_cons (k:Int) (k0:0 ≤ k) (k1:k < 256) (fp cp fb l cb) (un a:Int) (r:List Int) (hp:isB (a :: r)):Con E 300 29 [.agg (ac k fp (a :: r) cp fb l cb un)] (ag (oN k) 1 2 840 (k % 4) (oX k) 0 0 0 0 0 0 0 0 0 0 0 true (pE (a :: r))):=by
  have O:=oid k k0 k1 299 (by omega) 0
  have T:=ofT_con fp (a :: r) cp hp 299 (by omega) 0
  have a0:=hp a (by simp)
  have t1:a.tmod 4=a % 4:=Int.tmod_eq_emod_of_nonneg a0.1
  have ix:∀ h,indexAddrA E 26 (.sl fp (.int .u8 a :: bs r) cp) (.int .i64 0) h=some (.pel [.int .u8 a]):=fun h => by
    simp [E_ty26,E_ty5]
  refine con_of E_fn29 (by simp [AV.pureL,AV.pure]) (Nat.le_of_ble_eq_true rfl) rfl rfl (g:=[]) ?_
  rw [body_29,c29]
  rw [El.av_eq] at T
  rw [bs_cons] at T
  by_cases h:a % 4=3
  · rw [show pE (a :: r)=nul from by simp only [pE]; rw [if_pos h]]
    simp [O,T,t1,h,-indexAddrA,ix,El.avs_pure]
    try exact ⟨rfl,rfl,rfl,⟨rfl,rfl,rfl⟩,rfl,rfl,rfl⟩
  · rw [show pE (a :: r)=ofT (a :: r) from by simp only [pE]; rw [if_neg h]]
    simp [O,T,t1,h,-indexAddrA,ix,El.avs_pure]
end A9
end
end
section
open Ab Go TabE
namespace K2
theorem opc {run:RunF} {slot:Nat} {f:FuncId} {cs:List AV} {v:AV} {h:Heap} {key:Key} {hf:Heap} (hp:AV.pureL cs=true) (hv:v.pure=true) (hk:lookK h key=some (bx cs))
    (hl:lookK hf (0,0,0)=some (bx cs)) (hr:run f [.ptr (0,0,0) 0] [((0,0,0),bx cs)]=some (.ret v,hf)) :
    opened [true] true run slot f [.ptr key 0] h=some (.ret v,setK h key (bx cs)):=by
  have e1:sealM (sealA 20) [true] h [.ptr key 0]=some ([.ptr key 0],h):=by simp [sealM]
  have k1:AV.keysL cs=[]:=AV.keysL_pure _ hp
  have r1:∀ φ,AV.rnL φ cs=cs:=fun φ => rnL_pure cs hp
  unfold opened
  rw [e1]
  have e2:AV.keysL [.ptr key 0]=[key]:=by simp [AV.keysL,AV.keys]
  simp only [e2]
  have e3:dd (reach h 3 [key])=[key]:=by simp [reach,hk,k1,dd]
  rw [e3]
  unfold lendA
  have e4:lendH h (inK [key]) [key]=some [((0,0,0),bx cs)]:=by simp [lendH,hk,inK,posK,r1]
  rw [e4]
  have e6:closedH h [key] [key]=true:=by simp [closedH,hk,k1]
  simp only [e2]
  rw [if_pos ⟨e6,by simp [inKs]⟩]
  have e5:AV.rnL (inK [key]) [.ptr key 0]=[.ptr (0,0,0) 0]:=by simp [AV.rnL,AV.rn,inK,posK]
  rw [e5,hr]
  have e9:lentKs 1=[(0,0,0)]:=rfl
  have e7:dd (reach hf 3 ([(0,0,0)] ++ []))=[(0,0,0)]:=by simp [reach,hl,k1,dd]
  have e10:closedH hf [(0,0,0)] [(0,0,0)]=true:=by simp [closedH,hl,k1]
  have e8:AV.keysL [v]=[]:=by simp [AV.keysL,AV.keys_pure v hv]
  have e11:∀ g:Heap,sealA 20 g v=some (v,g):=fun g => sealA_of_pure hv
  have e12:∀ φ,AV.rnL φ [v]=[v]:=fun φ => by simp [AV.rnL,rn_pure v hv]
  simp only [backR,if_true,e11,backV,Ab.back,List.length_singleton,e8,e9,e7,backA]
  rw [if_pos ⟨e10,by rfl,by rfl,by rfl⟩]
  simp [AV.rnL,AV.rn,rn_pure v hv,outK,posK,putAll,hl,r1]
end K2
end
section
open Ab Go TabE
attribute [local simp ↓] s_seq s_reg s_regd s_cond s_block s_cons s_consG s_regD
attribute [local simp] s_nil s_loop s_round s_lpn s_lpe s_lpr firstReg s_gt s_gf s_wb s_wu s_val s_valN s_skip s_calls s_callP s_cax lookR flatR pureKs s_ret s_rgx s_sqn s_sqr s_sqe s_cdb s_bkn s_bkr s_bke s_exit s_ret' s_skip' s_finr s_finn s_fin1 s_fix s_clean s_gc0 o_tmp o_int o_bool o_nil o_str o_fn o_nil' l_hit l_miss l_nil ol_nil ol_cons ol_some x_move x_assign x_pick pk_t pk_f x_bin bn_s x_un x_extract x_callF cl_no x_callB x_callBF frzV x_conv cvx convA frame0 binA intOp resL resA results1 sealLW AV.pure AV.pureL keepT x_alloc x_box bxx x_build bdx x_buildSlice bsx x_buildSliceF bsf x_load ldx x_store stx x_slice slx x_fieldAddr x_field x_index ixx x_indexAddr iax x_makeSlice msx x_makeSliceF msf x_nilCheck newK genOf setK lookK fillA writeL writeC readC conts TyI.mk1 sliceA boundsA boundsB fitsA numA indexAddrA fieldAddrA partA fieldA indexA appendA copyA builtinA AV.cells chunk gcH reach keysT keepK inKs AV.keys AV.keysL Ty.isAgg eq1 eqL convA.go ltI w_u8 w_u32 w_u64 w_i64 w_fdiv w_tdiv w_tmod IntKind.bits unA sc_int sc_bool sc_str sc_sl sc_ref sc_ptr sc_pel sc_nilp sc_fn sc_nilf sc_if sc_nili sc_agg sc_tup sc_mem bs_pure bs_kl bs_length bs_cells bs_all sl_row sealRow sealY sl_int sl_bool sl_str sl_sl sl_nilp sl_nilf sl_nili sl_pel sl_agg sl_tup sl_fn sl_if nat_1 bs_cons bs_nil i_beq i_bne x_mkF x_mkI x_tassert x_panic s_pan s_sqp s_bkp s_finp s_fixp s_lpp s_rgp s_retp s_site s_stxN s_stxO x_callT clx El.avs_len s_dyn0 s_rgy barOf dynChk footL dynOK disjK keysOp opVals Op.operands
section
open Ab Go TabE Sp E34 F1 Rw F5 F6 F7 F8 F43 F47 AP A1 A2 A6 A7
namespace K3
abbrev kc (n x0 x1 x2 x3 x4 x5 x6 x7 x8 x9 x10 x11 x12 x13 x14 x15:Int) (b:Bool) (p:El) (f:Bool) (o:List Int) (c:Option Nat) (m:Int):List AV:=[.int .u8 n,.int .u32 x0,.int .u32 x1,.int .u32 x2,.int .u32 x3,.int .u32 x4,.int .u32 x5,.int .u32 x6,.int .u32 x7,.int .u32 x8,.int .u32 x9,.int .u32 x10,.int .u32 x11,.int .u32 x12,.int .u32 x13,.int .u32 x14,.int .u32 x15,.bool b,.int .u8 p.c,.bool p.k,.int .u32 p.n,.sl p.fb (bs p.b) p.cb,.sl p.fs (El.avs p.s) p.cs,.sl f (bs o) c,.int .i64 m]
abbrev kg (n x0 x1 x2 x3 x4 x5 x6 x7 x8 x9 x10 x11 x12 x13 x14 x15:Int) (b:Bool) (p:El) (f:Bool) (o:List Int) (c:Option Nat) (m:Int):AV:=.agg [.int .u8 n,.int .u32 x0,.int .u32 x1,.int .u32 x2,.int .u32 x3,.int .u32 x4,.int .u32 x5,.int .u32 x6,.int .u32 x7,.int .u32 x8,.int .u32 x9,.int .u32 x10,.int .u32 x11,.int .u32 x12,.int .u32 x13,.int .u32 x14,.int .u32 x15,.bool b,.int .u8 p.c,.bool p.k,.int .u32 p.n,.sl p.fb (bs p.b) p.cb,.sl p.fs (El.avs p.s) p.cs,.sl f (bs o) c,.int .i64 m]
abbrev Ea (K:Nat) (n x0 x1 x2 x3 x4 x5 x6 x7 x8 x9 x10 x11 x12 x13 x14 x15:Int) (b:Bool) (p y:El) (w:Int):Prop:=∀ h,aCall E K 0 19 [ag n x0 x1 x2 x3 x4 x5 x6 x7 x8 x9 x10 x11 x12 x13 x14 x15 b p] h=some (.ret (.tup [y.av,.int .i64 w]),h)
abbrev Eb (K:Nat) (f:Bool) (o:List Int) (c:Option Nat) (m:Int) (y:El) (w:Int):Prop:=∀ h,aCall E K 0 25 [.sl f (bs o) c,.int .i64 m] h=some (.ret (.tup [y.av,.int .i64 w]),h)
theorem kp (n x0 x1 x2 x3 x4 x5 x6 x7 x8 x9 x10 x11 x12 x13 x14 x15:Int) (b:Bool) (p:El) (f:Bool) (o:List Int) (c:Option Nat) (m:Int):AV.pureL (kc n x0 x1 x2 x3 x4 x5 x6 x7 x8 x9 x10 x11 x12 x13 x14 x15 b p f o c m)=true:=by simp [AV.pureL,AV.pure,El.avs_pure]
theorem cloA (K:Nat) (n x0 x1 x2 x3 x4 x5 x6 x7 x8 x9 x10 x11 x12 x13 x14 x15:Int) (b:Bool) (p y:El) (f:Bool) (o:List Int) (c:Option Nat) (m w:Int) (A:Ea K n x0 x1 x2 x3 x4 x5 x6 x7 x8 x9 x10 x11 x12 x13 x14 x15 b p y w):aRun E (K + 1) 125 [.ptr (0,0,0) 0] [((0,0,0),bx (kc n x0 x1 x2 x3 x4 x5 x6 x7 x8 x9 x10 x11 x12 x13 x14 x15 b p f o c m))]=some (.ret (.tup [y.av,.int .i64 w]),[((0,0,0),bx (kc n x0 x1 x2 x3 x4 x5 x6 x7 x8 x9 x10 x11 x12 x13 x14 x15 b p f o c m)),((1,1,0),bx (ec y))]):=by
  rw [aRun_fn rfl E_fn125 rfl (Nat.le_of_ble_eq_true rfl),body_125,c125]
  unfold Ea at A; rw [El.av_eq y] at A ⊢
  simp [A,El.avs_pure]
theorem cloB (K:Nat) (n x0 x1 x2 x3 x4 x5 x6 x7 x8 x9 x10 x11 x12 x13 x14 x15:Int) (b:Bool) (p y:El) (f:Bool) (o:List Int) (c:Option Nat) (m w:Int) (A:Eb K f o c m y w):aRun E (K + 1) 126 [.ptr (0,0,0) 0] [((0,0,0),bx (kc n x0 x1 x2 x3 x4 x5 x6 x7 x8 x9 x10 x11 x12 x13 x14 x15 b p f o c m))]=some (.ret (.tup [y.av,.int .i64 w]),[((0,0,0),bx (kc n x0 x1 x2 x3 x4 x5 x6 x7 x8 x9 x10 x11 x12 x13 x14 x15 b p f o c m)),((1,1,0),bx (ec y))]):=by
  rw [aRun_fn rfl E_fn126 rfl (Nat.le_of_ble_eq_true rfl),body_126,c126]
  unfold Eb at A; rw [El.av_eq y] at A ⊢
  simp [A,El.avs_pure]
theorem tp_pure (y:El) (w:Int):(AV.tup [y.av,.int .i64 w]).pure=true:=by simp [AV.pure,AV.pureL,El.av_pure]
theorem ok (k:Nat) (hK:60 ≤ k) (n x0 x1 x2 x3 x4 x5 x6 x7 x8 x9 x10 x11 x12 x13 x14 x15:Int) (b:Bool) (p y z:El) (f:Bool) (o:List Int) (c:Option Nat) (m:Int) (A:Ea (k + 10) n x0 x1 x2 x3 x4 x5 x6 x7 x8 x9 x10 x11 x12 x13 x14 x15 b p y 0) (B:Eb (k + 10) f o c m z 0):Con E (k + 12) 77 [kg n x0 x1 x2 x3 x4 x5 x6 x7 x8 x9 x10 x11 x12 x13 x14 x15 b p f o c m] (.tup [(tp [y,z] 2).av,.int .i64 0]):=by
  have oA:=fun slot h hk => K2.opc (slot:=slot) (h:=h) (key:=(1,1,0)) (kp n x0 x1 x2 x3 x4 x5 x6 x7 x8 x9 x10 x11 x12 x13 x14 x15 b p f o c m) (tp_pure y 0) hk rfl (cloA (k + 10) n x0 x1 x2 x3 x4 x5 x6 x7 x8 x9 x10 x11 x12 x13 x14 x15 b p y f o c m 0 A)
  have oB:=fun slot h hk => K2.opc (slot:=slot) (h:=h) (key:=(1,1,0)) (kp n x0 x1 x2 x3 x4 x5 x6 x7 x8 x9 x10 x11 x12 x13 x14 x15 b p f o c m) (tp_pure z 0) hk rfl (cloB (k + 10) n x0 x1 x2 x3 x4 x5 x6 x7 x8 x9 x10 x11 x12 x13 x14 x15 b p z f o c m 0 B)
  have cc:=fun f xs c hp => QC.clipE f xs c hp (k + 11) (by omega) 0
  refine con_ofO E_fn77 (by simp [AV.pureL,AV.pure,El.avs_pure]) (Nat.le_of_ble_eq_true rfl) rfl (g:=[]) ?_
  rw [body_77,c77]
  have e:(tp [y,z] 2).av=.agg [.int .u8 0,.bool true,.int .u32 16,.sl true [] (some 0),.sl false [y.av,z.av] (some 2)]:=rfl
  rw [e]
  rw [El.av_eq y] at oA ⊢
  rw [El.av_eq z] at oB ⊢
  simp [oA,oB,cc,o_glob,El.avs_pure,SG.sl_g,SG.sealG,SG.sealYG]
end K3
end
end
section
open Ab Go TabE Sp E34 F1 Rw F4 F5 F6 F7 F8 F43 F47 AP A1 A2 A6 A7 A9 K3
namespace A10
def b:Code:=lp c30 0
abbrev hA (A:List AV):Key × AObj:=((1,1,0),bx A)
abbrev hZ:Key × AObj:=((1,2,0),bx [.int .u8 0,.int .u32 0,.int .u32 0,.int .u32 0,.int .u32 0,.int .u32 0,.int .u32 0,.int .u32 0,.int .u32 0,.int .u32 0,.int .u32 0,.int .u32 0,.int .u32 0,.int .u32 0,.int .u32 0,.int .u32 0,.int .u32 0,.bool false,.int .u8 0,.bool false,.int .u32 0,.sl true [] (some 0),.sl true [] (some 0),.sl true [] (some 0),.int .i64 0])
abbrev S0 (A:List AV) (n x0 x1 x2 x3 x4 x5 x6 x7 x8 x9 x10 x11 x12 x13 x14 x15:Int) (b:Bool) (p:El):St:=⟨[(1,.ptr (1,1,0) 0),(2,.ptr (1,2,0) 0),(3,.ptr (1,3,0) 0),(4,.int .i64 0)],[hA A,hZ,((1,3,0),bx [.int .u8 n,.int .u32 x0,.int .u32 x1,.int .u32 x2,.int .u32 x3,.int .u32 x4,.int .u32 x5,.int .u32 x6,.int .u32 x7,.int .u32 x8,.int .u32 x9,.int .u32 x10,.int .u32 x11,.int .u32 x12,.int .u32 x13,.int .u32 x14,.int .u32 x15,.bool b,.int .u8 p.c,.bool p.k,.int .u32 p.n,.sl p.fb (bs p.b) p.cb,.sl p.fs (El.avs p.s) p.cs,.sl true [] (some 0),.int .i64 0])]⟩
abbrev SR (A:List AV) (n x0 x1 x2 x3 x4 x5 x6 x7 x8 x9 x10 x11 x12 x13 x14 x15:Int) (b:Bool) (p:El) (i g:Nat) (ys:List Int):St:=⟨[(1,.ptr (1,1,0) 0),(2,.ptr (1,2,0) 0),(3,.ptr (1,3,0) 0),(4,.int .i64 (i:Int))],[hA A,hZ,((1,3,0),bx [.int .u8 n,.int .u32 x0,.int .u32 x1,.int .u32 x2,.int .u32 x3,.int .u32 x4,.int .u32 x5,.int .u32 x6,.int .u32 x7,.int .u32 x8,.int .u32 x9,.int .u32 x10,.int .u32 x11,.int .u32 x12,.int .u32 x13,.int .u32 x14,.int .u32 x15,.bool b,.int .u8 p.c,.bool p.k,.int .u32 p.n,.sl p.fb (bs p.b) p.cb,.sl p.fs (El.avs p.s) p.cs,.ref (1,29,g) 0 ys.length none,.int .i64 0]),((1,29,g),⟨bs ys,true,true,false,1,false⟩)]⟩
section
variable (q k1:Nat) (k:Int) (fp:Bool) (ps:List Int) (cp:Option Nat) (fb:Bool) (l:List Int) (cb:Option Nat) (un:Int) (n x0 x1 x2 x3 x4 x5 x6 x7 x8 x9 x10 x11 x12 x13 x14 x15:Int) (b':Bool) (p:El)
theorem go0 (x:Int) (r:List Int) (hl:l=x :: r):rnd fn30 b q k1 (S0 (A9.ac k fp ps cp fb l cb un) n x0 x1 x2 x3 x4 x5 x6 x7 x8 x9 x10 x11 x12 x13 x14 x15 b' p)=some (.normal,SR (A9.ac k fp ps cp fb l cb un) n x0 x1 x2 x3 x4 x5 x6 x7 x8 x9 x10 x11 x12 x13 x14 x15 b' p 1 0 [x]):=by
  subst hl
  have ix:=E40.byte_at fb cb (x :: r) 0 x rfl
  have pl:=El.avs_pure p.s
  have kk:=El.avs_keys p.s
  rw [bs_cons] at ix
  replace ix:∀ hp,indexAddrA E 26 (.sl fb (.int .u8 x :: bs r) cb) (.int .i64 0) hp=some (.pel [.int .u8 x]):=ix
  simp [b,lp,lps,c30,↓s_seq,↓s_reg,↓s_regd,↓s_cond,↓s_block,↓s_cons,↓s_consG,s_nil,firstReg,s_gt,s_wb,s_val,s_skip,s_rgx,s_sqn,s_cdb,s_bkn,s_skip',s_clean,o_tmp,o_int,l_hit,l_miss,ol_nil,ol_cons,ol_some,x_move,x_assign,x_pick,pk_t,x_bin,bn_s,x_callB,binA,intOp,keepT,x_buildSlice,bsx,x_load,ldx,x_store,stx,x_fieldAddr,x_indexAddr,iax,newK,genOf,setK,lookK,fillA,writeL,writeC,readC,conts,TyI.mk1,fieldAddrA,appendA,copyA,builtinA,AV.cells,gcH,reach,keysT,keepK,inKs,AV.keys,AV.keysL,Ty.isAgg,w_i64,sc_int,sc_ref,bs_length,bs_cons,bs_nil,ix]
theorem goR (x:Int) (i g:Nat) (ys:List Int) (hx:l[i]? = some x) (i20:i < 20) (ly:ys.length=i) (i0:0 < i):rnd fn30 b q k1 (SR (A9.ac k fp ps cp fb l cb un) n x0 x1 x2 x3 x4 x5 x6 x7 x8 x9 x10 x11 x12 x13 x14 x15 b' p i g ys)=some (.normal,SR (A9.ac k fp ps cp fb l cb un) n x0 x1 x2 x3 x4 x5 x6 x7 x8 x9 x10 x11 x12 x13 x14 x15 b' p (i + 1) (g + 1) (ys ++ [x])):=by
  have hi:i < l.length:=(List.getElem?_eq_some_iff.1 hx).1
  have hi':(i:Int) < l.length:=by omega
  have hi20:(i:Int) < 20:=by omega
  have w:=w64' ((i:Int) + 1) (by omega) (by omega)
  have ix:=E40.byte_at fb cb l i x hx
  have pl:=El.avs_pure p.s
  have kk:=El.avs_keys p.s
  have cp:ys.length + 1 ≤ 70368744177664:=by omega
  have ky:AV.keysL (bs ys ++ [AV.int .u8 x])=[]:=by rw [show bs ys ++ [AV.int .u8 x]=bs (ys ++ [x]) from by rw [bs_append]; rfl]; exact bs_kl _
  have ba:bs (ys ++ [x])=bs ys ++ [AV.int .u8 x]:=by rw [bs_append]; rfl
  simp [b,lp,lps,c30,↓s_seq,↓s_reg,↓s_regd,↓s_cond,↓s_block,↓s_cons,↓s_consG,s_nil,firstReg,s_gt,s_wb,s_val,s_skip,s_rgx,s_sqn,s_cdb,s_bkn,s_skip',s_clean,o_tmp,o_int,l_hit,l_miss,ol_nil,ol_cons,ol_some,x_move,x_assign,x_pick,pk_t,x_bin,bn_s,x_callB,binA,intOp,keepT,x_buildSlice,bsx,x_load,ldx,x_store,stx,x_fieldAddr,x_indexAddr,iax,newK,genOf,setK,lookK,fillA,writeL,writeC,readC,conts,TyI.mk1,fieldAddrA,appendA,copyA,builtinA,AV.cells,gcH,reach,keysT,keepK,inKs,AV.keys,AV.keysL,Ty.isAgg,sc_int,sc_ref,bs_kl,bs_length,ix,hi',hi20,w,cp,ky,ba]
theorem last0 (hl:l=[]):rnd fn30 b q k1 (S0 (A9.ac k fp ps cp fb l cb un) n x0 x1 x2 x3 x4 x5 x6 x7 x8 x9 x10 x11 x12 x13 x14 x15 b' p)=some (.exit 0,⟨(S0 (A9.ac k fp ps cp fb l cb un) n x0 x1 x2 x3 x4 x5 x6 x7 x8 x9 x10 x11 x12 x13 x14 x15 b' p).t ++ [(18,.bool false)],(S0 (A9.ac k fp ps cp fb l cb un) n x0 x1 x2 x3 x4 x5 x6 x7 x8 x9 x10 x11 x12 x13 x14 x15 b' p).h⟩):=by
  subst hl
  have pl:=El.avs_pure p.s
  have kk:=El.avs_keys p.s
  simp [b,lp,lps,c30,↓s_seq,↓s_reg,↓s_cond,↓s_cons,↓s_consG,s_nil,firstReg,s_gf,s_wb,s_val,s_rgx,s_sqn,s_sqe,s_cdb,s_exit,s_clean,o_tmp,o_int,o_bool,l_hit,l_miss,ol_nil,ol_cons,ol_some,x_move,x_pick,pk_f,x_bin,bn_s,x_callB,binA,intOp,keepT,x_load,ldx,x_fieldAddr,newK,genOf,setK,lookK,writeL,writeC,readC,conts,TyI.mk1,fieldAddrA,appendA,copyA,builtinA,AV.cells,gcH,reach,keysT,keepK,inKs,AV.keys,AV.keysL,Ty.isAgg,bs_nil]
theorem lastR (i g:Nat) (ys:List Int) (hi:i=min 20 l.length):rnd fn30 b q k1 (SR (A9.ac k fp ps cp fb l cb un) n x0 x1 x2 x3 x4 x5 x6 x7 x8 x9 x10 x11 x12 x13 x14 x15 b' p i g ys)=some (.exit 0,⟨(SR (A9.ac k fp ps cp fb l cb un) n x0 x1 x2 x3 x4 x5 x6 x7 x8 x9 x10 x11 x12 x13 x14 x15 b' p i g ys).t ++ [(18,.bool false)],(SR (A9.ac k fp ps cp fb l cb un) n x0 x1 x2 x3 x4 x5 x6 x7 x8 x9 x10 x11 x12 x13 x14 x15 b' p i g ys).h⟩):=by
  have pl:=El.avs_pure p.s
  have kk:=El.avs_keys p.s
  have ky:=bs_kl ys
  by_cases h:i < l.length
  · have h1:i=20:=by omega
    subst h1
    have h':(20:Int) < l.length:=by omega
    simp [b,lp,lps,c30,↓s_seq,↓s_reg,↓s_cond,↓s_cons,↓s_consG,s_nil,firstReg,s_gt,s_wb,s_val,s_rgx,s_sqn,s_sqe,s_cdb,s_exit,s_clean,o_tmp,o_int,l_hit,l_miss,ol_nil,ol_cons,ol_some,x_move,x_pick,pk_t,x_bin,bn_s,x_callB,binA,intOp,keepT,x_load,ldx,x_fieldAddr,newK,genOf,setK,lookK,writeL,writeC,readC,conts,TyI.mk1,fieldAddrA,appendA,copyA,builtinA,AV.cells,gcH,reach,keysT,keepK,inKs,AV.keys,AV.keysL,Ty.isAgg,bs_length,ky,h']
  · have h':¬ (i:Int) < l.length:=by omega
    simp [b,lp,lps,c30,↓s_seq,↓s_reg,↓s_cond,↓s_cons,↓s_consG,s_nil,firstReg,s_gf,s_wb,s_val,s_rgx,s_sqn,s_sqe,s_cdb,s_exit,s_clean,o_tmp,o_int,o_bool,l_hit,l_miss,ol_nil,ol_cons,ol_some,x_move,x_pick,pk_f,x_bin,bn_s,x_callB,binA,intOp,keepT,x_load,ldx,x_fieldAddr,newK,genOf,setK,lookK,writeL,writeC,readC,conts,TyI.mk1,fieldAddrA,appendA,copyA,builtinA,AV.cells,gcH,reach,keysT,keepK,inKs,AV.keys,AV.keysL,Ty.isAgg,bs_length,ky,h']
end
abbrev Lp (K:Nat):=aLoop (aCode E (aCall E K) (dcall (aRun E K)) K 1 fn30 b) (cleanS 1 ((firstReg b).bind fn30.head))
theorem loop (K:Nat) (k:Int) (fp:Bool) (ps:List Int) (cp:Option Nat) (fb:Bool) (l:List Int) (cb:Option Nat) (un:Int) (n x0 x1 x2 x3 x4 x5 x6 x7 x8 x9 x10 x11 x12 x13 x14 x15:Int) (b':Bool) (p:El):∀ (m i g kk:Nat) (ys:List Int),i + m=min 20 l.length → ys.length=i → 0 < i → m < kk →
    ∃ g',Lp K kk (SR (A9.ac k fp ps cp fb l cb un) n x0 x1 x2 x3 x4 x5 x6 x7 x8 x9 x10 x11 x12 x13 x14 x15 b' p i g ys)=some (.exit 0,⟨(SR (A9.ac k fp ps cp fb l cb un) n x0 x1 x2 x3 x4 x5 x6 x7 x8 x9 x10 x11 x12 x13 x14 x15 b' p (min 20 l.length) g' (ys ++ (l.drop i).take m)).t ++ [(18,.bool false)],(SR (A9.ac k fp ps cp fb l cb un) n x0 x1 x2 x3 x4 x5 x6 x7 x8 x9 x10 x11 x12 x13 x14 x15 b' p (min 20 l.length) g' (ys ++ (l.drop i).take m)).h⟩)
  | 0,i,g,kk,ys,h,hy,h0,hk => by
    obtain ⟨kk,rfl⟩:∃ j,kk=j + 1:=⟨kk - 1,by omega⟩
    obtain rfl:i=min 20 l.length:=by omega
    refine ⟨g,?_⟩
    rw [List.take_zero,List.append_nil]
    exact aLoop_end (lastR K K k fp ps cp fb l cb un n x0 x1 x2 x3 x4 x5 x6 x7 x8 x9 x10 x11 x12 x13 x14 x15 b' p _ g ys rfl) (fun h => by cases h)
  | m + 1,i,g,kk,ys,h,hy,h0,hk => by
    obtain ⟨kk,rfl⟩:∃ j,kk=j + 1:=⟨kk - 1,by omega⟩
    have hi:i < l.length:=by omega
    have hx:l[i]? = some l[i]:=List.getElem?_eq_getElem hi
    have st:=goR K K k fp ps cp fb l cb un n x0 x1 x2 x3 x4 x5 x6 x7 x8 x9 x10 x11 x12 x13 x14 x15 b' p l[i] i g ys hx (by omega) hy h0
    obtain ⟨g',L⟩:=loop K k fp ps cp fb l cb un n x0 x1 x2 x3 x4 x5 x6 x7 x8 x9 x10 x11 x12 x13 x14 x15 b' p m (i + 1) (g + 1) kk (ys ++ [l[i]]) (by omega) (by simp; omega) (by omega) (by omega)
    refine ⟨g',?_⟩
    unfold Lp at L ⊢
    rw [aLoop_succ st,L,List.drop_eq_getElem_cons hi,List.take_succ_cons,List.append_assoc]
    rfl
def kb (l:List Int) (un:Int):List Int:=(l.take 20).set ((l.take 20).length - 1) (((l.take 20).getLastD 0) / 2 ^ (un % 8).toNat * 2 ^ (un % 8).toNat)
def km (l:List Int) (un:Int):Int:=if l=[] then 0 else 8 * (((l.take 20).length:Nat):Int) - un % 8
end A10
end
section
open Ab Go TabE Sp E34 F1 Rw F4 F5 F6 F7 F8 F43 F47 AP A1 A2 A6 A7 A9 A10 K3
namespace A11
theorem key0 (k:Int) (fp ps cp fb cb) (un:Int) (n x0 x1 x2 x3 x4 x5 x6 x7 x8 x9 x10 x11 x12 x13 x14 x15:Int) (b':Bool) (p:El) (O:∀ h,aCall E 600 0 29 [.agg (A9.ac k fp ps cp fb [] cb un)] h=some (.ret (ag n x0 x1 x2 x3 x4 x5 x6 x7 x8 x9 x10 x11 x12 x13 x14 x15 b' p),h)):Con E 601 30 [.agg (A9.ac k fp ps cp fb [] cb un)] (kg n x0 x1 x2 x3 x4 x5 x6 x7 x8 x9 x10 x11 x12 x13 x14 x15 b' p true [] (some 0) 0):=by
  have L:A10.Lp 600 600 (A10.S0 (A9.ac k fp ps cp fb [] cb un) n x0 x1 x2 x3 x4 x5 x6 x7 x8 x9 x10 x11 x12 x13 x14 x15 b' p)=_:=aLoop_end (k:=599) (A10.last0 600 600 k fp ps cp fb [] cb un n x0 x1 x2 x3 x4 x5 x6 x7 x8 x9 x10 x11 x12 x13 x14 x15 b' p rfl) (fun h => by cases h)
  have pl:=El.avs_pure p.s
  have kk:=El.avs_keys p.s
  refine con_of E_fn30 (by simp [AV.pureL,AV.pure]) (Nat.le_of_ble_eq_true rfl) rfl rfl (g:=[]) ?_
  rw [body_30,c30]
  simp [A10.Lp,A10.b,lp,lps,c30,firstReg,A10.S0,hA,hZ,bx] at L
  simp only [A9.ac,bs_nil] at O
  simp [↓s_seq,↓s_reg,↓s_cond,↓s_block,↓s_cons,s_nil,s_loop,firstReg,s_val,s_skip,s_calls,s_cax,s_ret,s_rgx,s_sqn,s_cdb,s_bke,s_ret',s_skip',s_finr,s_fin1,s_fix,s_clean,o_tmp,o_int,l_hit,l_miss,ol_nil,ol_cons,ol_some,x_assign,x_bin,bn_s,x_callF,cl_no,x_callB,frame0,binA,intOp,resL,resA,results1,sealLW,AV.pure,AV.pureL,keepT,x_alloc,x_box,bxx,x_build,bdx,x_load,ldx,x_store,stx,x_fieldAddr,newK,genOf,setK,lookK,fillA,writeL,writeC,readC,conts,TyI.mk1,fieldAddrA,appendA,copyA,builtinA,AV.cells,gcH,reach,keysT,keepK,inKs,AV.keys,AV.keysL,Ty.isAgg,w_i64,sc_int,sc_bool,sc_sl,sl_agg,bs_nil,L,O]
theorem keyR (k:Int) (fp ps cp fb) (l:List Int) (cb) (un:Int) (n x0 x1 x2 x3 x4 x5 x6 x7 x8 x9 x10 x11 x12 x13 x14 x15:Int) (b':Bool) (p:El) (hl:l ≠ []) (hb:isB l) (u0:0 ≤ un) (u1:un < 256) (O:∀ h,aCall E 600 0 29 [.agg (A9.ac k fp ps cp fb l cb un)] h=some (.ret (ag n x0 x1 x2 x3 x4 x5 x6 x7 x8 x9 x10 x11 x12 x13 x14 x15 b' p),h)):Con E 601 30 [.agg (A9.ac k fp ps cp fb l cb un)] (kg n x0 x1 x2 x3 x4 x5 x6 x7 x8 x9 x10 x11 x12 x13 x14 x15 b' p false (kb l un) none (km l un)):=by
  obtain ⟨x,r,rfl⟩:∃ x r,l=x :: r:=by
    cases l with
    | nil => exact absurd rfl hl
    | cons x r => exact ⟨x,r,rfl⟩
  have st:=A10.go0 600 600 k fp ps cp fb (x :: r) cb un n x0 x1 x2 x3 x4 x5 x6 x7 x8 x9 x10 x11 x12 x13 x14 x15 b' p x r rfl
  obtain ⟨g,L1⟩:=A10.loop 600 k fp ps cp fb (x :: r) cb un n x0 x1 x2 x3 x4 x5 x6 x7 x8 x9 x10 x11 x12 x13 x14 x15 b' p (min 20 (x :: r).length - 1) 1 0 599 [x] (by simp; omega) rfl (by omega) (by omega)
  have e1:[x] ++ ((x :: r).drop 1).take (min 20 (x :: r).length - 1)=(x :: r).take 20:=by
    rw [List.drop_succ_cons,List.drop_zero,List.take_succ_cons,List.singleton_append]
    congr 1
    rw [List.take_eq_take_iff]
    simp
    omega
  rw [e1] at L1
  have L:=L1
  have eL:A10.Lp 600 600 (A10.S0 (A9.ac k fp ps cp fb (x :: r) cb un) n x0 x1 x2 x3 x4 x5 x6 x7 x8 x9 x10 x11 x12 x13 x14 x15 b' p)=A10.Lp 600 599 (A10.SR (A9.ac k fp ps cp fb (x :: r) cb un) n x0 x1 x2 x3 x4 x5 x6 x7 x8 x9 x10 x11 x12 x13 x14 x15 b' p 1 0 [x]):=by
    unfold A10.Lp
    exact aLoop_succ (k:=599) st
  rw [← eL] at L
  have ly:((x :: r).take 20).length=min 20 (x :: r).length:=by rw [List.length_take]
  have yB:isB ((x :: r).take 20):=fun y hy => hb y (List.mem_of_mem_take hy)
  unfold kb km
  rw [if_neg hl]
  rw [← ly] at L
  have yn:(x :: r).take 20 ≠ []:=by simp
  clear e1 L1 st eL
  obtain ⟨ys,hys⟩:∃ ys,(x :: r).take 20=ys:=⟨_,rfl⟩
  rw [hys] at L ly yB yn ⊢
  have lp0:=List.length_pos_iff.2 yn
  have l20:ys.length ≤ 20:=by omega
  obtain ⟨z,hz⟩:∃ z,ys[ys.length - 1]? = some z:=⟨ys[ys.length - 1]'(by omega),List.getElem?_eq_getElem _⟩
  have gz:ys.getLastD 0=z:=by rw [List.getLastD_eq_getLast?,List.getLast?_eq_getElem?,hz]; rfl
  rw [gz]
  obtain ⟨z0,z1⟩:=yB z (List.mem_of_getElem? hz)
  have t1:un.tmod 8=un % 8:=Int.tmod_eq_emod_of_nonneg u0
  obtain ⟨n,hn⟩:∃ n,un % 8=n:=⟨_,rfl⟩
  rw [hn] at t1 ⊢
  have n07:n=0 ∨ n=1 ∨ n=2 ∨ n=3 ∨ n=4 ∨ n=5 ∨ n=6 ∨ n=7:=by omega
  have w1:=w64' (8 * (ys.length:Int)) (by omega) (by omega)
  have w2:=w64' ((ys.length:Int) - 1) (by omega) (by omega)
  have w3:=w64' (8 * (ys.length:Int) - n) (by omega) (by omega)
  have w4:=w64' n (by omega) (by omega)
  have e1:((ys.length:Int) - 1)=((ys.length - 1:Nat):Int):=by omega
  have ia:∀ h,indexAddrA E 26 (.ref (1,29,g) 0 ys.length none) (.int .i64 ((ys.length:Int) - 1)) h=some (.ptr (1,29,g) (ys.length - 1)):=fun h => by
    have h1:(0:Int) ≤ (ys.length:Int) - 1:=by omega
    have h2:(ys.length:Int) - 1 < ys.length:=by omega
    have h3:((ys.length:Int) - 1).toNat=ys.length - 1:=by omega
    simp [indexAddrA,E_ty26,E_ty5,h2,h3]
    omega
  have rc:((bs ys).drop (ys.length - 1)).take 1=[.int .u8 z]:=by
    have e:(bs ys)[ys.length - 1]? = some (.int .u8 z):=by rw [bs_get,hz]; rfl
    obtain ⟨q1,q2⟩:=List.getElem?_eq_some_iff.1 e
    rw [List.drop_eq_getElem_cons q1,q2]
    rfl
  have wr:∀ v:Int,(bs ys).take (ys.length - 1) ++ AV.int .u8 v :: (bs ys).drop (ys.length - 1 + 1)=bs (ys.set (ys.length - 1) v):=fun v => by
    unfold bs
    rw [List.map_set,List.set_eq_take_append_cons_drop]
    simp [lp0]
    intro h
    omega
  have lq:ys.length - 1 + 1=ys.length:=by omega
  rw [lq] at wr
  have pl:=El.avs_pure p.s
  have kk:=El.avs_keys p.s
  have ky:=bs_kl ys
  have ky2:=fun v => bs_kl (ys.set (ys.length - 1) v)
  have sl:=fun v => List.length_set (as:=ys) (i:=ys.length - 1) (a:=v)
  refine con_of E_fn30 (by simp [AV.pureL,AV.pure]) (Nat.le_of_ble_eq_true rfl) rfl rfl (g:=[]) ?_
  rw [body_30,c30]
  simp [A10.Lp,A10.b,lp,lps,c30,firstReg,A10.S0,hA,hZ,bx] at L
  simp only [A9.ac,bs_cons] at O
  have f1:¬ ys.length=0:=by omega
  have f2:ys.length - 1 < ys.length:=by omega
  have f3:ys.length - 1 + 1 ≤ ys.length:=by omega
  have f4:0 < (ys.length:Int):=by omega
  rcases n07 with rfl | rfl | rfl | rfl | rfl | rfl | rfl | rfl <;> simp [↓s_seq,↓s_reg,↓s_regd,↓s_cond,↓s_block,↓s_cons,s_nil,s_loop,firstReg,s_val,s_skip,s_calls,s_cax,s_ret,s_rgx,s_sqn,s_cdb,s_bke,s_ret',s_finr,s_fin1,s_fix,s_clean,o_tmp,o_int,l_hit,l_miss,ol_nil,ol_cons,ol_some,x_move,x_assign,x_bin,bn_s,x_callF,cl_no,x_callB,x_conv,cvx,convA,frame0,binA,intOp,resL,resA,results1,sealLW,AV.pure,AV.pureL,keepT,x_alloc,x_box,bxx,x_build,bdx,x_load,ldx,x_store,stx,x_fieldAddr,x_indexAddr,iax,newK,genOf,setK,lookK,fillA,writeL,writeC,readC,conts,TyI.mk1,fieldAddrA,appendA,copyA,builtinA,AV.cells,gcH,reach,keysT,keepK,inKs,AV.keys,AV.keysL,Ty.isAgg,w_u8,w_fdiv,IntKind.bits,sc_int,sc_bool,sc_sl,sc_ref,bs_pure,bs_length,sl_row,sealRow,sealY,sl_int,sl_bool,sl_sl,sl_agg,bs_cons,L,O,ky,ky2,lp0,t1,w1,w2,w3,w4,ia,rc,wr,lq,sl]
  all_goals
    congr 2
    omega
end A11
end
section
open Ab Go
namespace OH
theorem run_len:∀ (bs ds:List Int) (v:Int) (s:Bool) (ds':List Int) (v':Int) (s':Bool),ds.length ≤ 15 → (s=false → ds.length < 15) → run bs ds v s=.inr (ds',v',s') → ds'.length ≤ 15 ∧ (s'=false → ds'.length < 15)
  | [],ds,v,s,ds',v',s',h1,h2,h => by
    simp only [run] at h
    cases h
    exact ⟨h1,h2⟩
  | b :: r,ds,v,s,ds',v',s',h1,h2,h => by
    unfold run step at h
    split at h
    case h_1 => cases h
    rename_i e1 ds1 v1 s1 e2
    split at e2
    · cases e2
    rename_i n1
    split at e2
    · cases e2
    split at e2
    · cases e2
    have hlt:ds.length < 15:=by
      cases s with
      | false => exact h2 rfl
      | true =>
        have:¬ ds.length=15:=fun q => n1 ⟨rfl,q⟩
        omega
    split at e2
    · cases e2
      exact run_len r _ _ _ ds' v' s' (by simp; omega) (fun q => by cases q) h
    · cases e2
      exact run_len r ds _ _ ds' v' s' h1 (fun _ => hlt) h
theorem arcs_len (ds:List Int) (h:ds.length ≤ 15):(arcs ds).length=16:=by
  cases ds with
  | nil => rfl
  | cons d r =>
    unfold arcs
    simp only [List.length_cons] at h
    simp
    omega
theorem get_len (bs:List Int):(get bs).2.1.length=16:=by
  unfold get
  split
  · rfl
  · split
    · rfl
    · rename_i ds v s hr
      split
      · exact arcs_len ds (run_len bs [] 0 true ds v s (by simp) (by simp) hr).1
      · rfl
end OH
namespace OH
theorem run_ne:∀ (bs ds:List Int) (v:Int) (s:Bool) (ds':List Int) (v':Int) (s':Bool),(ds ≠ [] ∨ s=false) → run bs ds v s=.inr (ds',v',s') → ds' ≠ [] ∨ s'=false
  | [],ds,v,s,ds',v',s',h1,h => by
    simp only [run] at h
    cases h
    exact h1
  | b :: r,ds,v,s,ds',v',s',h1,h => by
    unfold run step at h
    split at h
    case h_1 => cases h
    rename_i e1 ds1 v1 s1 e2
    split at e2
    · cases e2
    split at e2
    · cases e2
    split at e2
    · cases e2
    split at e2
    · cases e2
      exact run_ne r _ _ _ ds' v' s' (.inl (by simp)) h
    · cases e2
      exact run_ne r ds _ _ ds' v' s' (.inr rfl) h
theorem run_ne' (bs ds:List Int) (v:Int) (s:Bool) (ds':List Int) (v':Int) (s':Bool) (hb:bs ≠ []) (h:run bs ds v s=.inr (ds',v',s')):ds' ≠ [] ∨ s'=false:=by
  cases bs with
  | nil => exact absurd rfl hb
  | cons b r =>
    unfold run step at h
    split at h
    case h_1 => cases h
    rename_i e1 ds1 v1 s1 e2
    split at e2
    · cases e2
    split at e2
    · cases e2
    split at e2
    · cases e2
    split at e2
    · cases e2
      exact run_ne r _ _ _ ds' v' s' (.inl (by simp)) h
    · cases e2
      exact run_ne r ds _ _ ds' v' s' (.inr rfl) h
end OH
end
section
open Ab Go TabE Sp E40
namespace Q22
def b:Code:=lp c66 0
def u32s (l:List Int):List AV:=l.map (AV.int .u32)
theorem u32s_pure:∀ l:List Int,AV.pureL (u32s l)=true
  | [] => rfl
  | x :: r => by have:=u32s_pure r; simpa [u32s,AV.pureL,AV.pure] using this
theorem u32s_keys (l):AV.keysL (u32s l)=[]:=AV.keysL_pure _ (u32s_pure l)
abbrev zo:List AV:=[.int .u8 0,.int .u32 0,.int .u32 0,.int .u32 0,.int .u32 0,.int .u32 0,.int .u32 0,.int .u32 0,.int .u32 0,.int .u32 0,.int .u32 0,.int .u32 0,.int .u32 0,.int .u32 0,.int .u32 0,.int .u32 0,.int .u32 0]
def oc (ds:List Int):List AV:=u32s (0 :: (ds ++ List.replicate (15 - ds.length) 0))
theorem oc_keys (ds):AV.keysL (oc ds)=[]:=u32s_keys _
theorem oc_len (ds:List Int) (h:ds.length ≤ 15):(oc ds).length=16:=by unfold oc u32s; simp; omega
theorem oc_set (ds:List Int) (v:Int) (h:ds.length < 15):(oc ds).take (ds.length + 1) ++ AV.int .u32 v :: (oc ds).drop (ds.length + 1 + 1)=oc (ds ++ [v]):=by
  unfold oc u32s
  obtain ⟨m,hm⟩:∃ m,15 - ds.length=m + 1:=⟨14 - ds.length,by omega⟩
  have hm2:15 - (ds ++ [v]).length=m:=by simp; omega
  rw [hm,hm2,List.map_cons,List.take_succ_cons,List.drop_succ_cons,List.map_append,List.take_left' (by simp),← List.drop_drop,List.drop_left' (by simp),List.replicate_succ]
  simp
abbrev S (ds:List Int) (v:Int) (s:Bool) (f:Bool) (r:List Int) (c:Option Nat) (i:Nat):St:=⟨[(2,.ptr (1,2,0) 0),(4,.ptr (1,4,0) 0),(5,.int .u64 v),(6,.bool s),(14,.sl f (bs r) c),(15,.int .i64 (r.length:Int)),(16,.int .i64 (i:Int))],[((1,2,0),bx zo),((1,4,0),bx (.int .u8 ((ds.length:Int) + 1) :: oc ds))]⟩
theorem and127 (x:Int) (x0:0 ≤ x) (x1:x < 256):((BitVec.ofInt 8 x &&& 127#8).toNat:Int)=x % 128:=by
  have:∀ n:Fin 256,((BitVec.ofInt 8 (n.val:Int) &&& 127#8).toNat:Int)=(n.val:Int) % 128:=by decide +kernel
  obtain ⟨n,rfl⟩:=Int.eq_ofNat_of_zero_le x0
  exact this ⟨n,by omega⟩
theorem or7 (a y:Int) (a0:0 ≤ a) (a1:a ≤ 4294967295) (y0:0 ≤ y) (y1:y < 128):((BitVec.ofInt 64 (a * 128) ||| BitVec.ofInt 64 y).toNat:Int)=128 * a + y:=by
  obtain ⟨m,rfl⟩:=Int.eq_ofNat_of_zero_le a0
  obtain ⟨k,rfl⟩:=Int.eq_ofNat_of_zero_le y0
  have e1:BitVec.ofInt 64 ((m:Int) * 128)=BitVec.ofNat 64 (2 ^ 7 * m):=by
    rw [show ((m:Int) * 128)=((2 ^ 7 * m:Nat):Int) from by simp; omega]
    exact BitVec.ofInt_natCast ..
  have e2:BitVec.ofInt 64 (k:Int)=BitVec.ofNat 64 k:=BitVec.ofInt_natCast ..
  rw [e1,e2,BitVec.toNat_or,BitVec.toNat_ofNat,BitVec.toNat_ofNat,Nat.mod_eq_of_lt (by omega),Nat.mod_eq_of_lt (by omega),← Nat.two_pow_add_eq_or_of_lt (by omega)]
  omega
theorem g1 (x:Int) (x0:0 ≤ x) (x1:x < 256):intOp .and .u8 x 127=some (.int .u8 (x % 128)):=by
  show some (AV.int .u8 (IntKind.u8.wrap (((BitVec.ofInt 8 x &&& 127#8).toNat:Nat):Int)))=_
  rw [and127 x x0 x1]
  simp [w_u8]
  omega
theorem g2 (v y:Int) (v0:0 ≤ v) (v1:v ≤ 4294967295) (y0:0 ≤ y) (y1:y < 128):intOp .or .u64 (v * 128) y=some (.int .u64 (128 * v + y)):=by
  show some (AV.int .u64 (IntKind.u64.wrap (((BitVec.ofInt 64 (v * 128) ||| BitVec.ofInt 64 y).toNat:Nat):Int)))=_
  rw [or7 v y v0 v1 y0 y1]
  simp [w_u64]
  omega
abbrev Err (w:Int):Option (AExit × St):=some (.ret,⟨[(2,.ptr (1,2,0) 0),(3,.int .i64 w)],[((1,2,0),bx zo)]⟩)
theorem hi_ (q k1:Nat) (ds:List Int) (v:Int) (f:Bool) (c:Option Nat) (r:List Int) (x:Int) (i:Nat) (hx:r[i]? = some x) (hl:r.length ≤ 1000) (x0:0 ≤ x) (x1:x < 256) (v0:0 ≤ v) (v1:v ≤ 4294967295) (hd:ds.length ≤ 15) (s:Bool) (n1:s=true → ds.length < 15) (n2:s=true → ¬ x=128) (n3:¬ 4294967295 < 128 * v + x % 128) (n4:¬ x < 128) :
    rnd fn66 b q k1 (S ds v s f r c i)=some (.normal,S ds (128 * v + x % 128) false f r c (i + 1)):=by
  have hi:i < r.length:=(List.getElem?_eq_some_iff.1 hx).1
  have ix:=byte_at f c r i x hx
  have w:=w64' ((i:Int) + 1) (by omega) (by omega)
  have h1:=g1 x x0 x1
  have h2:=g2 v (x % 128) v0 v1 (by omega) (by omega)
  have h3:x % 128 % 18446744073709551616=x % 128:=by omega
  have h4:v * 128 % 18446744073709551616=v * 128:=by omega
  have h5:(128 * v + x % 128) % 18446744073709551616=128 * v + x % 128:=by omega
  have ok:=oc_keys ds
  cases s with
  | false => simp [b,lp,lps,c66,↓s_seq,↓s_reg,↓s_cond,↓s_block,↓s_cons,↓s_consG,s_nil,firstReg,s_gf,s_wb,s_val,s_rgx,s_sqn,s_cdb,s_bkn,s_skip',s_clean,o_tmp,o_int,o_bool,l_hit,l_miss,x_move,x_assign,x_pick,pk_f,x_bin,bn_s,x_conv,cvx,convA,binA,intOp,keepT,x_load,ldx,x_fieldAddr,x_indexAddr,iax,lookK,readC,conts,TyI.mk1,fieldAddrA,gcH,reach,keysT,keepK,inKs,AV.keys,AV.keysL,Ty.isAgg,w_u64,IntKind.bits,-intOp,ix,w,hi,h1,h2,h3,h4,n3,n4,ok]
  | true =>
    have m1:¬ (ds.length:Int) + 1=16:=by have:=n1 rfl; omega
    have m2:¬ x=128:=n2 rfl
    simp [b,lp,lps,c66,↓s_seq,↓s_reg,↓s_cond,↓s_block,↓s_cons,↓s_consG,s_nil,firstReg,s_gt,s_wb,s_val,s_rgx,s_sqn,s_cdb,s_bkn,s_skip',s_clean,o_tmp,o_int,l_hit,l_miss,x_move,x_assign,x_pick,pk_t,x_bin,bn_s,x_conv,cvx,convA,binA,intOp,keepT,x_load,ldx,x_fieldAddr,x_indexAddr,iax,lookK,readC,conts,TyI.mk1,fieldAddrA,gcH,reach,keysT,keepK,inKs,AV.keys,AV.keysL,Ty.isAgg,w_u64,IntKind.bits,i_beq,-intOp,ix,w,hi,h1,h2,h3,h4,n3,n4,ok,m1,m2]
theorem low (q k1:Nat) (ds:List Int) (v:Int) (f:Bool) (c:Option Nat) (r:List Int) (x:Int) (i:Nat) (hx:r[i]? = some x) (hl:r.length ≤ 1000) (x0:0 ≤ x) (x1:x < 256) (v0:0 ≤ v) (v1:v ≤ 4294967295) (hd:ds.length ≤ 15) (s:Bool) (n1:s=true → ds.length < 15) (n1':ds.length < 15) (n2:s=true → ¬ x=128) (n3:¬ 4294967295 < 128 * v + x % 128) (n4:x < 128) :
    rnd fn66 b q k1 (S ds v s f r c i)=some (.normal,S (ds ++ [128 * v + x % 128]) 0 true f r c (i + 1)):=by
  have hi:i < r.length:=(List.getElem?_eq_some_iff.1 hx).1
  have ix:=byte_at f c r i x hx
  have w:=w64' ((i:Int) + 1) (by omega) (by omega)
  have h1:=g1 x x0 x1
  have h2:=g2 v (x % 128) v0 v1 (by omega) (by omega)
  have h3:x % 128 % 18446744073709551616=x % 128:=by omega
  have h4:v * 128 % 18446744073709551616=v * 128:=by omega
  have h5:(128 * v + x % 128) % 18446744073709551616=128 * v + x % 128:=by omega
  have h6:(128 * v + x % 128) % 4294967296=128 * v + x % 128:=by omega
  have h7:((ds.length:Int) + 1 + 1) % 256=(ds.length:Int) + 1 + 1:=by omega
  have ok:=oc_keys ds
  have ok2:=oc_keys (ds ++ [128 * v + x % 128])
  have ol:=oc_len ds hd
  have os:=oc_set ds (128 * v + x % 128) n1'
  have ia:∀ h,indexAddrA E 33 (.ptr (1,4,0) 1) (.int .u8 ((ds.length:Int) + 1)) h=some (.ptr (1,4,0) (ds.length + 1 + 1)):=fun h => by
    have e:(ds.length:Int) + 1 < 16:=by omega
    have e2:0 ≤ (ds.length:Int) + 1:=by omega
    have e3:((ds.length:Int) + 1).toNat=ds.length + 1:=by omega
    simp [indexAddrA,E_ty33,E_ty23,e,e2,e3]
    omega
  have l1:ds.length + 1 < 16:=by omega
  have l2:ds.length + 1 ≤ 16:=by omega
  have l3:ds.length ≤ 14:=by omega
  have l4:ds.length < 15:=by omega
  cases s with
  | false => simp [b,lp,lps,c66,↓s_seq,↓s_reg,↓s_cond,↓s_block,↓s_cons,↓s_consG,s_nil,firstReg,s_gf,s_wb,s_val,s_skip,s_rgx,s_sqn,s_cdb,s_bkn,s_skip',s_clean,o_tmp,o_int,o_bool,l_hit,l_miss,x_move,x_assign,x_pick,pk_f,x_bin,bn_s,x_conv,cvx,convA,binA,intOp,keepT,x_load,ldx,x_store,stx,x_fieldAddr,x_indexAddr,iax,setK,lookK,writeL,writeC,readC,conts,TyI.mk1,fieldAddrA,AV.cells,gcH,reach,keysT,keepK,inKs,AV.keys,AV.keysL,Ty.isAgg,w_u8,w_u32,w_u64,IntKind.bits,sc_int,-intOp,ix,ia,w,hi,h1,h2,h3,h4,h6,h7,n3,n4,ok,ok2,ol,os,l3]
  | true =>
    have m1:¬ (ds.length:Int) + 1=16:=by have:=n1 rfl; omega
    have m2:¬ x=128:=n2 rfl
    simp [b,lp,lps,c66,↓s_seq,↓s_reg,↓s_cond,↓s_block,↓s_cons,↓s_consG,s_nil,firstReg,s_gt,s_wb,s_val,s_skip,s_rgx,s_sqn,s_cdb,s_bkn,s_skip',s_clean,o_tmp,o_int,l_hit,l_miss,x_move,x_assign,x_pick,pk_t,x_bin,bn_s,x_conv,cvx,convA,binA,intOp,keepT,x_load,ldx,x_store,stx,x_fieldAddr,x_indexAddr,iax,setK,lookK,writeL,writeC,readC,conts,TyI.mk1,fieldAddrA,AV.cells,gcH,reach,keysT,keepK,inKs,AV.keys,AV.keysL,Ty.isAgg,w_u8,w_u32,w_u64,IntKind.bits,sc_int,i_beq,-intOp,ix,ia,w,hi,h1,h2,h3,h4,h6,h7,n3,n4,ok,ok2,ol,os,m1,m2,l3]
theorem e1 (q k1:Nat) (ds:List Int) (v:Int) (f:Bool) (c:Option Nat) (r:List Int) (x:Int) (i:Nat) (hx:r[i]? = some x) (hl:r.length ≤ 1000) (x0:0 ≤ x) (x1:x < 256) (v0:0 ≤ v) (v1:v ≤ 4294967295) (hd:ds.length ≤ 15) (n1:ds.length=15):rnd fn66 b q k1 (S ds v true f r c i)=Err 3:=by
  have hi:i < r.length:=(List.getElem?_eq_some_iff.1 hx).1
  have ix:=byte_at f c r i x hx
  have ok:=oc_keys ds
  simp [b,lp,lps,c66,↓s_seq,↓s_reg,↓s_cond,↓s_block,↓s_cons,↓s_consG,s_nil,firstReg,s_gt,s_wb,s_val,s_skip,s_rgx,s_sqn,s_sqr,s_cdb,s_bkr,s_ret',s_skip',s_clean,o_tmp,o_int,l_hit,l_miss,ol_nil,x_move,x_assign,x_pick,pk_t,x_bin,bn_s,binA,intOp,keepT,x_build,bdx,x_load,ldx,x_store,stx,x_fieldAddr,x_indexAddr,iax,setK,lookK,fillA,writeL,writeC,readC,TyI.mk1,fieldAddrA,AV.cells,gcH,reach,keysT,keepK,inKs,AV.keys,AV.keysL,Ty.isAgg,sc_int,ix,hi,ok,n1]
theorem e2 (q k1:Nat) (ds:List Int) (v:Int) (f:Bool) (c:Option Nat) (r:List Int) (x:Int) (i:Nat) (hx:r[i]? = some x) (hl:r.length ≤ 1000) (x0:0 ≤ x) (x1:x < 256) (v0:0 ≤ v) (v1:v ≤ 4294967295) (hd:ds.length ≤ 15) (n1:ds.length < 15) (n2:x=128):rnd fn66 b q k1 (S ds v true f r c i)=Err 11:=by
  subst n2
  have hi:i < r.length:=(List.getElem?_eq_some_iff.1 hx).1
  have ix:=byte_at f c r i 128 hx
  have ok:=oc_keys ds
  have m1:¬ (ds.length:Int) + 1=16:=by omega
  simp [b,lp,lps,c66,↓s_seq,↓s_reg,↓s_cond,↓s_block,↓s_cons,↓s_consG,s_nil,firstReg,s_gt,s_wb,s_val,s_skip,s_rgx,s_sqn,s_sqr,s_cdb,s_bkr,s_ret',s_skip',s_clean,o_tmp,o_int,l_hit,l_miss,ol_nil,x_move,x_assign,x_pick,pk_t,x_bin,bn_s,binA,intOp,keepT,x_build,bdx,x_load,ldx,x_store,stx,x_fieldAddr,x_indexAddr,iax,setK,lookK,fillA,writeL,writeC,readC,TyI.mk1,fieldAddrA,AV.cells,gcH,reach,keysT,keepK,inKs,AV.keys,AV.keysL,Ty.isAgg,sc_int,i_beq,ix,hi,ok,m1]
theorem e3 (q k1:Nat) (ds:List Int) (v:Int) (f:Bool) (c:Option Nat) (r:List Int) (x:Int) (i:Nat) (hx:r[i]? = some x) (hl:r.length ≤ 1000) (x0:0 ≤ x) (x1:x < 256) (v0:0 ≤ v) (v1:v ≤ 4294967295) (hd:ds.length ≤ 15) (s:Bool) (n1:s=true → ds.length < 15) (n2:s=true → ¬ x=128) (n3:4294967295 < 128 * v + x % 128):rnd fn66 b q k1 (S ds v s f r c i)=Err 3:=by
  have hi:i < r.length:=(List.getElem?_eq_some_iff.1 hx).1
  have ix:=byte_at f c r i x hx
  have h1:=g1 x x0 x1
  have h2:=g2 v (x % 128) v0 v1 (by omega) (by omega)
  have h3:x % 128 % 18446744073709551616=x % 128:=by omega
  have h4:v * 128 % 18446744073709551616=v * 128:=by omega
  have h5:(128 * v + x % 128) % 18446744073709551616=128 * v + x % 128:=by omega
  have ok:=oc_keys ds
  cases s with
  | false => simp [b,lp,lps,c66,↓s_seq,↓s_reg,↓s_cond,↓s_block,↓s_cons,↓s_consG,s_nil,firstReg,s_gf,s_wb,s_val,s_skip,s_rgx,s_sqn,s_sqr,s_cdb,s_bkn,s_bkr,s_ret',s_skip',s_clean,o_tmp,o_int,o_bool,l_hit,l_miss,ol_nil,x_move,x_assign,x_pick,pk_f,x_bin,bn_s,x_conv,cvx,convA,binA,intOp,keepT,x_build,bdx,x_load,ldx,x_store,stx,x_fieldAddr,x_indexAddr,iax,setK,lookK,fillA,writeL,writeC,readC,conts,TyI.mk1,fieldAddrA,AV.cells,gcH,reach,keysT,keepK,inKs,AV.keys,AV.keysL,Ty.isAgg,w_u64,IntKind.bits,sc_int,-intOp,ix,hi,h1,h2,h3,h4,n3,ok]
  | true =>
    have m1:¬ (ds.length:Int) + 1=16:=by have:=n1 rfl; omega
    have m2:¬ x=128:=n2 rfl
    simp [b,lp,lps,c66,↓s_seq,↓s_reg,↓s_cond,↓s_block,↓s_cons,↓s_consG,s_nil,firstReg,s_gt,s_wb,s_val,s_skip,s_rgx,s_sqn,s_sqr,s_cdb,s_bkn,s_bkr,s_ret',s_skip',s_clean,o_tmp,o_int,l_hit,l_miss,ol_nil,x_move,x_assign,x_pick,pk_t,x_bin,bn_s,x_conv,cvx,convA,binA,intOp,keepT,x_build,bdx,x_load,ldx,x_store,stx,x_fieldAddr,x_indexAddr,iax,setK,lookK,fillA,writeL,writeC,readC,conts,TyI.mk1,fieldAddrA,AV.cells,gcH,reach,keysT,keepK,inKs,AV.keys,AV.keysL,Ty.isAgg,w_u64,IntKind.bits,sc_int,i_beq,-intOp,ix,hi,h1,h2,h3,h4,n3,ok,m1,m2]
abbrev Out (ds:List Int) (v:Int) (s:Bool) (f:Bool) (r:List Int) (c:Option Nat):AExit × St:=(.exit 0,⟨(S ds v s f r c r.length).t ++ [(17,.bool false)],(S ds v s f r c r.length).h⟩)
theorem last (q k1:Nat) (ds:List Int) (v:Int) (s:Bool) (f r c):rnd fn66 b q k1 (S ds v s f r c r.length)=some (Out ds v s f r c):=by
  have ok:=oc_keys ds
  simp [b,lp,lps,c66,↓s_seq,↓s_reg,↓s_cond,↓s_cons,s_nil,firstReg,s_val,s_rgx,s_sqn,s_sqe,s_cdb,s_exit,s_clean,o_tmp,l_hit,l_miss,x_bin,bn_s,binA,intOp,keepT,lookK,gcH,reach,keysT,keepK,inKs,AV.keys,AV.keysL,ok]
abbrev Lp (K:Nat):=aLoop (aCode E (aCall E K) (dcall (aRun E K)) K 1 fn66 b) (cleanS 1 ((firstReg b).bind fn66.head))
def En (f:Bool) (r:List Int) (c:Option Nat):Int ⊕ (List Int × Int × Bool) → AExit × St
  | .inl e => (.ret,⟨[(2,.ptr (1,2,0) 0),(3,.int .i64 e)],[((1,2,0),bx zo)]⟩)
  | .inr (ds,v,s) => Out ds v s f r c
theorem loop (K:Nat) (f:Bool) (r:List Int) (c:Option Nat) (hb:∀ y ∈ r,0 ≤ y ∧ y < 256) (hl:r.length ≤ 1000):∀ (t ds:List Int) (v:Int) (s:Bool) (i k:Nat),r.drop i=t → i ≤ r.length → ds.length ≤ 15 → (s=false → ds.length < 15) → 0 ≤ v → v ≤ 4294967295 → t.length < k →
    Lp K k (S ds v s f r c i)=some (En f r c (OH.run t ds v s))
  | [],ds,v,s,i,k,h1,hi,hd,hd2,v0,v1,hk => by
    obtain ⟨k,rfl⟩:∃ j,k=j + 1:=⟨k - 1,by omega⟩
    have q:=congrArg List.length h1
    rw [List.length_drop,List.length_nil] at q
    obtain rfl:i=r.length:=by omega
    exact aLoop_end (last K K ds v s f r c) (fun h => by cases h)
  | x :: t,ds,v,s,i,k,h1,hi,hd,hd2,v0,v1,hk => by
    obtain ⟨k,rfl⟩:∃ j,k=j + 1:=⟨k - 1,by omega⟩
    have hx:r[i]? = some x:=by
      have:=congrArg (fun l => l[0]?) h1
      simpa [List.getElem?_drop] using this
    have ht:r.drop (i + 1)=t:=by
      have:=congrArg List.tail h1
      simpa [List.tail_drop] using this
    have q:=congrArg List.length h1
    rw [List.length_drop,List.length_cons] at q
    obtain ⟨x0,x1⟩:=hb x (List.mem_of_getElem? hx)
    unfold OH.run OH.step
    by_cases c1:s=true ∧ ds.length=15
    · rw [if_pos c1]
      obtain ⟨rfl,c1⟩:=c1
      exact aLoop_end (e1 K K ds v f c r x i hx hl x0 x1 v0 v1 hd c1) (fun h => by cases h)
    rw [if_neg c1]
    have n1:s=true → ds.length < 15:=fun h => by
      have:¬ ds.length=15:=fun q => c1 ⟨h,q⟩
      omega
    by_cases c2:s=true ∧ x=128
    · rw [if_pos c2]
      obtain ⟨rfl,c2⟩:=c2
      exact aLoop_end (e2 K K ds v f c r x i hx hl x0 x1 v0 v1 hd (n1 rfl) c2) (fun h => by cases h)
    rw [if_neg c2]
    have n2:s=true → ¬ x=128:=fun h q => c2 ⟨h,q⟩
    have hlt:ds.length < 15:=by
      cases s with
      | false => exact hd2 rfl
      | true => exact n1 rfl
    by_cases c3:4294967295 < 128 * v + x % 128
    · rw [if_pos c3]
      exact aLoop_end (e3 K K ds v f c r x i hx hl x0 x1 v0 v1 hd s n1 n2 c3) (fun h => by cases h)
    rw [if_neg c3]
    unfold Lp
    by_cases c4:x < 128
    · rw [if_pos c4,aLoop_succ (low K K ds v f c r x i hx hl x0 x1 v0 v1 hd s n1 hlt n2 c3 c4)]
      exact loop K f r c hb hl t _ 0 true (i + 1) k ht (by omega) (by simp; omega) (fun h => by cases h) (by omega) (by omega) (by simp at hk; omega)
    · rw [if_neg c4,aLoop_succ (hi_ K K ds v f c r x i hx hl x0 x1 v0 v1 hd s n1 n2 c3 c4)]
      exact loop K f r c hb hl t ds _ false (i + 1) k ht (by omega) hd (fun _ => hlt) (by omega) (by omega) (by simp at hk; omega)
theorem get (f:Bool) (c:Option Nat) (r:List Int) (hb:∀ y ∈ r,0 ≤ y ∧ y < 256) (hl:r.length ≤ 1000):∃ N,Con E N 66 [.sl f (bs r) c] (.tup [.agg (.int .u8 (OH.get r).1 :: u32s (OH.get r).2.1),.int .i64 (OH.get r).2.2]):=by
  by_cases h0:r=[]
  · subst h0
    refine ⟨21,con_of E_fn66 (by simp [AV.pureL,AV.pure]) (Nat.le_of_ble_eq_true rfl) rfl rfl (g:=[]) ?_⟩
    rw [body_66,c66]
    simp [↓s_seq,↓s_reg,↓s_cond,↓s_cons,s_nil,s_val,s_skip,s_rgx,s_sqn,s_sqr,s_cdb,s_ret',s_finr,s_fin1,s_fix,s_clean,o_tmp,o_int,l_hit,l_miss,ol_nil,ol_cons,ol_some,x_move,x_assign,x_bin,bn_s,x_callB,frame0,binA,intOp,resL,resA,results1,AV.pure,AV.pureL,keepT,x_alloc,x_build,bdx,x_store,stx,newK,genOf,setK,lookK,fillA,writeL,writeC,readC,conts,TyI.mk1,appendA,copyA,builtinA,AV.cells,gcH,reach,keysT,keepK,inKs,AV.keys,AV.keysL,Ty.isAgg,sc_int,sl_tup,bs_nil,OH.get,u32s]
  obtain ⟨K,hK⟩:∃ K,r.length + 20=K:=⟨_,rfl⟩
  have L:=loop K f r c hb hl r [] 0 true 0 K rfl (by omega) (by simp) (by simp) (by omega) (by omega) (by omega)
  refine ⟨K + 1,con_of E_fn66 (by simp [AV.pureL,AV.pure]) (Nat.le_of_ble_eq_true rfl) rfl rfl (g:=[]) ?_⟩
  have rp:¬ (r.length:Int)=0:=by have:=List.length_pos_iff.2 h0; omega
  rw [body_66,c66]
  unfold OH.get
  rw [if_neg h0]
  cases hr:OH.run r [] 0 true with
  | inl e =>
    rw [hr] at L
    simp [Lp,b,lp,lps,c66,firstReg,S,bx,oc,u32s,En] at L
    simp [↓s_seq,↓s_reg,↓s_cond,↓s_block,↓s_cons,s_nil,s_loop,firstReg,s_val,s_skip,s_rgx,s_sqn,s_sqr,s_cdb,s_bkr,s_skip',s_finr,s_fin1,s_fix,s_clean,o_tmp,o_int,o_bool,l_hit,l_miss,ol_nil,ol_cons,ol_some,x_move,x_assign,x_bin,bn_s,x_callB,frame0,binA,intOp,resL,resA,results1,AV.pure,AV.pureL,keepT,x_alloc,x_build,bdx,x_store,stx,newK,genOf,setK,lookK,fillA,writeL,writeC,readC,conts,TyI.mk1,appendA,copyA,builtinA,AV.cells,gcH,reach,keysT,keepK,inKs,AV.keys,AV.keysL,Ty.isAgg,sc_int,bs_length,sl_tup,i_beq,L,h0,u32s]
  | inr z =>
    obtain ⟨ds,v,s⟩:=z
    have dl:=OH.run_len r [] 0 true ds v s (by simp) (by simp) hr
    rw [hr] at L
    have ok:=oc_keys ds
    have e0:oc []=[.int .u32 0,.int .u32 0,.int .u32 0,.int .u32 0,.int .u32 0,.int .u32 0,.int .u32 0,.int .u32 0,.int .u32 0,.int .u32 0,.int .u32 0,.int .u32 0,.int .u32 0,.int .u32 0,.int .u32 0,.int .u32 0]:=rfl
    simp only
    cases s with
    | false =>
      simp [Lp,b,lp,lps,c66,firstReg,S,bx,e0,En,Out] at L
      simp [↓s_seq,↓s_reg,↓s_cond,↓s_block,↓s_cons,s_nil,s_loop,firstReg,s_val,s_skip,s_rgx,s_sqn,s_sqr,s_cdb,s_bke,s_ret',s_skip',s_finr,s_fin1,s_fix,s_clean,o_tmp,o_int,o_bool,l_hit,l_miss,ol_nil,ol_cons,ol_some,x_move,x_assign,x_bin,bn_s,x_un,x_callB,frame0,binA,intOp,resL,resA,results1,AV.pure,AV.pureL,keepT,x_alloc,x_build,bdx,x_store,stx,newK,genOf,setK,lookK,fillA,writeL,writeC,readC,conts,TyI.mk1,appendA,copyA,builtinA,AV.cells,gcH,reach,keysT,keepK,inKs,AV.keys,AV.keysL,Ty.isAgg,unA,sc_int,bs_length,sl_tup,i_beq,L,h0,u32s,ok]
    | true =>
      rw [if_pos rfl]
      cases ds with
      | nil =>
        exact absurd (OH.run_ne' r [] 0 true [] v true h0 hr) (by simp)
      | cons d ds =>
        obtain ⟨p',_,_,q3,_⟩:=OH.run_ok r [] 0 true [] (d :: ds) v true hb (by simp) (by simp) (by simp) (by simp) (by simp) rfl (by simp) hr
        obtain ⟨d0,d1⟩:=q3 d (by simp)
        have e2:u32s (OH.arcs (d :: ds))=.int .u32 (min (d / 40) 2) :: .int .u32 (d - 40 * min (d / 40) 2) :: u32s (ds ++ List.replicate (14 - ds.length) 0):=rfl
        have e:oc (d :: ds)=.int .u32 0 :: .int .u32 d :: u32s (ds ++ List.replicate (14 - ds.length) 0):=by
          show _ :: _ :: u32s (ds ++ List.replicate (15 - (ds.length + 1)) 0)=_
          rw [show 15 - (ds.length + 1)=14 - ds.length from by omega]
        have k2:=u32s_keys (ds ++ List.replicate (14 - ds.length) 0)
        have k3:=u32s_pure (ds ++ List.replicate (14 - ds.length) 0)
        have k4:(u32s (ds ++ List.replicate (14 - ds.length) 0)).length=14:=by
          have:=dl.1
          simp at this
          unfold u32s
          simp
          omega
        have k5:(u32s (ds ++ List.replicate (14 - ds.length) 0)).take 14=u32s (ds ++ List.replicate (14 - ds.length) 0):=List.take_of_length_le (by omega)
        have k6:∀ x ∈ u32s (ds ++ List.replicate (14 - ds.length) 0),x.scal=true:=fun x hx => by
          obtain ⟨z,_,rfl⟩:=List.mem_map.1 hx
          rfl
        have q3:(if 2 < d / 40 then (2:Int) else d / 40)=min (d / 40) 2:=by split <;> omega
        have q4:(d - 40 * min (d / 40) 2) % 4294967296=d - 40 * min (d / 40) 2:=by omega
        obtain ⟨m,hm⟩:∃ m,min (d / 40) 2=m:=⟨_,rfl⟩
        rw [hm] at e2 q3 q4
        obtain ⟨rs,hrs⟩:∃ rs,u32s (ds ++ List.replicate (14 - ds.length) 0)=rs:=⟨_,rfl⟩
        rw [hrs] at e e2 k2 k3 k4 k5 k6
        rw [e2]
        have q1:d.tdiv 40=d / 40:=Int.tdiv_eq_ediv_of_nonneg d0
        have q2:d / 40 % 4294967296=d / 40:=by omega
        simp [Lp,b,lp,lps,c66,firstReg,S,bx,En,Out,e,e0] at L
        simp [↓s_seq,↓s_reg,↓s_cond,↓s_block,↓s_cons,s_nil,s_loop,firstReg,s_val,s_skip,s_rgx,s_sqn,s_cdb,s_bke,s_skip',s_clean,o_tmp,o_int,o_bool,l_hit,l_miss,ol_nil,ol_cons,ol_some,x_move,x_assign,x_bin,bn_s,x_un,x_callB,frame0,binA,intOp,keepT,x_alloc,x_build,bdx,x_load,ldx,x_store,stx,x_fieldAddr,x_indexAddr,iax,newK,genOf,setK,lookK,fillA,writeL,writeC,readC,conts,TyI.mk1,indexAddrA,fieldAddrA,appendA,copyA,builtinA,AV.cells,gcH,reach,keysT,keepK,inKs,AV.keys,AV.keysL,Ty.isAgg,w_u32,unA,sc_int,bs_length,i_beq,L,h0,k2,k4,k5,q1,q2,q3,q4]
        rw [if_pos k6]
        simp [↓s_cons,s_nil,s_val,s_skip,s_rgx,s_sqn,s_ret',s_finr,s_fin1,s_fix,s_clean,o_int,l_hit,l_miss,x_assign,resL,resA,results1,AV.pure,AV.pureL,keepT,lookK,readC,TyI.mk1,gcH,reach,keysT,keepK,inKs,AV.keys,AV.keysL,Ty.isAgg,sl_tup,k2,k3,k4,k5]
end Q22
end
section
open Ab Go TabE
attribute [local simp ↓] s_seq s_reg s_regd s_cond s_block s_cons s_consG s_regD
attribute [local simp] s_nil s_loop s_round s_lpn s_lpe s_lpr firstReg s_gt s_gf s_wb s_wu s_val s_valN s_skip s_calls s_callP s_cax lookR flatR pureKs s_ret s_rgx s_sqn s_sqr s_sqe s_cdb s_bkn s_bkr s_bke s_exit s_ret' s_skip' s_finr s_finn s_fin1 s_fix s_clean s_gc0 o_tmp o_int o_bool o_nil o_str o_fn o_nil' l_hit l_miss l_nil ol_nil ol_cons ol_some x_move x_assign x_pick pk_t pk_f x_bin bn_s x_un x_extract x_callF cl_no x_callB x_callBF frzV x_conv cvx convA frame0 binA intOp resL resA results1 sealLW AV.pure AV.pureL keepT x_alloc x_box bxx x_build bdx x_buildSlice bsx x_buildSliceF bsf x_load ldx x_store stx x_slice slx x_fieldAddr x_field x_index ixx x_indexAddr iax x_makeSlice msx x_makeSliceF msf x_nilCheck newK genOf setK lookK fillA writeL writeC readC conts TyI.mk1 sliceA boundsA boundsB fitsA numA indexAddrA fieldAddrA partA fieldA indexA appendA copyA builtinA AV.cells chunk gcH reach keysT keepK inKs AV.keys AV.keysL Ty.isAgg eq1 eqL convA.go ltI w_u8 w_u32 w_u64 w_i64 w_fdiv w_tdiv w_tmod IntKind.bits unA sc_int sc_bool sc_str sc_sl sc_ref sc_ptr sc_pel sc_nilp sc_fn sc_nilf sc_if sc_nili sc_agg sc_tup sc_mem bs_pure bs_kl bs_length bs_cells bs_all sl_row sealRow sealY sl_int sl_bool sl_str sl_sl sl_nilp sl_nilf sl_nili sl_pel sl_agg sl_tup sl_fn sl_if nat_1 bs_cons bs_nil i_beq i_bne x_mkF x_mkI x_tassert x_panic s_pan s_sqp s_bkp s_finp s_fixp s_lpp s_rgp s_retp s_site s_stxN s_stxO x_callT clx El.avs_len s_dyn0 s_rgy barOf dynChk footL dynOK disjK keysOp opVals Op.operands
section
open Ab Go TabE Sp
namespace B0d
theorem dig5 (v:Int) (h0:268435456 ≤ v) (h1:v < 4294967296):Con E 20 112 [.int .u32 v] (.sl false [.int .u8 (OG.oct v 4),.int .u8 (OG.oct v 3),.int .u8 (OG.oct v 2),.int .u8 (OG.oct v 1),.int .u8 (OG.oct v 0)] none):=by
  refine con_of E_fn112 rfl (Nat.le_of_ble_eq_true rfl) rfl rfl (g:=[]) ?_
  rw [body_112,c112]
  have q1:v.tmod 128=v % 128:=Int.tmod_eq_emod_of_nonneg (by omega)
  have q2:v.tdiv 128=v / 128:=Int.tdiv_eq_ediv_of_nonneg (by omega)
  have q3:v % 128 % 256=v % 128:=by omega
  have a1:0 < v / 128:=by omega
  have m1:v / 128 % 4294967296=v / 128:=by omega
  have q4:(v / 128).tmod 128=v / 128 % 128:=Int.tmod_eq_emod_of_nonneg (by omega)
  have q5:(v / 128).tdiv 128=v / 16384:=by rw [Int.tdiv_eq_ediv_of_nonneg (by omega)]; omega
  have a2:0 < v / 16384:=by omega
  have m3:v / 16384 % 4294967296=v / 16384:=by omega
  have q7:(v / 16384).tmod 128=v / 16384 % 128:=Int.tmod_eq_emod_of_nonneg (by omega)
  have q8:(v / 16384).tdiv 128=v / 2097152:=by rw [Int.tdiv_eq_ediv_of_nonneg (by omega)]; omega
  have a3:0 < v / 2097152:=by omega
  have m5:v / 2097152 % 4294967296=v / 2097152:=by omega
  have p7:(v / 2097152).tmod 128=v / 2097152 % 128:=Int.tmod_eq_emod_of_nonneg (by omega)
  have p8:(v / 2097152).tdiv 128=v / 268435456:=by rw [Int.tdiv_eq_ediv_of_nonneg (by omega)]; omega
  have a4:0 < v / 268435456:=by omega
  have m8:v / 268435456 % 4294967296=v / 268435456:=by omega
  have r7:(v / 268435456).tmod 128=v / 268435456:=by rw [Int.tmod_eq_emod_of_nonneg (by omega)]; omega
  have r8:(v / 268435456).tdiv 128=0:=by rw [Int.tdiv_eq_ediv_of_nonneg (by omega)]; omega
  have m2:(128 + v / 128 % 128) % 4294967296=128 + v / 128 % 128:=by omega
  have m4:(128 + v / 16384 % 128) % 4294967296=128 + v / 16384 % 128:=by omega
  have m6:(128 + v / 2097152 % 128) % 4294967296=128 + v / 2097152 % 128:=by omega
  have m7:(128 + v / 268435456) % 4294967296=128 + v / 268435456:=by omega
  have q6:(128 + v / 128 % 128) % 256=128 + v / 128 % 128:=by omega
  have q9:(128 + v / 16384 % 128) % 256=128 + v / 16384 % 128:=by omega
  have p9:(128 + v / 2097152 % 128) % 256=128 + v / 2097152 % 128:=by omega
  have r9:(128 + v / 268435456) % 256=128 + v / 268435456:=by omega
  have o0:OG.oct v 0=v % 128:=by unfold OG.oct; simp
  have o1:OG.oct v 1=128 + v / 128 % 128:=by unfold OG.oct; simp; omega
  have o2:OG.oct v 2=128 + v / 16384 % 128:=by unfold OG.oct; simp; omega
  have o3:OG.oct v 3=128 + v / 2097152 % 128:=by unfold OG.oct; simp; omega
  have o4:OG.oct v 4=128 + v / 268435456:=by unfold OG.oct; simp; omega
  simp [q1,q2,q3,a1,a2,a3,a4,m1,m2,m3,m4,m5,m6,m7,m8,q4,q5,q7,q8,q6,q9,p7,p8,p9,r7,r8,r9,o0,o1,o2,o3,o4,w_i64]
theorem dig (v:Int) (h0:0 ≤ v) (h1:v < 4294967296):∃ c,Con E 20 112 [.int .u32 v] (.sl false (bs (OG.grp v)) c):=by
  unfold OG.grp OG.top
  by_cases a:v < 128
  · rw [if_pos a]; exact ⟨_,F17.dig1 v h0 a⟩
  rw [if_neg a]
  by_cases b:v < 16384
  · rw [if_pos b]; exact ⟨_,F17.dig2 v (by omega) b⟩
  rw [if_neg b]
  by_cases c:v < 2097152
  · rw [if_pos c]; exact ⟨_,F17.dig3 v (by omega) c⟩
  rw [if_neg c]
  by_cases d:v < 268435456
  · rw [if_pos d]; exact ⟨_,F17.dig4 v (by omega) (by omega)⟩
  rw [if_neg d]
  exact ⟨_,dig5 v (by omega) h1⟩
theorem grp_len (v:Int):1 ≤ (OG.grp v).length ∧ (OG.grp v).length ≤ 5:=by
  unfold OG.grp
  split <;> simp
def b:Code:=lp c74 0
abbrev cs (n:Int) (xs:List Int):List AV:=.int .u8 n :: Q22.u32s xs
abbrev S0 (n:Int) (xs:List Int) (d:Int) (i:Nat):St:=⟨[(1,.ptr (1,1,0) 0),(3,.sl false [.int .u8 d] (some 1)),(4,.int .i64 (i:Int))],[((1,1,0),bx (cs n xs))]⟩
abbrev SR (n:Int) (xs:List Int) (m:Nat) (ys:List Int) (i:Nat):St:=⟨[(1,.ptr (1,1,0) 0),(3,.ref (1,27,m) 0 ys.length none),(4,.int .i64 (i:Int))],[((1,1,0),bx (cs n xs)),((1,27,m),⟨bs ys,true,true,false,1,false⟩)]⟩
theorem first (q k1:Nat) (n:Int) (xs:List Int) (i:Nat) (x:Int) (hx:xs[i]? = some x) (hn:(i:Int) < n) (h16:n ≤ 16) (hl:xs.length=16) (gx:List Int) (c:Option Nat) (gl:gx.length ≤ 5) (gn:gx ≠ []) (D:∀ h,aCall E q 0 112 [.int .u32 x] h=some (.ret (.sl false (bs gx) c),h)) (d:Int):rnd fn74 b q k1 (S0 n xs d i)=some (.normal,SR n xs 0 (d :: gx) (i + 1)):=by
  have hi:i < xs.length:=(List.getElem?_eq_some_iff.1 hx).1
  have w:=w64' ((i:Int) + 1) (by omega) (by omega)
  have wn:=w_i64 n (by omega) (by omega)
  have ia:∀ h,indexAddrA E 33 (.ptr (1,1,0) 1) (.int .i64 (i:Int)) h=some (.ptr (1,1,0) (i + 1)):=fun h => by
    have e:i < 16:=by omega
    have e2:(i:Int) < 16:=by omega
    simp [indexAddrA,E_ty33,E_ty23,TyI.mk1,e,e2]
    all_goals omega
  have rd:((Q22.u32s xs).drop i).take 1=[.int .u32 x]:=by
    have e:(Q22.u32s xs)[i]? = some (.int .u32 x):=by unfold Q22.u32s; rw [List.getElem?_map,hx]; rfl
    obtain ⟨z1,z2⟩:=List.getElem?_eq_some_iff.1 e
    rw [List.drop_eq_getElem_cons z1,z2]
    rfl
  have ul:(Q22.u32s xs).length=16:=by unfold Q22.u32s; simp [hl]
  have uk:=Q22.u32s_keys xs
  have kk:=bs_kl gx
  have cp:1 + gx.length ≤ 70368744177664:=by omega
  have cp2:gx.length + 1 ≤ 70368744177664:=by omega
  have cp3:gx.length ≤ 70368744177663:=by omega
  have g0:¬ gx.length=0:=by have:=List.length_pos_iff.2 gn; omega
  have ac:gx.length + 1=1 + gx.length:=by omega
  have l1:i + 1 + 1 ≤ 17:=by omega
  have l2:i + 1 ≤ 16:=by omega
  have l3:i < 16:=by omega
  have g1:0 < gx.length:=List.length_pos_iff.2 gn
  have g2:¬ gx.length ≤ 0:=by omega
  have g3:¬ 1 + gx.length ≤ 1:=by omega
  simp [b,lp,lps,c74,-indexAddrA,ia,w,wn,hn,D,rd,ul,uk,kk,cp,gn,bs_append,l1,l2,l3,g2,g3,cp2,cp3,g0]
theorem next (q k1:Nat) (n:Int) (xs:List Int) (i:Nat) (x:Int) (hx:xs[i]? = some x) (hn:(i:Int) < n) (h16:n ≤ 16) (hl:xs.length=16) (gx:List Int) (c:Option Nat) (gl:gx.length ≤ 5) (gn:gx ≠ []) (D:∀ h,aCall E q 0 112 [.int .u32 x] h=some (.ret (.sl false (bs gx) c),h)) (m:Nat) (ys:List Int) (ll:ys.length ≤ 1000):rnd fn74 b q k1 (SR n xs m ys i)=some (.normal,SR n xs (m + 1) (ys ++ gx) (i + 1)):=by
  have hi:i < xs.length:=(List.getElem?_eq_some_iff.1 hx).1
  have w:=w64' ((i:Int) + 1) (by omega) (by omega)
  have wn:=w_i64 n (by omega) (by omega)
  have ia:∀ h,indexAddrA E 33 (.ptr (1,1,0) 1) (.int .i64 (i:Int)) h=some (.ptr (1,1,0) (i + 1)):=fun h => by
    have e:i < 16:=by omega
    have e2:(i:Int) < 16:=by omega
    simp [indexAddrA,E_ty33,E_ty23,TyI.mk1,e,e2]
    all_goals omega
  have rd:((Q22.u32s xs).drop i).take 1=[.int .u32 x]:=by
    have e:(Q22.u32s xs)[i]? = some (.int .u32 x):=by unfold Q22.u32s; rw [List.getElem?_map,hx]; rfl
    obtain ⟨z1,z2⟩:=List.getElem?_eq_some_iff.1 e
    rw [List.drop_eq_getElem_cons z1,z2]
    rfl
  have ul:(Q22.u32s xs).length=16:=by unfold Q22.u32s; simp [hl]
  have uk:=Q22.u32s_keys xs
  have kk:AV.keysL (bs ys ++ bs gx)=[]:=by rw [← bs_append]; exact bs_kl _
  have cp:ys.length + gx.length ≤ 70368744177664:=by omega
  have l1:i + 1 + 1 ≤ 17:=by omega
  have l2:i + 1 ≤ 16:=by omega
  have l3:i < 16:=by omega
  simp [b,lp,lps,c74,-indexAddrA,ia,w,wn,hn,D,rd,ul,uk,kk,cp,gn,bs_append,l1,l2,l3]
abbrev OutR (n:Int) (xs:List Int) (m:Nat) (ys:List Int) (i:Nat):AExit × St:=(.exit 0,⟨(SR n xs m ys i).t ++ [(18,.bool false)],(SR n xs m ys i).h⟩)
abbrev Out0 (n:Int) (xs:List Int) (d:Int) (i:Nat):AExit × St:=(.exit 0,⟨(S0 n xs d i).t ++ [(18,.bool false)],(S0 n xs d i).h⟩)
theorem last0 (q k1:Nat) (n:Int) (xs d) (i:Nat) (hn:(i:Int)=n) (h16:n ≤ 16):rnd fn74 b q k1 (S0 n xs d i)=some (Out0 n xs d i):=by
  have uk:=Q22.u32s_keys xs
  have wn:=w_i64 n (by omega) (by omega)
  have h':¬ (i:Int) < n:=by omega
  subst hn
  simp [b,lp,lps,c74,uk,wn,h']
theorem lastR (q k1:Nat) (n:Int) (xs m ys) (i:Nat) (hn:(i:Int)=n) (h16:n ≤ 16):rnd fn74 b q k1 (SR n xs m ys i)=some (OutR n xs m ys i):=by
  have uk:=Q22.u32s_keys xs
  have wn:=w_i64 n (by omega) (by omega)
  have h':¬ (i:Int) < n:=by omega
  subst hn
  simp [b,lp,lps,c74,uk,wn,h']
end B0d
end
end
