/- law13's fault at the evaluator (F1's text, turned). No conditions. -/
import Derived.Test.YtbiildmljbcmeaaDoorP5
import Derived.Test.YtbiildmljbcmeaaDoorF6
open Ab Go TabE Sp E34
set_option maxRecDepth 20000
set_option linter.unusedSimpArgs false
set_option linter.unusedVariables false
set_option maxHeartbeats 8000000
namespace A0
attribute [local simp ↓] s_seq s_reg s_regd s_cond s_block s_cons s_consG s_regD
attribute [local simp] s_nil s_loop s_round s_lpn s_lpe s_lpr firstReg s_gt s_gf s_wb s_wu s_val s_valN s_skip s_calls s_callP s_cax lookR flatR pureKs s_ret s_rgx s_sqn s_sqr s_sqe s_cdb s_bkn s_bkr s_bke s_exit s_ret' s_skip' s_finr s_finn s_fin1 s_fix s_clean s_gc0 o_tmp o_int o_bool o_nil o_str o_fn o_nil' l_hit l_miss l_nil ol_nil ol_cons ol_some x_move x_assign x_pick pk_t pk_f x_bin bn_s x_un x_extract x_callF cl_no x_callB x_callBF frzV x_conv cvx convA frame0 binA intOp resL resA results1 sealLW AV.pure AV.pureL keepT x_alloc x_box bxx x_build bdx x_buildSlice bsx x_buildSliceF bsf x_load ldx x_store stx x_slice slx x_fieldAddr x_field x_index ixx x_indexAddr iax x_makeSlice msx x_makeSliceF msf x_nilCheck newK genOf setK lookK fillA writeL writeC readC conts TyI.mk1 sliceA boundsA boundsB fitsA numA indexAddrA fieldAddrA partA fieldA indexA appendA copyA builtinA AV.cells chunk gcH reach keysT keepK inKs AV.keys AV.keysL Ty.isAgg eq1 eqL convA.go ltI w_u8 w_u32 w_u64 w_i64 w_fdiv w_tdiv w_tmod IntKind.bits unA sc_int sc_bool sc_str sc_sl sc_ref sc_ptr sc_pel sc_nilp sc_fn sc_nilf sc_if sc_nili sc_agg sc_tup sc_mem bs_pure bs_kl bs_length bs_cells bs_all sl_row sealRow sealY sl_int sl_bool sl_str sl_sl sl_nilp sl_nilf sl_nili sl_pel sl_agg sl_tup sl_fn sl_if nat_1 bs_cons bs_nil i_beq i_bne x_mkF x_mkI x_tassert x_panic s_pan s_sqp s_bkp s_finp s_fixp s_lpp s_rgp s_retp s_site s_stxN s_stxO x_callT clx El.avs_len s_dyn0 s_rgy barOf dynChk footL dynOK disjK keysOp opVals Op.operands
def b48:Code:=lp c17 0
abbrev S48 (f g:Bool) (d:Option Nat) (p:List Int) (e:Int) (i:Nat):St:=⟨[(2,.ptr (1,2,0) 0),(3,.ptr (1,3,0) 0),(5,.int .i64 (i:Int))],[((1,2,0),bx [.sl f (ns p) (some p.length),.int .i64 e]),((1,3,0),bx [.sl g (ns p) d,.int .i64 e])]⟩
theorem go48 (q k1:Nat) (f g d) (p:List Int) (e:Int) (i:Nat) (x:Int) (hx:p[i]? = some x) (hl:p.length ≤ 100000000):rnd fn17 b48 q k1 (S48 f g d p e i)=some (.normal,S48 f g d p e (i + 1)):=by
  have hi:i < p.length:=(List.getElem?_eq_some_iff.1 hx).1
  have ix:=int_at f (some p.length) p i x hx
  have iy:=int_at g d p i x hx
  have w:=w64' ((i:Int) + 1) (by omega) (by omega)
  simp [b48,lp,lps,c17,-indexAddrA,ix,iy,w,hi]
theorem last48 (q k1:Nat) (f g d) (p:List Int) (e:Int):rnd fn17 b48 q k1 (S48 f g d p e p.length)=some (.exit 0,⟨[(2,.ptr (1,2,0) 0),(3,.ptr (1,3,0) 0),(5,.int .i64 (p.length:Int)),(33,.bool false)],(S48 f g d p e p.length).h⟩):=by
  simp [b48,lp,lps,c17]
theorem fault (f g d) (p:List Int) (e:Int) (hl:p.length ≤ 100000000):Con E (p.length + 20) 17 [.agg [.sl f (ns p) (some p.length),.int .i64 e],.agg [.sl g (ns p) d,.int .i64 e]] (.int .i64 1):=by
  obtain ⟨K,hK⟩:∃ K,p.length + 19=K:=⟨_,rfl⟩
  have eK:p.length + 20=K + 1:=by omega
  rw [eK]
  have L:=loopQ (fn:=fn17) (b:=b48) (K:=K) (k:=K) (fun i => S48 f g d p e i) p.length rfl (fun i hi => by
    obtain ⟨x,hx⟩:∃ x,p[i]? = some x:=⟨p[i],by simp⟩
    exact go48 K K f g d p e i x hx hl) (last48 K K f g d p e) (by simp) (by omega)
  refine con_of E_fn17 (by simp [AV.pureL,AV.pure]) (Nat.le_of_ble_eq_true rfl) rfl rfl (g:=[]) ?_
  rw [body_17,c17]
  simp [b48,lp,lps,c17,firstReg,S48,bx] at L
  simp [-s_round,L]
end A0
