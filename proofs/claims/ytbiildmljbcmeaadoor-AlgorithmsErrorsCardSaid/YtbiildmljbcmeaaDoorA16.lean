/- Own work, no conditions. -/
import Derived.Test.YtbiildmljbcmeaaDoorA12
import Derived.Test.YtbiildmljbcmeaaDoorA8
set_option maxRecDepth 20000
set_option linter.unusedSimpArgs false
set_option linter.unusedVariables false
set_option maxHeartbeats 16000000
section
open Ab Go TabE
attribute [local simp ↓] s_seq s_reg s_regd s_cond s_block s_cons s_consG s_regD
attribute [local simp] s_nil s_loop s_round s_lpn s_lpe s_lpr firstReg s_gt s_gf s_wb s_wu s_val s_valN s_skip s_calls s_callP s_cax lookR flatR pureKs s_ret s_rgx s_sqn s_sqr s_sqe s_cdb s_bkn s_bkr s_bke s_exit s_ret' s_skip' s_finr s_finn s_fin1 s_fix s_clean s_gc0 o_tmp o_int o_bool o_nil o_str o_fn o_nil' l_hit l_miss l_nil ol_nil ol_cons ol_some x_move x_assign x_pick pk_t pk_f x_bin bn_s x_un x_extract x_callF cl_no x_callB x_callBF frzV x_conv cvx convA frame0 binA intOp resL resA results1 sealLW AV.pure AV.pureL keepT x_alloc x_box bxx x_build bdx x_buildSlice bsx x_buildSliceF bsf x_load ldx x_store stx x_slice slx x_fieldAddr x_field x_index ixx x_indexAddr iax x_makeSlice msx x_makeSliceF msf x_nilCheck newK genOf setK lookK fillA writeL writeC readC conts TyI.mk1 sliceA boundsA boundsB fitsA numA indexAddrA fieldAddrA partA fieldA indexA appendA copyA builtinA AV.cells chunk gcH reach keysT keepK inKs AV.keys AV.keysL Ty.isAgg eq1 eqL convA.go ltI w_u8 w_u32 w_u64 w_i64 w_fdiv w_tdiv w_tmod IntKind.bits unA sc_int sc_bool sc_str sc_sl sc_ref sc_ptr sc_pel sc_nilp sc_fn sc_nilf sc_if sc_nili sc_agg sc_tup sc_mem bs_pure bs_kl bs_length bs_cells bs_all sl_row sealRow sealY sl_int sl_bool sl_str sl_sl sl_nilp sl_nilf sl_nili sl_pel sl_agg sl_tup sl_fn sl_if nat_1 bs_cons bs_nil i_beq i_bne x_mkF x_mkI x_tassert x_panic s_pan s_sqp s_bkp s_finp s_fixp s_lpp s_rgp s_retp s_site s_stxN s_stxO x_callT clx El.avs_len s_dyn0 s_rgy barOf dynChk footL dynOK disjK keysOp opVals Op.operands
section
open Ab Go TabE Sp E34 F1 Rw F5 F6 F7 F8 F43 F47 AP A1 A2 A6 A7 K1 K3
namespace K4
abbrev Bk (K:Nat) (n x0 x1 x2 x3 x4 x5 x6 x7 x8 x9 x10 x11 x12 x13 x14 x15:Int) (b:Bool) (p:El) (f:Bool) (o:List Int) (c:Option Nat) (m:Int) (v:AV) (w:Int):Prop:=∀ h,aCall E K 0 77 [kg n x0 x1 x2 x3 x4 x5 x6 x7 x8 x9 x10 x11 x12 x13 x14 x15 b p f o c m] h=some (.ret (.tup [v,.int .i64 w]),h)
theorem run_bad (K:Nat) (hK:60 ≤ K) (n x0 x1 x2 x3 x4 x5 x6 x7 x8 x9 x10 x11 x12 x13 x14 x15:Int) (b:Bool) (p:El) (f:Bool) (o:List Int) (c:Option Nat) (m w:Int) (hw:w ≠ 0) (B:Bk K n x0 x1 x2 x3 x4 x5 x6 x7 x8 x9 x10 x11 x12 x13 x14 x15 b p f o c m zel w):∃ hf,aRun E (K + 1) 76 [kg n x0 x1 x2 x3 x4 x5 x6 x7 x8 x9 x10 x11 x12 x13 x14 x15 b p f o c m,.fn 77 [] []] []=some (.ret (.tup [zel,.int .i64 w]),hf):=by
  refine OFn.exm ?_
  rw [aRun_fn rfl E_fn76 rfl (Nat.le_of_ble_eq_true rfl),body_76,c76]
  unfold Bk at B
  simp [-s_round,B,hw,-Option.map_eq_some_iff]
theorem run_ok (K:Nat) (hK:60 ≤ K) (n x0 x1 x2 x3 x4 x5 x6 x7 x8 x9 x10 x11 x12 x13 x14 x15:Int) (b:Bool) (p y:El) (f:Bool) (o:List Int) (c:Option Nat) (m w:Int) (B:Bk K n x0 x1 x2 x3 x4 x5 x6 x7 x8 x9 x10 x11 x12 x13 x14 x15 b p f o c m y.av 0) (C:Ck K y w):∃ hf,aRun E (K + 1) 76 [kg n x0 x1 x2 x3 x4 x5 x6 x7 x8 x9 x10 x11 x12 x13 x14 x15 b p f o c m,.fn 77 [] []] []=some (.ret (.tup [if w=0 then y.av else zel,.int .i64 w]),hf):=by
  refine OFn.exm ?_
  rw [aRun_fn rfl E_fn76 rfl (Nat.le_of_ble_eq_true rfl),body_76,c76]
  unfold Bk at B; unfold Ck at C; rw [El.av_eq] at B C
  by_cases hw:w=0
  · rw [if_pos hw,El.av_eq]
    simp [-s_round,B,C,hw,-Option.map_eq_some_iff]
  · rw [if_neg hw]
    simp [-s_round,B,C,hw,-Option.map_eq_some_iff]
theorem elem_of (K:Nat) (hK:60 ≤ K) (n x0 x1 x2 x3 x4 x5 x6 x7 x8 x9 x10 x11 x12 x13 x14 x15:Int) (b:Bool) (p y:El) (f:Bool) (u:List Int) (c:Option Nat) (m w:Int) (o:∃ hf,aRun E K 76 [kg n x0 x1 x2 x3 x4 x5 x6 x7 x8 x9 x10 x11 x12 x13 x14 x15 b p f u c m,.fn 77 [] []] []=some (.ret (.tup [y.av,.int .i64 w]),hf)) :
    Con E (K + 1) 27 [kg n x0 x1 x2 x3 x4 x5 x6 x7 x8 x9 x10 x11 x12 x13 x14 x15 b p f u c m] (.tup [y.av,.int .i64 w]) ∧ Con E (K + 1) 28 [kg n x0 x1 x2 x3 x4 x5 x6 x7 x8 x9 x10 x11 x12 x13 x14 x15 b p f u c m] (.int .i64 w):=by
  obtain ⟨hf,e⟩:=o
  have o:=fun slot h => OFn.opened_fn (slot:=slot) (h:=h) e (by simp [AV.pure,AV.pureL,El.avs_pure]) (by simp [AV.pure,AV.pureL,El.av_pure])
  simp only [El.av_eq y] at o ⊢
  constructor
  · refine con_ofO E_fn27 (by simp [AV.pureL,AV.pure,El.avs_pure]) (Nat.le_of_ble_eq_true rfl) rfl (g:=[]) ?_
    rw [body_27,c27]
    simp [-s_round,o]
  · refine con_ofO E_fn28 (by simp [AV.pureL,AV.pure,El.avs_pure]) (Nat.le_of_ble_eq_true rfl) rfl (g:=[]) ?_
    rw [body_28,c28]
    simp [-s_round,o]
def kw (y z:El) (wa wb:Int):Int:=if wa ≠ 0 then wa else if wb ≠ 0 then wb else (chk (tp [y,z] 2).core 1 0 0).1
theorem key (n x0 x1 x2 x3 x4 x5 x6 x7 x8 x9 x10 x11 x12 x13 x14 x15:Int) (b:Bool) (p y z:El) (f:Bool) (u:List Int) (c:Option Nat) (m wa wb:Int) (A:∃ N,Con E N 19 [ag n x0 x1 x2 x3 x4 x5 x6 x7 x8 x9 x10 x11 x12 x13 x14 x15 b p] (.tup [y.av,.int .i64 wa])) (B:∃ N,Con E N 25 [.sl f (bs u) c,.int .i64 m] (.tup [z.av,.int .i64 wb])) (ho:(tp [y,z] 2).ok) :
    ∃ N,Con E N 27 [kg n x0 x1 x2 x3 x4 x5 x6 x7 x8 x9 x10 x11 x12 x13 x14 x15 b p f u c m] (.tup [(if kw y z wa wb=0 then tp [y,z] 2 else E32.z0).av,.int .i64 (kw y z wa wb)]) ∧ Con E N 28 [kg n x0 x1 x2 x3 x4 x5 x6 x7 x8 x9 x10 x11 x12 x13 x14 x15 b p f u c m] (.int .i64 (kw y z wa wb)):=by
  obtain ⟨N1,C1⟩:=A
  obtain ⟨N2,C2⟩:=B
  obtain ⟨N3,C3⟩:=E10.check _ ho
  obtain ⟨k,hk⟩:∃ k,N1 + N2 + N3 + 100=k:=⟨_,rfl⟩
  have A1:Ea (k + 10) n x0 x1 x2 x3 x4 x5 x6 x7 x8 x9 x10 x11 x12 x13 x14 x15 b p y wa:=fun h => C1 _ (by omega) 0 h
  have B1:Eb (k + 10) f u c m z wb:=fun h => C2 _ (by omega) 0 h
  refine ⟨k + 14,?_⟩
  by_cases h1:wa=0
  case neg =>
    have e:kw y z wa wb=wa:=by unfold kw; rw [if_pos h1]
    rw [e,if_neg h1]
    exact elem_of (k + 13) (by omega) n x0 x1 x2 x3 x4 x5 x6 x7 x8 x9 x10 x11 x12 x13 x14 x15 b p E32.z0 f u c m wa (run_bad (k + 12) (by omega) n x0 x1 x2 x3 x4 x5 x6 x7 x8 x9 x10 x11 x12 x13 x14 x15 b p f u c m wa h1 fun h => K3.bad1 k (by omega) n x0 x1 x2 x3 x4 x5 x6 x7 x8 x9 x10 x11 x12 x13 x14 x15 b p y f u c m wa h1 A1 (k + 12) (by omega) 0 h)
  subst h1
  by_cases h2:wb=0
  case neg =>
    have e:kw y z 0 wb=wb:=by unfold kw; rw [if_neg (by simp),if_pos h2]
    rw [e,if_neg h2]
    exact elem_of (k + 13) (by omega) n x0 x1 x2 x3 x4 x5 x6 x7 x8 x9 x10 x11 x12 x13 x14 x15 b p E32.z0 f u c m wb (run_bad (k + 12) (by omega) n x0 x1 x2 x3 x4 x5 x6 x7 x8 x9 x10 x11 x12 x13 x14 x15 b p f u c m wb h2 fun h => K3.bad2 k (by omega) n x0 x1 x2 x3 x4 x5 x6 x7 x8 x9 x10 x11 x12 x13 x14 x15 b p y z f u c m wb h2 A1 B1 (k + 12) (by omega) 0 h)
  subst h2
  have e:kw y z 0 0=(chk (tp [y,z] 2).core 1 0 0).1:=by unfold kw; rw [if_neg (by simp),if_neg (by simp)]
  rw [e]
  have r:=run_ok (k + 12) (by omega) n x0 x1 x2 x3 x4 x5 x6 x7 x8 x9 x10 x11 x12 x13 x14 x15 b p (tp [y,z] 2) f u c m (chk (tp [y,z] 2).core 1 0 0).1 (fun h => K3.ok k (by omega) n x0 x1 x2 x3 x4 x5 x6 x7 x8 x9 x10 x11 x12 x13 x14 x15 b p y z f u c m A1 B1 (k + 12) (by omega) 0 h) (fun h => C3 _ (by omega) 0 h)
  have e2:∀ w:Int,(if w=0 then (tp [y,z] 2).av else zel)=(if w=0 then tp [y,z] 2 else E32.z0).av:=fun w => by split <;> rfl
  rw [e2] at r
  exact elem_of (k + 13) (by omega) n x0 x1 x2 x3 x4 x5 x6 x7 x8 x9 x10 x11 x12 x13 x14 x15 b p _ f u c m _ r
end K4
end
section
open Ab Go TabE Sp E34 F1 Rw F5 F6 F7 F8 F43 F47 AP A1 A2 A6 A7 A10 K1 K3 A12 A8
namespace A16
theorem sameZ:Con E 100 20 [zel,zel] (.int .i64 1):=.of (g:=[]) rfl (by kernel_rfl)
theorem many (K:Nat) (hK:200 ≤ K) (n x0 x1 x2 x3 x4 x5 x6 x7 x8 x9 x10 x11 x12 x13 x14 x15:Int) (b:Bool) (p:El) (fb:Bool) (l:List Int) (cb:Option Nat) (m:Int) (r l':Int) (fw:Fw K p r l') (hr:r=0 ∨ 100 < l.length):Con E (K + 1) 4 [ag n x0 x1 x2 x3 x4 x5 x6 x7 x8 x9 x10 x11 x12 x13 x14 x15 b p,.sl fb (bs l) cb,.int .i64 m] (.bool true):=by
  have o:=fun slot h hk => A8.opk (slot:=slot) (h:=h) (key:=(1,7,0)) (l:=40) (by simp [AV.pureL,AV.pure,El.avs_pure]) hk fw
  have lv:=A8.lives K hK 0
  have pl:=El.avs_pure p.s
  have kk:=El.avs_keys p.s
  have tq:=A3.seqT K (by omega)
  have h1:r=0 ∨ ¬ r=0:=by omega
  have h2:¬ r=0 → (100:Int) < l.length:=fun q => by omega
  refine con_ofO E_fn4 (by simp [AV.pureL,AV.pure,El.avs_pure]) (Nat.le_of_ble_eq_true rfl) rfl (g:=[]) ?_
  rw [body_4,c4]
  rcases h1 with h | h
  · simp [Call.operands,o,lv,pl,kk,tq,h]
  · have h3:=h2 h
    simp [Call.operands,o,lv,pl,kk,tq,h,h3]
theorem badI (K:Nat) (hK:200 ≤ K) (n x0 x1 x2 x3 x4 x5 x6 x7 x8 x9 x10 x11 x12 x13 x14 x15:Int) (b:Bool) (p:El) (fb:Bool) (l:List Int) (cb:Option Nat) (m:Int) (r l':Int) (fw:Fw K p r l') (hr:r ≠ 0) (ll:l.length ≤ 100) (oc:∀ h,aCall E K 0 21 [.agg [.int .u8 n,.int .u32 x0,.int .u32 x1,.int .u32 x2,.int .u32 x3,.int .u32 x4,.int .u32 x5,.int .u32 x6,.int .u32 x7,.int .u32 x8,.int .u32 x9,.int .u32 x10,.int .u32 x11,.int .u32 x12,.int .u32 x13,.int .u32 x14,.int .u32 x15]] h=some (.ret (.int .i64 1),h)) (el:∀ h,aCall E K 0 19 [ag n x0 x1 x2 x3 x4 x5 x6 x7 x8 x9 x10 x11 x12 x13 x14 x15 b p] h=some (.ret (.tup [zel,.int .i64 1]),h)) (ck:∀ h,aCall E K 0 24 [ag n x0 x1 x2 x3 x4 x5 x6 x7 x8 x9 x10 x11 x12 x13 x14 x15 b p] h=some (.ret (.int .i64 1),h)) (ky:∀ h,aCall E K 0 27 [kg n x0 x1 x2 x3 x4 x5 x6 x7 x8 x9 x10 x11 x12 x13 x14 x15 b p fb l cb m] h=some (.ret (.tup [zel,.int .i64 1]),h)) (kc:∀ h,aCall E K 0 28 [kg n x0 x1 x2 x3 x4 x5 x6 x7 x8 x9 x10 x11 x12 x13 x14 x15 b p fb l cb m] h=some (.ret (.int .i64 1),h)):Con E (K + 1) 4 [ag n x0 x1 x2 x3 x4 x5 x6 x7 x8 x9 x10 x11 x12 x13 x14 x15 b p,.sl fb (bs l) cb,.int .i64 m] (.bool true):=by
  have o:=fun slot h hk => A8.opk (slot:=slot) (h:=h) (key:=(1,7,0)) (l:=40) (by simp [AV.pureL,AV.pure,El.avs_pure]) hk fw
  have lv:=A8.lives K hK 0
  have pl:=El.avs_pure p.s
  have kk:=El.avs_keys p.s
  have tq:=A3.seqT K (by omega)
  have hl:¬ (100:Int) < l.length:=by omega
  have zz:=sameZ K (by omega) 0
  refine con_ofO E_fn4 (by simp [AV.pureL,AV.pure,El.avs_pure]) (Nat.le_of_ble_eq_true rfl) rfl (g:=[]) ?_
  rw [body_4,c4]
  simp [Call.operands,o,lv,pl,kk,tq,hr,hl,oc,el,ck,ky,kc,zz]
theorem badH (K:Nat) (hK:200 ≤ K) (n x0 x1 x2 x3 x4 x5 x6 x7 x8 x9 x10 x11 x12 x13 x14 x15:Int) (p:El) (fb:Bool) (l:List Int) (cb:Option Nat) (m:Int) (r l':Int) (fw:Fw K p r l') (hr:r ≠ 0) (ll:l.length ≤ 100) (oc:∀ h,aCall E K 0 21 [.agg [.int .u8 n,.int .u32 x0,.int .u32 x1,.int .u32 x2,.int .u32 x3,.int .u32 x4,.int .u32 x5,.int .u32 x6,.int .u32 x7,.int .u32 x8,.int .u32 x9,.int .u32 x10,.int .u32 x11,.int .u32 x12,.int .u32 x13,.int .u32 x14,.int .u32 x15]] h=some (.ret (.int .i64 0),h)) (sp:∀ h,aCall E K 0 20 [p.av,zel] h=some (.ret (.int .i64 0),h)) (el:∀ h,aCall E K 0 19 [ag n x0 x1 x2 x3 x4 x5 x6 x7 x8 x9 x10 x11 x12 x13 x14 x15 false p] h=some (.ret (.tup [zel,.int .i64 1]),h)) (ck:∀ h,aCall E K 0 24 [ag n x0 x1 x2 x3 x4 x5 x6 x7 x8 x9 x10 x11 x12 x13 x14 x15 false p] h=some (.ret (.int .i64 1),h)) (ky:∀ h,aCall E K 0 27 [kg n x0 x1 x2 x3 x4 x5 x6 x7 x8 x9 x10 x11 x12 x13 x14 x15 false p fb l cb m] h=some (.ret (.tup [zel,.int .i64 1]),h)) (kc:∀ h,aCall E K 0 28 [kg n x0 x1 x2 x3 x4 x5 x6 x7 x8 x9 x10 x11 x12 x13 x14 x15 false p fb l cb m] h=some (.ret (.int .i64 1),h)):Con E (K + 1) 4 [ag n x0 x1 x2 x3 x4 x5 x6 x7 x8 x9 x10 x11 x12 x13 x14 x15 false p,.sl fb (bs l) cb,.int .i64 m] (.bool true):=by
  have o:=fun slot h hk => A8.opk (slot:=slot) (h:=h) (key:=(1,7,0)) (l:=40) (by simp [AV.pureL,AV.pure,El.avs_pure]) hk fw
  have lv:=A8.lives K hK 0
  have pl:=El.avs_pure p.s
  have kk:=El.avs_keys p.s
  have tq:=A3.seqT K (by omega)
  have hl:¬ (100:Int) < l.length:=by omega
  have zz:=sameZ K (by omega) 0
  rw [El.av_eq p] at sp
  refine con_ofO E_fn4 (by simp [AV.pureL,AV.pure,El.avs_pure]) (Nat.le_of_ble_eq_true rfl) rfl (g:=[]) ?_
  rw [body_4,c4]
  simp [Call.operands,o,lv,pl,kk,tq,hr,hl,oc,sp,el,ck,ky,kc,zz]
theorem badET (K:Nat) (hK:200 ≤ K) (n x0 x1 x2 x3 x4 x5 x6 x7 x8 x9 x10 x11 x12 x13 x14 x15:Int) (p:El) (fb:Bool) (l:List Int) (cb:Option Nat) (m:Int) (r l':Int) (fw:Fw K p r l') (hr:r ≠ 0) (ll:l.length ≤ 100) (oc:∀ h,aCall E K 0 21 [.agg [.int .u8 n,.int .u32 x0,.int .u32 x1,.int .u32 x2,.int .u32 x3,.int .u32 x4,.int .u32 x5,.int .u32 x6,.int .u32 x7,.int .u32 x8,.int .u32 x9,.int .u32 x10,.int .u32 x11,.int .u32 x12,.int .u32 x13,.int .u32 x14,.int .u32 x15]] h=some (.ret (.int .i64 0),h)) (y':El) (w:Int) (hw:w ≠ 0) (rf:∀ h,aCall E K 0 23 [ag n x0 x1 x2 x3 x4 x5 x6 x7 x8 x9 x10 x11 x12 x13 x14 x15 true p] h=some (.ret y'.av,h)) (cy:∀ h,aCall E K 0 22 [y'.av] h=some (.ret (.int .i64 w),h)) (el:∀ h,aCall E K 0 19 [ag n x0 x1 x2 x3 x4 x5 x6 x7 x8 x9 x10 x11 x12 x13 x14 x15 true p] h=some (.ret (.tup [zel,.int .i64 w]),h)) (ck:∀ h,aCall E K 0 24 [ag n x0 x1 x2 x3 x4 x5 x6 x7 x8 x9 x10 x11 x12 x13 x14 x15 true p] h=some (.ret (.int .i64 w),h)) (ky:∀ h,aCall E K 0 27 [kg n x0 x1 x2 x3 x4 x5 x6 x7 x8 x9 x10 x11 x12 x13 x14 x15 true p fb l cb m] h=some (.ret (.tup [zel,.int .i64 w]),h)) (kc:∀ h,aCall E K 0 28 [kg n x0 x1 x2 x3 x4 x5 x6 x7 x8 x9 x10 x11 x12 x13 x14 x15 true p fb l cb m] h=some (.ret (.int .i64 w),h)):Con E (K + 1) 4 [ag n x0 x1 x2 x3 x4 x5 x6 x7 x8 x9 x10 x11 x12 x13 x14 x15 true p,.sl fb (bs l) cb,.int .i64 m] (.bool true):=by
  have o:=fun slot h hk => A8.opk (slot:=slot) (h:=h) (key:=(1,7,0)) (l:=40) (by simp [AV.pureL,AV.pure,El.avs_pure]) hk fw
  have lv:=A8.lives K hK 0
  have pl:=El.avs_pure p.s
  have kk:=El.avs_keys p.s
  have tq:=A3.seqT K (by omega)
  have hl:¬ (100:Int) < l.length:=by omega
  have zz:=sameZ K (by omega) 0
  rw [El.av_eq y'] at rf cy
  refine con_ofO E_fn4 (by simp [AV.pureL,AV.pure,El.avs_pure]) (Nat.le_of_ble_eq_true rfl) rfl (g:=[]) ?_
  rw [body_4,c4]
  simp [Call.operands,o,lv,pl,kk,tq,hr,hl,hw,oc,rf,cy,el,ck,ky,kc,zz,El.avs_pure,El.avs_keys]
theorem badBT (K:Nat) (hK:200 ≤ K) (n x0 x1 x2 x3 x4 x5 x6 x7 x8 x9 x10 x11 x12 x13 x14 x15:Int) (p:El) (fb:Bool) (l:List Int) (cb:Option Nat) (m:Int) (r l':Int) (fw:Fw K p r l') (hr:r ≠ 0) (ll:l.length ≤ 100) (oc:∀ h,aCall E K 0 21 [.agg [.int .u8 n,.int .u32 x0,.int .u32 x1,.int .u32 x2,.int .u32 x3,.int .u32 x4,.int .u32 x5,.int .u32 x6,.int .u32 x7,.int .u32 x8,.int .u32 x9,.int .u32 x10,.int .u32 x11,.int .u32 x12,.int .u32 x13,.int .u32 x14,.int .u32 x15]] h=some (.ret (.int .i64 0),h)) (y y' z:El) (w:Int) (hw:w ≠ 0) (rf:∀ h,aCall E K 0 23 [ag n x0 x1 x2 x3 x4 x5 x6 x7 x8 x9 x10 x11 x12 x13 x14 x15 true p] h=some (.ret y'.av,h)) (cy:∀ h,aCall E K 0 22 [y'.av] h=some (.ret (.int .i64 0),h)) (el:∀ h,aCall E K 0 19 [ag n x0 x1 x2 x3 x4 x5 x6 x7 x8 x9 x10 x11 x12 x13 x14 x15 true p] h=some (.ret (.tup [y.av,.int .i64 0]),h)) (ck:∀ h,aCall E K 0 24 [ag n x0 x1 x2 x3 x4 x5 x6 x7 x8 x9 x10 x11 x12 x13 x14 x15 true p] h=some (.ret (.int .i64 0),h)) (sy:∀ h,aCall E K 0 20 [y.av,y'.av] h=some (.ret (.int .i64 1),h)) (be:∀ h,aCall E K 0 25 [.sl fb (bs l) cb,.int .i64 m] h=some (.ret (.tup [z.av,.int .i64 w]),h)) (ky:∀ h,aCall E K 0 27 [kg n x0 x1 x2 x3 x4 x5 x6 x7 x8 x9 x10 x11 x12 x13 x14 x15 true p fb l cb m] h=some (.ret (.tup [zel,.int .i64 w]),h)) (kc:∀ h,aCall E K 0 28 [kg n x0 x1 x2 x3 x4 x5 x6 x7 x8 x9 x10 x11 x12 x13 x14 x15 true p fb l cb m] h=some (.ret (.int .i64 w),h)):Con E (K + 1) 4 [ag n x0 x1 x2 x3 x4 x5 x6 x7 x8 x9 x10 x11 x12 x13 x14 x15 true p,.sl fb (bs l) cb,.int .i64 m] (.bool true):=by
  have o:=fun slot h hk => A8.opk (slot:=slot) (h:=h) (key:=(1,7,0)) (l:=40) (by simp [AV.pureL,AV.pure,El.avs_pure]) hk fw
  have lv:=A8.lives K hK 0
  have pl:=El.avs_pure p.s
  have kk:=El.avs_keys p.s
  have tq:=A3.seqT K (by omega)
  have hl:¬ (100:Int) < l.length:=by omega
  have zz:=sameZ K (by omega) 0
  rw [El.av_eq y'] at rf cy sy
  rw [El.av_eq y] at el sy
  rw [El.av_eq z] at be
  refine con_ofO E_fn4 (by simp [AV.pureL,AV.pure,El.avs_pure]) (Nat.le_of_ble_eq_true rfl) rfl (g:=[]) ?_
  rw [body_4,c4]
  simp [Call.operands,o,lv,pl,kk,tq,hr,hl,hw,oc,rf,cy,el,ck,sy,be,ky,kc,zz,El.avs_pure,El.avs_keys]
theorem okT (K:Nat) (hK:200 ≤ K) (n x0 x1 x2 x3 x4 x5 x6 x7 x8 x9 x10 x11 x12 x13 x14 x15:Int) (p:El) (fb:Bool) (l:List Int) (cb:Option Nat) (m:Int) (r l':Int) (fw:Fw K p r l') (hr:r ≠ 0) (ll:l.length ≤ 100) (oc:∀ h,aCall E K 0 21 [.agg [.int .u8 n,.int .u32 x0,.int .u32 x1,.int .u32 x2,.int .u32 x3,.int .u32 x4,.int .u32 x5,.int .u32 x6,.int .u32 x7,.int .u32 x8,.int .u32 x9,.int .u32 x10,.int .u32 x11,.int .u32 x12,.int .u32 x13,.int .u32 x14,.int .u32 x15]] h=some (.ret (.int .i64 0),h)) (y y' z:El) (w:Int) (rf:∀ h,aCall E K 0 23 [ag n x0 x1 x2 x3 x4 x5 x6 x7 x8 x9 x10 x11 x12 x13 x14 x15 true p] h=some (.ret y'.av,h)) (cy:∀ h,aCall E K 0 22 [y'.av] h=some (.ret (.int .i64 0),h)) (el:∀ h,aCall E K 0 19 [ag n x0 x1 x2 x3 x4 x5 x6 x7 x8 x9 x10 x11 x12 x13 x14 x15 true p] h=some (.ret (.tup [y.av,.int .i64 0]),h)) (ck:∀ h,aCall E K 0 24 [ag n x0 x1 x2 x3 x4 x5 x6 x7 x8 x9 x10 x11 x12 x13 x14 x15 true p] h=some (.ret (.int .i64 0),h)) (sy:∀ h,aCall E K 0 20 [y.av,y'.av] h=some (.ret (.int .i64 1),h)) (be:∀ h,aCall E K 0 25 [.sl fb (bs l) cb,.int .i64 m] h=some (.ret (.tup [z.av,.int .i64 0]),h)) (ce:∀ h,aCall E K 0 22 [(tp [y,z] 2).av] h=some (.ret (.int .i64 w),h)) (ky:∀ h,aCall E K 0 27 [kg n x0 x1 x2 x3 x4 x5 x6 x7 x8 x9 x10 x11 x12 x13 x14 x15 true p fb l cb m] h=some (.ret (.tup [(if w=0 then tp [y,z] 2 else E32.z0).av,.int .i64 w]),h)) (kc:∀ h,aCall E K 0 28 [kg n x0 x1 x2 x3 x4 x5 x6 x7 x8 x9 x10 x11 x12 x13 x14 x15 true p fb l cb m] h=some (.ret (.int .i64 w),h)):Con E (K + 1) 4 [ag n x0 x1 x2 x3 x4 x5 x6 x7 x8 x9 x10 x11 x12 x13 x14 x15 true p,.sl fb (bs l) cb,.int .i64 m] (.bool true):=by
  have o:=fun slot h hk => A8.opk (slot:=slot) (h:=h) (key:=(1,7,0)) (l:=40) (by simp [AV.pureL,AV.pure,El.avs_pure]) hk fw
  have lv:=A8.lives K hK 0
  have pl:=El.avs_pure p.s
  have kk:=El.avs_keys p.s
  have tq:=A3.seqT K (by omega)
  have hl:¬ (100:Int) < l.length:=by omega
  have zz:=sameZ K (by omega) 0
  have e:(tp [y,z] 2).av=.agg [.int .u8 0,.bool true,.int .u32 16,.sl true [] (some 0),.sl false [y.av,z.av] (some 2)]:=rfl
  by_cases hw:w=0
  · rw [if_pos hw,e] at ky
    rw [e] at ce
    rw [El.av_eq y'] at rf cy sy
    rw [El.av_eq y] at el sy ce ky
    rw [El.av_eq z] at be ce ky
    refine con_ofO E_fn4 (by simp [AV.pureL,AV.pure,El.avs_pure]) (Nat.le_of_ble_eq_true rfl) rfl (g:=[]) ?_
    rw [body_4,c4]
    simp [Call.operands,o,lv,pl,kk,tq,hr,hl,hw,oc,rf,cy,el,ck,sy,be,ce,ky,kc,zz,El.avs_pure,El.avs_keys]
  rw [if_neg hw,show E32.z0.av=zel from rfl] at ky
  rw [e] at ce
  rw [El.av_eq y'] at rf cy sy
  rw [El.av_eq y] at el sy ce
  rw [El.av_eq z] at be ce
  refine con_ofO E_fn4 (by simp [AV.pureL,AV.pure,El.avs_pure]) (Nat.le_of_ble_eq_true rfl) rfl (g:=[]) ?_
  rw [body_4,c4]
  simp [Call.operands,o,lv,pl,kk,tq,hr,hl,hw,oc,rf,cy,el,ck,sy,be,ce,ky,kc,zz,El.avs_pure,El.avs_keys]
theorem badEF (K:Nat) (hK:200 ≤ K) (n x0 x1 x2 x3 x4 x5 x6 x7 x8 x9 x10 x11 x12 x13 x14 x15:Int) (p:El) (fb:Bool) (l:List Int) (cb:Option Nat) (m:Int) (r l':Int) (fw:Fw K p r l') (hr:r ≠ 0) (ll:l.length ≤ 100) (oc:∀ h,aCall E K 0 21 [.agg [.int .u8 n,.int .u32 x0,.int .u32 x1,.int .u32 x2,.int .u32 x3,.int .u32 x4,.int .u32 x5,.int .u32 x6,.int .u32 x7,.int .u32 x8,.int .u32 x9,.int .u32 x10,.int .u32 x11,.int .u32 x12,.int .u32 x13,.int .u32 x14,.int .u32 x15]] h=some (.ret (.int .i64 0),h)) (sp:∀ h,aCall E K 0 20 [p.av,zel] h=some (.ret (.int .i64 1),h)) (y':El) (w:Int) (hw:w ≠ 0) (rf:∀ h,aCall E K 0 23 [ag n x0 x1 x2 x3 x4 x5 x6 x7 x8 x9 x10 x11 x12 x13 x14 x15 false p] h=some (.ret y'.av,h)) (cy:∀ h,aCall E K 0 22 [y'.av] h=some (.ret (.int .i64 w),h)) (el:∀ h,aCall E K 0 19 [ag n x0 x1 x2 x3 x4 x5 x6 x7 x8 x9 x10 x11 x12 x13 x14 x15 false p] h=some (.ret (.tup [zel,.int .i64 w]),h)) (ck:∀ h,aCall E K 0 24 [ag n x0 x1 x2 x3 x4 x5 x6 x7 x8 x9 x10 x11 x12 x13 x14 x15 false p] h=some (.ret (.int .i64 w),h)) (ky:∀ h,aCall E K 0 27 [kg n x0 x1 x2 x3 x4 x5 x6 x7 x8 x9 x10 x11 x12 x13 x14 x15 false p fb l cb m] h=some (.ret (.tup [zel,.int .i64 w]),h)) (kc:∀ h,aCall E K 0 28 [kg n x0 x1 x2 x3 x4 x5 x6 x7 x8 x9 x10 x11 x12 x13 x14 x15 false p fb l cb m] h=some (.ret (.int .i64 w),h)):Con E (K + 1) 4 [ag n x0 x1 x2 x3 x4 x5 x6 x7 x8 x9 x10 x11 x12 x13 x14 x15 false p,.sl fb (bs l) cb,.int .i64 m] (.bool true):=by
  have o:=fun slot h hk => A8.opk (slot:=slot) (h:=h) (key:=(1,7,0)) (l:=40) (by simp [AV.pureL,AV.pure,El.avs_pure]) hk fw
  have lv:=A8.lives K hK 0
  have pl:=El.avs_pure p.s
  have kk:=El.avs_keys p.s
  have tq:=A3.seqT K (by omega)
  have hl:¬ (100:Int) < l.length:=by omega
  have zz:=sameZ K (by omega) 0
  rw [El.av_eq p] at sp
  rw [El.av_eq y'] at rf cy
  refine con_ofO E_fn4 (by simp [AV.pureL,AV.pure,El.avs_pure]) (Nat.le_of_ble_eq_true rfl) rfl (g:=[]) ?_
  rw [body_4,c4]
  simp [Call.operands,o,lv,pl,kk,tq,hr,hl,hw,oc,sp,rf,cy,el,ck,ky,kc,zz,El.avs_pure,El.avs_keys]
theorem badBF (K:Nat) (hK:200 ≤ K) (n x0 x1 x2 x3 x4 x5 x6 x7 x8 x9 x10 x11 x12 x13 x14 x15:Int) (p:El) (fb:Bool) (l:List Int) (cb:Option Nat) (m:Int) (r l':Int) (fw:Fw K p r l') (hr:r ≠ 0) (ll:l.length ≤ 100) (oc:∀ h,aCall E K 0 21 [.agg [.int .u8 n,.int .u32 x0,.int .u32 x1,.int .u32 x2,.int .u32 x3,.int .u32 x4,.int .u32 x5,.int .u32 x6,.int .u32 x7,.int .u32 x8,.int .u32 x9,.int .u32 x10,.int .u32 x11,.int .u32 x12,.int .u32 x13,.int .u32 x14,.int .u32 x15]] h=some (.ret (.int .i64 0),h)) (sp:∀ h,aCall E K 0 20 [p.av,zel] h=some (.ret (.int .i64 1),h)) (y y' z:El) (w:Int) (hw:w ≠ 0) (rf:∀ h,aCall E K 0 23 [ag n x0 x1 x2 x3 x4 x5 x6 x7 x8 x9 x10 x11 x12 x13 x14 x15 false p] h=some (.ret y'.av,h)) (cy:∀ h,aCall E K 0 22 [y'.av] h=some (.ret (.int .i64 0),h)) (el:∀ h,aCall E K 0 19 [ag n x0 x1 x2 x3 x4 x5 x6 x7 x8 x9 x10 x11 x12 x13 x14 x15 false p] h=some (.ret (.tup [y.av,.int .i64 0]),h)) (ck:∀ h,aCall E K 0 24 [ag n x0 x1 x2 x3 x4 x5 x6 x7 x8 x9 x10 x11 x12 x13 x14 x15 false p] h=some (.ret (.int .i64 0),h)) (sy:∀ h,aCall E K 0 20 [y.av,y'.av] h=some (.ret (.int .i64 1),h)) (be:∀ h,aCall E K 0 25 [.sl fb (bs l) cb,.int .i64 m] h=some (.ret (.tup [z.av,.int .i64 w]),h)) (ky:∀ h,aCall E K 0 27 [kg n x0 x1 x2 x3 x4 x5 x6 x7 x8 x9 x10 x11 x12 x13 x14 x15 false p fb l cb m] h=some (.ret (.tup [zel,.int .i64 w]),h)) (kc:∀ h,aCall E K 0 28 [kg n x0 x1 x2 x3 x4 x5 x6 x7 x8 x9 x10 x11 x12 x13 x14 x15 false p fb l cb m] h=some (.ret (.int .i64 w),h)):Con E (K + 1) 4 [ag n x0 x1 x2 x3 x4 x5 x6 x7 x8 x9 x10 x11 x12 x13 x14 x15 false p,.sl fb (bs l) cb,.int .i64 m] (.bool true):=by
  have o:=fun slot h hk => A8.opk (slot:=slot) (h:=h) (key:=(1,7,0)) (l:=40) (by simp [AV.pureL,AV.pure,El.avs_pure]) hk fw
  have lv:=A8.lives K hK 0
  have pl:=El.avs_pure p.s
  have kk:=El.avs_keys p.s
  have tq:=A3.seqT K (by omega)
  have hl:¬ (100:Int) < l.length:=by omega
  have zz:=sameZ K (by omega) 0
  rw [El.av_eq p] at sp
  rw [El.av_eq y'] at rf cy sy
  rw [El.av_eq y] at el sy
  rw [El.av_eq z] at be
  refine con_ofO E_fn4 (by simp [AV.pureL,AV.pure,El.avs_pure]) (Nat.le_of_ble_eq_true rfl) rfl (g:=[]) ?_
  rw [body_4,c4]
  simp [Call.operands,o,lv,pl,kk,tq,hr,hl,hw,oc,sp,rf,cy,el,ck,sy,be,ky,kc,zz,El.avs_pure,El.avs_keys]
theorem okF (K:Nat) (hK:200 ≤ K) (n x0 x1 x2 x3 x4 x5 x6 x7 x8 x9 x10 x11 x12 x13 x14 x15:Int) (p:El) (fb:Bool) (l:List Int) (cb:Option Nat) (m:Int) (r l':Int) (fw:Fw K p r l') (hr:r ≠ 0) (ll:l.length ≤ 100) (oc:∀ h,aCall E K 0 21 [.agg [.int .u8 n,.int .u32 x0,.int .u32 x1,.int .u32 x2,.int .u32 x3,.int .u32 x4,.int .u32 x5,.int .u32 x6,.int .u32 x7,.int .u32 x8,.int .u32 x9,.int .u32 x10,.int .u32 x11,.int .u32 x12,.int .u32 x13,.int .u32 x14,.int .u32 x15]] h=some (.ret (.int .i64 0),h)) (sp:∀ h,aCall E K 0 20 [p.av,zel] h=some (.ret (.int .i64 1),h)) (y y' z:El) (w:Int) (rf:∀ h,aCall E K 0 23 [ag n x0 x1 x2 x3 x4 x5 x6 x7 x8 x9 x10 x11 x12 x13 x14 x15 false p] h=some (.ret y'.av,h)) (cy:∀ h,aCall E K 0 22 [y'.av] h=some (.ret (.int .i64 0),h)) (el:∀ h,aCall E K 0 19 [ag n x0 x1 x2 x3 x4 x5 x6 x7 x8 x9 x10 x11 x12 x13 x14 x15 false p] h=some (.ret (.tup [y.av,.int .i64 0]),h)) (ck:∀ h,aCall E K 0 24 [ag n x0 x1 x2 x3 x4 x5 x6 x7 x8 x9 x10 x11 x12 x13 x14 x15 false p] h=some (.ret (.int .i64 0),h)) (sy:∀ h,aCall E K 0 20 [y.av,y'.av] h=some (.ret (.int .i64 1),h)) (be:∀ h,aCall E K 0 25 [.sl fb (bs l) cb,.int .i64 m] h=some (.ret (.tup [z.av,.int .i64 0]),h)) (ce:∀ h,aCall E K 0 22 [(tp [y,z] 2).av] h=some (.ret (.int .i64 w),h)) (ky:∀ h,aCall E K 0 27 [kg n x0 x1 x2 x3 x4 x5 x6 x7 x8 x9 x10 x11 x12 x13 x14 x15 false p fb l cb m] h=some (.ret (.tup [(if w=0 then tp [y,z] 2 else E32.z0).av,.int .i64 w]),h)) (kc:∀ h,aCall E K 0 28 [kg n x0 x1 x2 x3 x4 x5 x6 x7 x8 x9 x10 x11 x12 x13 x14 x15 false p fb l cb m] h=some (.ret (.int .i64 w),h)):Con E (K + 1) 4 [ag n x0 x1 x2 x3 x4 x5 x6 x7 x8 x9 x10 x11 x12 x13 x14 x15 false p,.sl fb (bs l) cb,.int .i64 m] (.bool true):=by
  have o:=fun slot h hk => A8.opk (slot:=slot) (h:=h) (key:=(1,7,0)) (l:=40) (by simp [AV.pureL,AV.pure,El.avs_pure]) hk fw
  have lv:=A8.lives K hK 0
  have pl:=El.avs_pure p.s
  have kk:=El.avs_keys p.s
  have tq:=A3.seqT K (by omega)
  have hl:¬ (100:Int) < l.length:=by omega
  have zz:=sameZ K (by omega) 0
  rw [El.av_eq p] at sp
  have e:(tp [y,z] 2).av=.agg [.int .u8 0,.bool true,.int .u32 16,.sl true [] (some 0),.sl false [y.av,z.av] (some 2)]:=rfl
  by_cases hw:w=0
  · rw [if_pos hw,e] at ky
    rw [e] at ce
    rw [El.av_eq y'] at rf cy sy
    rw [El.av_eq y] at el sy ce ky
    rw [El.av_eq z] at be ce ky
    refine con_ofO E_fn4 (by simp [AV.pureL,AV.pure,El.avs_pure]) (Nat.le_of_ble_eq_true rfl) rfl (g:=[]) ?_
    rw [body_4,c4]
    simp [Call.operands,o,lv,pl,kk,tq,hr,hl,hw,oc,sp,rf,cy,el,ck,sy,be,ce,ky,kc,zz,El.avs_pure,El.avs_keys]
  rw [if_neg hw,show E32.z0.av=zel from rfl] at ky
  rw [e] at ce
  rw [El.av_eq y'] at rf cy sy
  rw [El.av_eq y] at el sy ce
  rw [El.av_eq z] at be ce
  refine con_ofO E_fn4 (by simp [AV.pureL,AV.pure,El.avs_pure]) (Nat.le_of_ble_eq_true rfl) rfl (g:=[]) ?_
  rw [body_4,c4]
  simp [Call.operands,o,lv,pl,kk,tq,hr,hl,hw,oc,sp,rf,cy,el,ck,sy,be,ce,ky,kc,zz,El.avs_pure,El.avs_keys]
end A16
end
end
