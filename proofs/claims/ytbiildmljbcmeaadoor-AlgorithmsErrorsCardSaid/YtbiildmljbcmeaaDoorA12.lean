/- Own work, no conditions. -/
import Derived.Test.YtbiildmljbcmeaaDoorS2
import Derived.Test.YtbiildmljbcmeaaDoorT36
import Derived.Test.YtbiildmljbcmeaaDoorSq
import Derived.Test.YtbiildmljbcmeaaDoorF7
import Derived.Test.YtbiildmljbcmeaaDoorDG
import Derived.Test.YtbiildmljbcmeaaDoorT23
import Derived.Test.YtbiildmljbcmeaaDoorOFn
set_option maxRecDepth 20000
set_option linter.unusedSimpArgs false
set_option linter.unusedVariables false
set_option maxHeartbeats 16000000
section
open Ab Go TabE
attribute [local simp ↓] s_seq s_reg s_regd s_cond s_block s_cons s_consG s_regD
attribute [local simp] s_nil s_loop s_round s_lpn s_lpe s_lpr firstReg s_gt s_gf s_wb s_wu s_val s_valN s_skip s_calls s_callP s_cax lookR flatR pureKs s_ret s_rgx s_sqn s_sqr s_sqe s_cdb s_bkn s_bkr s_bke s_exit s_ret' s_skip' s_finr s_finn s_fin1 s_fix s_clean s_gc0 o_tmp o_int o_bool o_nil o_str o_fn o_nil' l_hit l_miss l_nil ol_nil ol_cons ol_some x_move x_assign x_pick pk_t pk_f x_bin bn_s x_un x_extract x_callF cl_no x_callB x_callBF frzV x_conv cvx convA frame0 binA intOp resL resA results1 sealLW AV.pure AV.pureL keepT x_alloc x_box bxx x_build bdx x_buildSlice bsx x_buildSliceF bsf x_load ldx x_store stx x_slice slx x_fieldAddr x_field x_index ixx x_indexAddr iax x_makeSlice msx x_makeSliceF msf x_nilCheck newK genOf setK lookK fillA writeL writeC readC conts TyI.mk1 sliceA boundsA boundsB fitsA numA indexAddrA fieldAddrA partA fieldA indexA appendA copyA builtinA AV.cells chunk gcH reach keysT keepK inKs AV.keys AV.keysL Ty.isAgg eq1 eqL convA.go ltI w_u8 w_u32 w_u64 w_i64 w_fdiv w_tdiv w_tmod IntKind.bits unA sc_int sc_bool sc_str sc_sl sc_ref sc_ptr sc_pel sc_nilp sc_fn sc_nilf sc_if sc_nili sc_agg sc_tup sc_mem bs_pure bs_kl bs_length bs_cells bs_all sl_row sealRow sealY sl_int sl_bool sl_str sl_sl sl_nilp sl_nilf sl_nili sl_pel sl_agg sl_tup sl_fn sl_if nat_1 bs_cons bs_nil i_beq i_bne x_mkF x_mkI x_tassert x_panic s_pan s_sqp s_bkp s_finp s_fixp s_lpp s_rgp s_retp s_site s_stxN s_stxO x_callT clx El.avs_len s_dyn0 s_rgy barOf dynChk footL dynOK disjK keysOp opVals Op.operands
section
open Ab Go TabE Sp E34 F1 Rw F5 F6 F7 F8 F43 F47 AP A1 A2 A6 A7
namespace K1
theorem ck_rg {b:List Int} {n:Int} (h:T34.ck b n=0):0 ≤ n ∧ n ≤ 524288 ∧ 0 ≤ 8 * (b.length:Int) - n ∧ 8 * (b.length:Int) - n ≤ 7:=by
  unfold T34.ck at h
  split at h
  · cases h
  split at h
  · cases h
  split at h
  · cases h
  omega
theorem put (f:Bool) (c:Option Nat) (b:List Int) (n:Int) (hb:isB b) (hl:b.length ≤ 65536) (h:T34.ck b n=0):Con E 100 75 [.sl f (bs b) c,.int .i64 n] (.tup [.sl false (bs ((8 * (b.length:Int) - n) :: b)) (some (1 + b.length)),.int .i64 0]):=by
  obtain ⟨n0,n1,m0,m1⟩:=ck_rg h
  have C:=T34.chk f c b n hb hl
  rw [h] at C
  have u:=T11.unused n (8 * (b.length:Int) - n) n0 (by omega) (by omega)
  have C':=C 99 (by omega) 0
  have u':=u 99 (by omega) 0
  have J:=fun cc => T3.joined false f cc c [8 * (b.length:Int) - n] b (by simp) (by omega) 99 (by omega) 0
  have w:(8 * (b.length:Int) - n) % 256=8 * (b.length:Int) - n:=by omega
  have w':(8 * (b.length:Int) - n) % 18446744073709551616=8 * (b.length:Int) - n:=by omega
  refine con_of E_fn75 (by simp [AV.pureL,AV.pure]) (Nat.le_of_ble_eq_true rfl) rfl rfl (g:=[]) ?_
  rw [body_75,c75]
  simp [bs_cons,bs_nil] at J
  simp [C',u',w,w',J]
abbrev lb (b:List Int) (n:Nat):El:=.mk 0 false 3 false b (some n) true [] (some 0)
theorem elem (f:Bool) (c:Option Nat) (b:List Int) (n:Int) (hb:isB b) (hl:b.length ≤ 65536):Con E 120 25 [.sl f (bs b) c,.int .i64 n] (.tup [(if T34.ck b n=0 then (lb ((8 * (b.length:Int) - n) :: b) (1 + b.length)).av else E32.z0.av),.int .i64 (T34.ck b n)]):=by
  by_cases h:T34.ck b n=0
  · rw [if_pos h,h]
    exact T36.elem_ok f c b _ n _ (put f c b n hb hl h)
  · rw [if_neg h]
    have C:=T34.chk f c b n hb hl
    exact T36.elem_err f c b n _ h (T36.put_err f c b n _ h C)
end K1
end
end
section
open Ab Go TabE
namespace K2
theorem opc {run:RunF} {slot:Nat} {f:FuncId} {cs:List AV} {v:AV} {h:Heap} {key:Key} {hf:Heap} (hp:AV.pureL cs=true) (hv:v.pure=true) (hk:lookK h key=some (bx cs))
    (hl:lookK hf (0,0,0)=some (bx cs)) (hr:run f [.ptr (0,0,0) 0] [((0,0,0),bx cs)]=some (.ret v,hf)) :
    opened [true] true run slot f [.ptr key 0] h=some (.ret v,setK h key (bx cs)):=by
  have e1:sealM (sealA 20) [true] h [.ptr key 0]=some ([.ptr key 0],h):=by simp [sealM]
  have k1:AV.keysL cs=[]:=AV.keysL_pure _ hp
  have r1:∀ φ,AV.rnL φ cs=cs:=fun φ => rnL_pure cs hp
  unfold opened
  rw [e1]
  have e2:AV.keysL [.ptr key 0]=[key]:=by simp [AV.keysL,AV.keys]
  simp only [e2]
  have e3:dd (reach h 3 [key])=[key]:=by simp [reach,hk,k1,dd]
  rw [e3]
  unfold lendA
  have e4:lendH h (inK [key]) [key]=some [((0,0,0),bx cs)]:=by simp [lendH,hk,inK,posK,r1]
  rw [e4]
  have e6:closedH h [key] [key]=true:=by simp [closedH,hk,k1]
  simp only [e2]
  rw [if_pos ⟨e6,by simp [inKs]⟩]
  have e5:AV.rnL (inK [key]) [.ptr key 0]=[.ptr (0,0,0) 0]:=by simp [AV.rnL,AV.rn,inK,posK]
  rw [e5,hr]
  have e9:lentKs 1=[(0,0,0)]:=rfl
  have e7:dd (reach hf 3 ([(0,0,0)] ++ []))=[(0,0,0)]:=by simp [reach,hl,k1,dd]
  have e10:closedH hf [(0,0,0)] [(0,0,0)]=true:=by simp [closedH,hl,k1]
  have e8:AV.keysL [v]=[]:=by simp [AV.keysL,AV.keys_pure v hv]
  have e11:∀ g:Heap,sealA 20 g v=some (v,g):=fun g => sealA_of_pure hv
  have e12:∀ φ,AV.rnL φ [v]=[v]:=fun φ => by simp [AV.rnL,rn_pure v hv]
  simp only [backR,if_true,e11,backV,Ab.back,List.length_singleton,e8,e9,e7,backA]
  rw [if_pos ⟨e10,by rfl,by rfl,by rfl⟩]
  simp [AV.rnL,AV.rn,rn_pure v hv,outK,posK,putAll,hl,r1]
end K2
end
section
open Ab Go TabE
attribute [local simp ↓] s_seq s_reg s_regd s_cond s_block s_cons s_consG s_regD
attribute [local simp] s_nil s_loop s_round s_lpn s_lpe s_lpr firstReg s_gt s_gf s_wb s_wu s_val s_valN s_skip s_calls s_callP s_cax lookR flatR pureKs s_ret s_rgx s_sqn s_sqr s_sqe s_cdb s_bkn s_bkr s_bke s_exit s_ret' s_skip' s_finr s_finn s_fin1 s_fix s_clean s_gc0 o_tmp o_int o_bool o_nil o_str o_fn o_nil' l_hit l_miss l_nil ol_nil ol_cons ol_some x_move x_assign x_pick pk_t pk_f x_bin bn_s x_un x_extract x_callF cl_no x_callB x_callBF frzV x_conv cvx convA frame0 binA intOp resL resA results1 sealLW AV.pure AV.pureL keepT x_alloc x_box bxx x_build bdx x_buildSlice bsx x_buildSliceF bsf x_load ldx x_store stx x_slice slx x_fieldAddr x_field x_index ixx x_indexAddr iax x_makeSlice msx x_makeSliceF msf x_nilCheck newK genOf setK lookK fillA writeL writeC readC conts TyI.mk1 sliceA boundsA boundsB fitsA numA indexAddrA fieldAddrA partA fieldA indexA appendA copyA builtinA AV.cells chunk gcH reach keysT keepK inKs AV.keys AV.keysL Ty.isAgg eq1 eqL convA.go ltI w_u8 w_u32 w_u64 w_i64 w_fdiv w_tdiv w_tmod IntKind.bits unA sc_int sc_bool sc_str sc_sl sc_ref sc_ptr sc_pel sc_nilp sc_fn sc_nilf sc_if sc_nili sc_agg sc_tup sc_mem bs_pure bs_kl bs_length bs_cells bs_all sl_row sealRow sealY sl_int sl_bool sl_str sl_sl sl_nilp sl_nilf sl_nili sl_pel sl_agg sl_tup sl_fn sl_if nat_1 bs_cons bs_nil i_beq i_bne x_mkF x_mkI x_tassert x_panic s_pan s_sqp s_bkp s_finp s_fixp s_lpp s_rgp s_retp s_site s_stxN s_stxO x_callT clx El.avs_len s_dyn0 s_rgy barOf dynChk footL dynOK disjK keysOp opVals Op.operands
section
open Ab Go TabE Sp E34 F1 Rw F5 F6 F7 F8 F43 F47 AP A1 A2 A6 A7 K1
namespace K3
abbrev kc (n x0 x1 x2 x3 x4 x5 x6 x7 x8 x9 x10 x11 x12 x13 x14 x15:Int) (b:Bool) (p:El) (f:Bool) (o:List Int) (c:Option Nat) (m:Int):List AV:=[.int .u8 n,.int .u32 x0,.int .u32 x1,.int .u32 x2,.int .u32 x3,.int .u32 x4,.int .u32 x5,.int .u32 x6,.int .u32 x7,.int .u32 x8,.int .u32 x9,.int .u32 x10,.int .u32 x11,.int .u32 x12,.int .u32 x13,.int .u32 x14,.int .u32 x15,.bool b,.int .u8 p.c,.bool p.k,.int .u32 p.n,.sl p.fb (bs p.b) p.cb,.sl p.fs (El.avs p.s) p.cs,.sl f (bs o) c,.int .i64 m]
abbrev kg (n x0 x1 x2 x3 x4 x5 x6 x7 x8 x9 x10 x11 x12 x13 x14 x15:Int) (b:Bool) (p:El) (f:Bool) (o:List Int) (c:Option Nat) (m:Int):AV:=.agg [.int .u8 n,.int .u32 x0,.int .u32 x1,.int .u32 x2,.int .u32 x3,.int .u32 x4,.int .u32 x5,.int .u32 x6,.int .u32 x7,.int .u32 x8,.int .u32 x9,.int .u32 x10,.int .u32 x11,.int .u32 x12,.int .u32 x13,.int .u32 x14,.int .u32 x15,.bool b,.int .u8 p.c,.bool p.k,.int .u32 p.n,.sl p.fb (bs p.b) p.cb,.sl p.fs (El.avs p.s) p.cs,.sl f (bs o) c,.int .i64 m]
abbrev Ea (K:Nat) (n x0 x1 x2 x3 x4 x5 x6 x7 x8 x9 x10 x11 x12 x13 x14 x15:Int) (b:Bool) (p y:El) (w:Int):Prop:=∀ h,aCall E K 0 19 [ag n x0 x1 x2 x3 x4 x5 x6 x7 x8 x9 x10 x11 x12 x13 x14 x15 b p] h=some (.ret (.tup [y.av,.int .i64 w]),h)
abbrev Eb (K:Nat) (f:Bool) (o:List Int) (c:Option Nat) (m:Int) (y:El) (w:Int):Prop:=∀ h,aCall E K 0 25 [.sl f (bs o) c,.int .i64 m] h=some (.ret (.tup [y.av,.int .i64 w]),h)
theorem kp (n x0 x1 x2 x3 x4 x5 x6 x7 x8 x9 x10 x11 x12 x13 x14 x15:Int) (b:Bool) (p:El) (f:Bool) (o:List Int) (c:Option Nat) (m:Int):AV.pureL (kc n x0 x1 x2 x3 x4 x5 x6 x7 x8 x9 x10 x11 x12 x13 x14 x15 b p f o c m)=true:=by simp [AV.pureL,AV.pure,El.avs_pure]
theorem cloA (K:Nat) (n x0 x1 x2 x3 x4 x5 x6 x7 x8 x9 x10 x11 x12 x13 x14 x15:Int) (b:Bool) (p y:El) (f:Bool) (o:List Int) (c:Option Nat) (m w:Int) (A:Ea K n x0 x1 x2 x3 x4 x5 x6 x7 x8 x9 x10 x11 x12 x13 x14 x15 b p y w):aRun E (K + 1) 125 [.ptr (0,0,0) 0] [((0,0,0),bx (kc n x0 x1 x2 x3 x4 x5 x6 x7 x8 x9 x10 x11 x12 x13 x14 x15 b p f o c m))]=some (.ret (.tup [y.av,.int .i64 w]),[((0,0,0),bx (kc n x0 x1 x2 x3 x4 x5 x6 x7 x8 x9 x10 x11 x12 x13 x14 x15 b p f o c m)),((1,1,0),bx (ec y))]):=by
  rw [aRun_fn rfl E_fn125 rfl (Nat.le_of_ble_eq_true rfl),body_125,c125]
  unfold Ea at A; rw [El.av_eq y] at A ⊢
  simp [A,El.avs_pure]
theorem cloB (K:Nat) (n x0 x1 x2 x3 x4 x5 x6 x7 x8 x9 x10 x11 x12 x13 x14 x15:Int) (b:Bool) (p y:El) (f:Bool) (o:List Int) (c:Option Nat) (m w:Int) (A:Eb K f o c m y w):aRun E (K + 1) 126 [.ptr (0,0,0) 0] [((0,0,0),bx (kc n x0 x1 x2 x3 x4 x5 x6 x7 x8 x9 x10 x11 x12 x13 x14 x15 b p f o c m))]=some (.ret (.tup [y.av,.int .i64 w]),[((0,0,0),bx (kc n x0 x1 x2 x3 x4 x5 x6 x7 x8 x9 x10 x11 x12 x13 x14 x15 b p f o c m)),((1,1,0),bx (ec y))]):=by
  rw [aRun_fn rfl E_fn126 rfl (Nat.le_of_ble_eq_true rfl),body_126,c126]
  unfold Eb at A; rw [El.av_eq y] at A ⊢
  simp [A,El.avs_pure]
theorem tp_pure (y:El) (w:Int):(AV.tup [y.av,.int .i64 w]).pure=true:=by simp [AV.pure,AV.pureL,El.av_pure]
theorem bad1 (k:Nat) (hK:60 ≤ k) (n x0 x1 x2 x3 x4 x5 x6 x7 x8 x9 x10 x11 x12 x13 x14 x15:Int) (b:Bool) (p y:El) (f:Bool) (o:List Int) (c:Option Nat) (m w:Int) (hw:w ≠ 0) (A:Ea (k + 10) n x0 x1 x2 x3 x4 x5 x6 x7 x8 x9 x10 x11 x12 x13 x14 x15 b p y w):Con E (k + 12) 77 [kg n x0 x1 x2 x3 x4 x5 x6 x7 x8 x9 x10 x11 x12 x13 x14 x15 b p f o c m] (.tup [zel,.int .i64 w]):=by
  have oA:=fun slot h hk => K2.opc (slot:=slot) (h:=h) (key:=(1,1,0)) (kp n x0 x1 x2 x3 x4 x5 x6 x7 x8 x9 x10 x11 x12 x13 x14 x15 b p f o c m) (tp_pure y w) hk rfl (cloA (k + 10) n x0 x1 x2 x3 x4 x5 x6 x7 x8 x9 x10 x11 x12 x13 x14 x15 b p y f o c m w A)
  refine con_ofO E_fn77 (by simp [AV.pureL,AV.pure,El.avs_pure]) (Nat.le_of_ble_eq_true rfl) rfl (g:=[]) ?_
  rw [body_77,c77]
  rw [El.av_eq y] at oA
  simp [oA,hw,o_glob,El.avs_pure]
theorem bad2 (k:Nat) (hK:60 ≤ k) (n x0 x1 x2 x3 x4 x5 x6 x7 x8 x9 x10 x11 x12 x13 x14 x15:Int) (b:Bool) (p y z:El) (f:Bool) (o:List Int) (c:Option Nat) (m w:Int) (hw:w ≠ 0) (A:Ea (k + 10) n x0 x1 x2 x3 x4 x5 x6 x7 x8 x9 x10 x11 x12 x13 x14 x15 b p y 0) (B:Eb (k + 10) f o c m z w):Con E (k + 12) 77 [kg n x0 x1 x2 x3 x4 x5 x6 x7 x8 x9 x10 x11 x12 x13 x14 x15 b p f o c m] (.tup [zel,.int .i64 w]):=by
  have oA:=fun slot h hk => K2.opc (slot:=slot) (h:=h) (key:=(1,1,0)) (kp n x0 x1 x2 x3 x4 x5 x6 x7 x8 x9 x10 x11 x12 x13 x14 x15 b p f o c m) (tp_pure y 0) hk rfl (cloA (k + 10) n x0 x1 x2 x3 x4 x5 x6 x7 x8 x9 x10 x11 x12 x13 x14 x15 b p y f o c m 0 A)
  have oB:=fun slot h hk => K2.opc (slot:=slot) (h:=h) (key:=(1,1,0)) (kp n x0 x1 x2 x3 x4 x5 x6 x7 x8 x9 x10 x11 x12 x13 x14 x15 b p f o c m) (tp_pure z w) hk rfl (cloB (k + 10) n x0 x1 x2 x3 x4 x5 x6 x7 x8 x9 x10 x11 x12 x13 x14 x15 b p z f o c m w B)
  refine con_ofO E_fn77 (by simp [AV.pureL,AV.pure,El.avs_pure]) (Nat.le_of_ble_eq_true rfl) rfl (g:=[]) ?_
  rw [body_77,c77]
  rw [El.av_eq y] at oA
  rw [El.av_eq z] at oB
  simp [oA,oB,hw,o_glob,El.avs_pure]
theorem ok (k:Nat) (hK:60 ≤ k) (n x0 x1 x2 x3 x4 x5 x6 x7 x8 x9 x10 x11 x12 x13 x14 x15:Int) (b:Bool) (p y z:El) (f:Bool) (o:List Int) (c:Option Nat) (m:Int) (A:Ea (k + 10) n x0 x1 x2 x3 x4 x5 x6 x7 x8 x9 x10 x11 x12 x13 x14 x15 b p y 0) (B:Eb (k + 10) f o c m z 0):Con E (k + 12) 77 [kg n x0 x1 x2 x3 x4 x5 x6 x7 x8 x9 x10 x11 x12 x13 x14 x15 b p f o c m] (.tup [(tp [y,z] 2).av,.int .i64 0]):=by
  have oA:=fun slot h hk => K2.opc (slot:=slot) (h:=h) (key:=(1,1,0)) (kp n x0 x1 x2 x3 x4 x5 x6 x7 x8 x9 x10 x11 x12 x13 x14 x15 b p f o c m) (tp_pure y 0) hk rfl (cloA (k + 10) n x0 x1 x2 x3 x4 x5 x6 x7 x8 x9 x10 x11 x12 x13 x14 x15 b p y f o c m 0 A)
  have oB:=fun slot h hk => K2.opc (slot:=slot) (h:=h) (key:=(1,1,0)) (kp n x0 x1 x2 x3 x4 x5 x6 x7 x8 x9 x10 x11 x12 x13 x14 x15 b p f o c m) (tp_pure z 0) hk rfl (cloB (k + 10) n x0 x1 x2 x3 x4 x5 x6 x7 x8 x9 x10 x11 x12 x13 x14 x15 b p z f o c m 0 B)
  have cc:=fun f xs c hp => QC.clipE f xs c hp (k + 11) (by omega) 0
  refine con_ofO E_fn77 (by simp [AV.pureL,AV.pure,El.avs_pure]) (Nat.le_of_ble_eq_true rfl) rfl (g:=[]) ?_
  rw [body_77,c77]
  have e:(tp [y,z] 2).av=.agg [.int .u8 0,.bool true,.int .u32 16,.sl true [] (some 0),.sl false [y.av,z.av] (some 2)]:=rfl
  rw [e]
  rw [El.av_eq y] at oA ⊢
  rw [El.av_eq z] at oB ⊢
  simp [oA,oB,cc,o_glob,El.avs_pure,SG.sl_g,SG.sealG,SG.sealYG]
end K3
end
end
section
open Ab Go TabE Sp E34 F1 Rw F4 F5 F6 F7 F8 F43 F47 AP A1 A2 A6 A7 K1 K3
namespace A10
def b:Code:=lp c30 0
section
variable (q k1:Nat) (k:Int) (fp:Bool) (ps:List Int) (cp:Option Nat) (fb:Bool) (l:List Int) (cb:Option Nat) (un:Int) (n x0 x1 x2 x3 x4 x5 x6 x7 x8 x9 x10 x11 x12 x13 x14 x15:Int) (b':Bool) (p:El)
end
def kb (l:List Int) (un:Int):List Int:=(l.take 20).set ((l.take 20).length - 1) (((l.take 20).getLastD 0) / 2 ^ (un % 8).toNat * 2 ^ (un % 8).toNat)
end A10
end
section
open Ab Go TabE
attribute [local simp ↓] s_seq s_reg s_regd s_cond s_block s_cons s_consG s_regD
attribute [local simp] s_nil s_loop s_round s_lpn s_lpe s_lpr firstReg s_gt s_gf s_wb s_wu s_val s_valN s_skip s_calls s_callP s_cax lookR flatR pureKs s_ret s_rgx s_sqn s_sqr s_sqe s_cdb s_bkn s_bkr s_bke s_exit s_ret' s_skip' s_finr s_finn s_fin1 s_fix s_clean s_gc0 o_tmp o_int o_bool o_nil o_str o_fn o_nil' l_hit l_miss l_nil ol_nil ol_cons ol_some x_move x_assign x_pick pk_t pk_f x_bin bn_s x_un x_extract x_callF cl_no x_callB x_callBF frzV x_conv cvx convA frame0 binA intOp resL resA results1 sealLW AV.pure AV.pureL keepT x_alloc x_box bxx x_build bdx x_buildSlice bsx x_buildSliceF bsf x_load ldx x_store stx x_slice slx x_fieldAddr x_field x_index ixx x_indexAddr iax x_makeSlice msx x_makeSliceF msf x_nilCheck newK genOf setK lookK fillA writeL writeC readC conts TyI.mk1 sliceA boundsA boundsB fitsA numA indexAddrA fieldAddrA partA fieldA indexA appendA copyA builtinA AV.cells chunk gcH reach keysT keepK inKs AV.keys AV.keysL Ty.isAgg eq1 eqL convA.go ltI w_u8 w_u32 w_u64 w_i64 w_fdiv w_tdiv w_tmod IntKind.bits unA sc_int sc_bool sc_str sc_sl sc_ref sc_ptr sc_pel sc_nilp sc_fn sc_nilf sc_if sc_nili sc_agg sc_tup sc_mem bs_pure bs_kl bs_length bs_cells bs_all sl_row sealRow sealY sl_int sl_bool sl_str sl_sl sl_nilp sl_nilf sl_nili sl_pel sl_agg sl_tup sl_fn sl_if nat_1 bs_cons bs_nil i_beq i_bne x_mkF x_mkI x_tassert x_panic s_pan s_sqp s_bkp s_finp s_fixp s_lpp s_rgp s_retp s_site s_stxN s_stxO x_callT clx El.avs_len s_dyn0 s_rgy barOf dynChk footL dynOK disjK keysOp opVals Op.operands
section
open Ab Go TabE Sp
namespace B0g
def b:Code:=lp c74 0
abbrev cs (n:Int) (xs:List Int):List AV:=.int .u8 n :: Q22.u32s xs
abbrev S0 (n:Int) (xs g0:List Int) (c0:Option Nat) (e0:Bool) (i:Nat):St:=⟨[(1,.ptr (1,1,0) 0),(3,.ref (1,13,0) 0 g0.length c0),(4,.int .i64 (i:Int))],[((1,1,0),bx (cs n xs)),((1,13,0),⟨bs g0,true,true,e0,1,false⟩)]⟩
abbrev SR (n:Int) (xs:List Int) (m:Nat) (ys:List Int) (i:Nat):St:=⟨[(1,.ptr (1,1,0) 0),(3,.ref (1,27,m) 0 ys.length none),(4,.int .i64 (i:Int))],[((1,1,0),bx (cs n xs)),((1,27,m),⟨bs ys,true,true,false,1,false⟩)]⟩
abbrev Dg (q:Nat) (x:Int) (gx:List Int) (c:Option Nat) (ex:Bool):Prop:=∀ slot h,opened [false] false (aRun E q) slot 112 [.int .u32 x] h=some (.ret (.ref (1,slot,genOf h 1 slot) 0 gx.length c),setK h (1,slot,genOf h 1 slot) ⟨bs gx,true,true,ex,1,false⟩)
theorem first (q k1:Nat) (n:Int) (xs:List Int) (i:Nat) (x:Int) (hx:xs[i]? = some x) (hn:(i:Int) < n) (h16:n ≤ 16) (hl:xs.length=16) (gx:List Int) (c:Option Nat) (ex:Bool) (gl:gx.length ≤ 5) (gn:gx ≠ []) (D:Dg q x gx c ex) (g0:List Int) (c0:Option Nat) (e0:Bool) (gl0:g0.length ≤ 5) (hc:(c0=none ∧ e0=false) ∨ c0=some g0.length):rndO fn74 b q k1 (S0 n xs g0 c0 e0 i)=some (.normal,SR n xs 0 (g0 ++ gx) (i + 1)):=by
  have hi:i < xs.length:=(List.getElem?_eq_some_iff.1 hx).1
  have w:=w64' ((i:Int) + 1) (by omega) (by omega)
  have wn:=w_i64 n (by omega) (by omega)
  have ia:∀ h,indexAddrA E 33 (.ptr (1,1,0) 1) (.int .i64 (i:Int)) h=some (.ptr (1,1,0) (i + 1)):=fun h => by
    have e:i < 16:=by omega
    have e2:(i:Int) < 16:=by omega
    simp [indexAddrA,E_ty33,E_ty23,TyI.mk1,e,e2]
    all_goals omega
  have rd:((Q22.u32s xs).drop i).take 1=[.int .u32 x]:=by
    have e:(Q22.u32s xs)[i]? = some (.int .u32 x):=by unfold Q22.u32s; rw [List.getElem?_map,hx]; rfl
    obtain ⟨z1,z2⟩:=List.getElem?_eq_some_iff.1 e
    rw [List.drop_eq_getElem_cons z1,z2]
    rfl
  have ul:(Q22.u32s xs).length=16:=by unfold Q22.u32s; simp [hl]
  have uk:=Q22.u32s_keys xs
  have l1:i + 1 + 1 ≤ 17:=by omega
  have l2:i + 1 ≤ 16:=by omega
  have l3:i < 16:=by omega
  have g1:0 < gx.length:=List.length_pos_iff.2 gn
  have g0':¬ gx.length=0:=by omega
  have kx:=bs_kl gx
  have sx:=bs_all gx
  have kk:AV.keysL (bs g0 ++ bs gx)=[]:=by rw [← bs_append]; exact bs_kl _
  have kg:=bs_kl g0
  have cp:g0.length + gx.length ≤ 70368744177664:=by omega
  have g3:¬ g0.length + gx.length ≤ g0.length:=by omega
  unfold Dg at D
  rcases hc with ⟨rfl,rfl⟩ | rfl
  · simp [b,lp,lps,c74,-indexAddrA,ia,w,wn,hn,D,rd,ul,uk,kk,kg,kx,sx,cp,gn,bs_append,l1,l2,l3,g3,g0']
  · cases e0 <;> simp [b,lp,lps,c74,-indexAddrA,ia,w,wn,hn,D,rd,ul,uk,kk,kg,kx,sx,cp,gn,bs_append,l1,l2,l3,g3,g0']
theorem next (q k1:Nat) (n:Int) (xs:List Int) (i:Nat) (x:Int) (hx:xs[i]? = some x) (hn:(i:Int) < n) (h16:n ≤ 16) (hl:xs.length=16) (gx:List Int) (c:Option Nat) (ex:Bool) (gl:gx.length ≤ 5) (gn:gx ≠ []) (D:Dg q x gx c ex) (m:Nat) (ys:List Int) (ll:ys.length ≤ 1000):rndO fn74 b q k1 (SR n xs m ys i)=some (.normal,SR n xs (m + 1) (ys ++ gx) (i + 1)):=by
  have hi:i < xs.length:=(List.getElem?_eq_some_iff.1 hx).1
  have w:=w64' ((i:Int) + 1) (by omega) (by omega)
  have wn:=w_i64 n (by omega) (by omega)
  have ia:∀ h,indexAddrA E 33 (.ptr (1,1,0) 1) (.int .i64 (i:Int)) h=some (.ptr (1,1,0) (i + 1)):=fun h => by
    have e:i < 16:=by omega
    have e2:(i:Int) < 16:=by omega
    simp [indexAddrA,E_ty33,E_ty23,TyI.mk1,e,e2]
    all_goals omega
  have rd:((Q22.u32s xs).drop i).take 1=[.int .u32 x]:=by
    have e:(Q22.u32s xs)[i]? = some (.int .u32 x):=by unfold Q22.u32s; rw [List.getElem?_map,hx]; rfl
    obtain ⟨z1,z2⟩:=List.getElem?_eq_some_iff.1 e
    rw [List.drop_eq_getElem_cons z1,z2]
    rfl
  have ul:(Q22.u32s xs).length=16:=by unfold Q22.u32s; simp [hl]
  have uk:=Q22.u32s_keys xs
  have l1:i + 1 + 1 ≤ 17:=by omega
  have l2:i + 1 ≤ 16:=by omega
  have l3:i < 16:=by omega
  have g1:0 < gx.length:=List.length_pos_iff.2 gn
  have g0':¬ gx.length=0:=by omega
  have kx:=bs_kl gx
  have sx:=bs_all gx
  have kk:AV.keysL (bs ys ++ bs gx)=[]:=by rw [← bs_append]; exact bs_kl _
  have kg:=bs_kl ys
  have cp:ys.length + gx.length ≤ 70368744177664:=by omega
  unfold Dg at D
  simp [b,lp,lps,c74,-indexAddrA,ia,w,wn,hn,D,rd,ul,uk,kk,kg,kx,sx,cp,gn,bs_append,l1,l2,l3,g0']
abbrev OutR (n:Int) (xs:List Int) (m:Nat) (ys:List Int) (i:Nat):AExit × St:=(.exit 0,⟨(SR n xs m ys i).t ++ [(18,.bool false)],(SR n xs m ys i).h⟩)
abbrev Out0 (n:Int) (xs g0:List Int) (c0:Option Nat) (e0:Bool) (i:Nat):AExit × St:=(.exit 0,⟨(S0 n xs g0 c0 e0 i).t ++ [(18,.bool false)],(S0 n xs g0 c0 e0 i).h⟩)
theorem last0 (q k1:Nat) (n:Int) (xs g0 c0 e0) (i:Nat) (hn:(i:Int)=n) (h16:n ≤ 16):rndO fn74 b q k1 (S0 n xs g0 c0 e0 i)=some (Out0 n xs g0 c0 e0 i):=by
  have uk:=Q22.u32s_keys xs
  have kg:=bs_kl g0
  have wn:=w_i64 n (by omega) (by omega)
  have h':¬ (i:Int) < n:=by omega
  subst hn
  simp [b,lp,lps,c74,uk,kg,wn,h']
theorem lastR (q k1:Nat) (n:Int) (xs m ys) (i:Nat) (hn:(i:Int)=n) (h16:n ≤ 16):rndO fn74 b q k1 (SR n xs m ys i)=some (OutR n xs m ys i):=by
  have uk:=Q22.u32s_keys xs
  have kg:=bs_kl ys
  have wn:=w_i64 n (by omega) (by omega)
  have h':¬ (i:Int) < n:=by omega
  subst hn
  simp [b,lp,lps,c74,uk,kg,wn,h']
abbrev Lp (K:Nat):=aLoop (aCode E (site fn74 (aRun E K)) (dcall (aRun E K)) K 1 fn74 b) (cleanS 1 ((firstReg b).bind fn74.head))
theorem loop (K:Nat) (hK:20 ≤ K) (n:Int) (h16:n ≤ 16) (xs:List Int) (hl:xs.length=16) (hx:∀ x ∈ xs,0 ≤ x ∧ x < 4294967296):∀ (m i mm k:Nat) (ys:List Int),((i + m:Nat):Int)=n → ys.length + 5 * m ≤ 1000 → m < k →
    ∃ mm',Lp K k (SR n xs mm ys i)=some (OutR n xs mm' (ys ++ ((xs.drop i).take m).flatMap OG.grp) (i + m))
  | 0,i,mm,k,ys,h,hy,hk => by
    obtain ⟨k,rfl⟩:∃ j,k=j + 1:=⟨k - 1,by omega⟩
    refine ⟨mm,?_⟩
    rw [List.take_zero,List.flatMap_nil,List.append_nil]
    exact aLoop_end (lastR K K n xs mm ys i h h16) (fun h => by cases h)
  | m + 1,i,mm,k,ys,h,hy,hk => by
    obtain ⟨k,rfl⟩:∃ j,k=j + 1:=⟨k - 1,by omega⟩
    have hi:i < xs.length:=by omega
    have hxi:xs[i]? = some xs[i]:=List.getElem?_eq_getElem hi
    have hb:=hx _ (List.getElem_mem hi)
    obtain ⟨c,ex,_,D⟩:=DG.op xs[i] hb.1 hb.2
    have gl:=B0h.grp_len xs[i]
    have st:=next K K n xs i xs[i] hxi (by omega) h16 hl (OG.grp xs[i]) c ex gl.2 (fun q => by rw [q] at gl; simp at gl) (D K (by omega)) mm ys (by omega)
    obtain ⟨mm',L⟩:=loop K hK n h16 xs hl hx m (i + 1) (mm + 1) k (ys ++ OG.grp xs[i]) (by omega) (by rw [List.length_append]; omega) (by omega)
    refine ⟨mm',?_⟩
    unfold Lp at L ⊢
    rw [aLoop_succ st,L,List.drop_eq_getElem_cons hi,List.take_succ_cons,List.flatMap_cons,← List.append_assoc,show i + 1 + m=i + (m + 1) from by omega]
theorem oid (n x y:Int) (r:List Int) (hl:(x :: y :: r).length=16) (n2:2 ≤ n) (h16:n ≤ 16) (hx:∀ z ∈ x :: y :: r,0 ≤ z ∧ z < 4294967296) (sm:40 * x + y < 4294967296):∃ N c,Con E N 74 [.agg (cs n (x :: y :: r))] (.sl false (bs (OP.octs n (x :: y :: r))) c):=by
  have bx0:=hx x (by simp)
  have by0:=hx y (by simp)
  have w1:40 * x % 4294967296=40 * x:=by omega
  have w2:(40 * x + y) % 4294967296=40 * x + y:=by omega
  obtain ⟨K,hK⟩:∃ K,K=60:=⟨_,rfl⟩
  obtain ⟨c0,e0,hc0,D0⟩:=DG.op (40 * x + y) (by omega) sm
  have D0:=D0 K (by omega)
  have gl0:=B0h.grp_len (40 * x + y)
  obtain ⟨m,hm⟩:∃ m:Nat,n=(m:Int) + 2:=⟨(n - 2).toNat,by omega⟩
  have oc:OP.octs n (x :: y :: r)=OG.grp (40 * x + y) ++ (r.take m).flatMap OG.grp:=by
    unfold OP.octs OP.subs
    simp only [List.flatMap_cons]
    rw [show n.toNat - 2=m from by omega,show y + 40 * x=40 * x + y from by omega]
  rw [oc]
  obtain ⟨d,hd⟩:∃ d,OG.grp (40 * x + y)=d:=⟨_,rfl⟩
  rw [hd] at D0 gl0 hc0 ⊢
  have ue:Q22.u32s (x :: y :: r)=.int .u32 x :: .int .u32 y :: Q22.u32s r:=rfl
  have uk:=Q22.u32s_keys r
  have up:=Q22.u32s_pure r
  have us:∀ a ∈ Q22.u32s r,a.scal=true:=fun a ha => by
    obtain ⟨w,_,rfl⟩:=List.mem_map.1 ha
    rfl
  have ul:(Q22.u32s r).length=14:=by unfold Q22.u32s; simp at hl ⊢; omega
  have dk:=bs_kl d
  cases m with
  | zero =>
    have L:Lp K K (S0 n (x :: y :: r) d c0 e0 2)=some (Out0 n (x :: y :: r) d c0 e0 2):=by
      subst hK
      exact aLoop_end (k:=59) (last0 60 60 n _ d c0 e0 2 (by omega) h16) (fun h => by cases h)
    refine ⟨K + 1,c0,con_ofO E_fn74 (by simp [AV.pureL,AV.pure,Q22.u32s_pure]) (Nat.le_of_ble_eq_true rfl) rfl (g:=[]) ?_⟩
    rw [body_74,c74]
    simp [Lp,b,lp,lps,c74,firstReg,S0,Out0,bx,cs,ue] at L
    simp [-s_round,L,D0,w1,w2,uk,up,ul,cs,ue,dk]
    rw [if_pos us]
    simp [-s_round,L,D0,w1,w2,uk,up,ul,dk]
  | succ m =>
    obtain ⟨z,r',rfl⟩:∃ z r',r=z :: r':=by
      cases r with
      | nil => simp at hl
      | cons z r' => exact ⟨z,r',rfl⟩
    have bz:=hx z (by simp)
    obtain ⟨c,ex,_,D⟩:=DG.op z bz.1 bz.2
    have gl:=B0h.grp_len z
    have st:=first K K n (x :: y :: z :: r') 2 z rfl (by omega) h16 hl (OG.grp z) c ex gl.2 (fun q => by rw [q] at gl; simp at gl) (D K (by omega)) d c0 e0 gl0.2 hc0
    obtain ⟨mm,L0⟩:=loop K (by omega) n h16 (x :: y :: z :: r') hl hx m 3 0 59 (d ++ OG.grp z) (by omega) (by rw [List.length_append]; omega) (by omega)
    have L:Lp K K (S0 n (x :: y :: z :: r') d c0 e0 2)=some (OutR n (x :: y :: z :: r') mm (d ++ ((z :: r').take (m + 1)).flatMap OG.grp) (3 + m)):=by
      have e:(d ++ OG.grp z) ++ (((x :: y :: z :: r').drop 3).take m).flatMap OG.grp=d ++ ((z :: r').take (m + 1)).flatMap OG.grp:=by simp
      rw [e] at L0
      rw [← L0]
      subst hK
      unfold Lp
      exact aLoop_succ (k:=59) st
    obtain ⟨ys,hys⟩:∃ ys,d ++ ((z :: r').take (m + 1)).flatMap OG.grp=ys:=⟨_,rfl⟩
    rw [hys] at L ⊢
    have yk:=bs_kl ys
    refine ⟨K + 1,none,con_ofO E_fn74 (by simp [AV.pureL,AV.pure,Q22.u32s_pure]) (Nat.le_of_ble_eq_true rfl) rfl (g:=[]) ?_⟩
    rw [body_74,c74]
    obtain ⟨rr,hr⟩:∃ rr,Q22.u32s (z :: r')=rr:=⟨_,rfl⟩
    rw [hr] at ue uk up ul us
    simp [Lp,b,lp,lps,c74,firstReg,S0,OutR,bx,cs,ue] at L
    simp [-s_round,L,D0,w1,w2,uk,up,ul,cs,ue,yk,dk]
    rw [if_pos us]
    simp [-s_round,L,D0,w1,w2,uk,up,ul,yk,dk]
end B0g
end
section
open Ab Go TabE Sp E34 F1 Rw F5 F6 F7 F8 F43 F47 AP A1 A2 A6 A7 A10 K1 K3
namespace A12
abbrev ro (o:List Int) (c:Option Nat):El:=.mk 0 false 6 false o c true [] (some 0)
abbrev rt (s:List El) (c:Option Nat):El:=.mk 0 true 16 true [] (some 0) false s c
abbrev rb (o:List Int) (c:Option Nat):El:=.mk 0 false 3 false o c true [] (some 0)
theorem ref1 (K:Nat) (hK:30 ≤ K) (n x0 x1 x2 x3 x4 x5 x6 x7 x8 x9 x10 x11 x12 x13 x14 x15:Int) (p:El) (o:List Int) (c:Option Nat) (O:∀ h,aCall E K 0 74 [.agg [.int .u8 n,.int .u32 x0,.int .u32 x1,.int .u32 x2,.int .u32 x3,.int .u32 x4,.int .u32 x5,.int .u32 x6,.int .u32 x7,.int .u32 x8,.int .u32 x9,.int .u32 x10,.int .u32 x11,.int .u32 x12,.int .u32 x13,.int .u32 x14,.int .u32 x15]] h=some (.ret (.sl false (bs o) c),h)):Con E (K + 1) 23 [ag n x0 x1 x2 x3 x4 x5 x6 x7 x8 x9 x10 x11 x12 x13 x14 x15 false p] (rt [ro o c] none).av:=by
  have pl:=El.avs_pure p.s
  have kk:=El.avs_keys p.s
  have ko:=bs_kl o
  refine con_of E_fn23 (by simp [AV.pureL,AV.pure,El.avs_pure]) (Nat.le_of_ble_eq_true rfl) rfl rfl (g:=[]) ?_
  rw [body_23,c23]
  simp [Call.operands,O,pl,kk,ko,SG.sl_g,SG.sealG,SG.sealYG,El.av,El.avs]
theorem ref2 (K:Nat) (hK:30 ≤ K) (n x0 x1 x2 x3 x4 x5 x6 x7 x8 x9 x10 x11 x12 x13 x14 x15:Int) (p:El) (o:List Int) (c:Option Nat) (O:∀ h,aCall E K 0 74 [.agg [.int .u8 n,.int .u32 x0,.int .u32 x1,.int .u32 x2,.int .u32 x3,.int .u32 x4,.int .u32 x5,.int .u32 x6,.int .u32 x7,.int .u32 x8,.int .u32 x9,.int .u32 x10,.int .u32 x11,.int .u32 x12,.int .u32 x13,.int .u32 x14,.int .u32 x15]] h=some (.ret (.sl false (bs o) c),h)):Con E (K + 1) 23 [ag n x0 x1 x2 x3 x4 x5 x6 x7 x8 x9 x10 x11 x12 x13 x14 x15 true p] (rt [ro o c,p] none).av:=by
  have pl:=El.avs_pure p.s
  have kk:=El.avs_keys p.s
  have ko:=bs_kl o
  have kb:=bs_kl p.b
  refine con_of E_fn23 (by simp [AV.pureL,AV.pure,El.avs_pure]) (Nat.le_of_ble_eq_true rfl) rfl rfl (g:=[]) ?_
  rw [body_23,c23]
  have e:(rt [ro o c,p] none).av=.agg [.int .u8 0,.bool true,.int .u32 16,.sl true [] (some 0),.sl false [(ro o c).av,p.av] none]:=rfl
  rw [e,El.av_eq p]
  simp [Call.operands,O,pl,kk,ko,kb,SG.sl_g,SG.sealG,SG.sealYG,El.av,El.avs]
theorem bits (f:Bool) (c:Option Nat) (u:List Int) (m:Int) (hu:u ≠ []) (hl:u.length ≤ 1000) (m0:0 ≤ 8 * (u.length:Int) - m) (m1:8 * (u.length:Int) - m ≤ 7):Con E 20 79 [.sl f (bs u) c,.int .i64 m] (rb ((8 * (u.length:Int) - m) :: u) none).av:=by
  have w1:=w64' (8 * (u.length:Int)) (by omega) (by omega)
  have w2:=w64' (8 * (u.length:Int) - m) (by omega) (by omega)
  have w3:(8 * (u.length:Int) - m) % 256=8 * (u.length:Int) - m:=by omega
  have lu:=List.length_pos_iff.2 hu
  have f1:¬ u.length=0:=by omega
  have ku:=bs_kl u
  have cp:1 + u.length ≤ 70368744177664:=by omega
  have cp2:u.length + 1 ≤ 70368744177664:=by omega
  have cp3:u.length ≤ 70368744177663:=by omega
  refine con_of E_fn79 (by simp [AV.pureL,AV.pure]) (Nat.le_of_ble_eq_true rfl) rfl rfl (g:=[]) ?_
  rw [body_79,c79]
  simp [El.av,El.avs,w1,w2,w3,hu,f1,ku,cp,cp2,cp3]
end A12
end
end
